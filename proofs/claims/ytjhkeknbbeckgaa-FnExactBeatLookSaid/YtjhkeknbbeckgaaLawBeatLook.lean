/- The law FnExactBeatLook holds: for all arguments the program's BeatLook answers what the reference's answers, in memory of its own. Conditions: none. (The walk is printed by beatlaw.py.) -/
import Derived.Test.YtjhkeknbbeckgaaLookS
import Derived.Test.YtjhkeknbbeckgaaMarkBeat3
import Derived.Deep.RegionHeld3
namespace Go.Proofs.Ytjhkeknbbeckgaa
open Go.ChangeShapes Go.WideShapes Go.ChangeAt Go.RowKit Go.Joins

theorem lookL_le (f1 f2 : Nat → Int) (f3 : Nat → Bool) (now : Int) (ok : Bool) : (look ok f1 f2 f3 now).n ≤ 3 ∧ (look ok f1 f2 f3 now).l.length ≤ 3 := by
  have := lookL_len f1 f2 f3 now 3
  unfold look; repeat' split
  all_goals simp
  omega
theorem IntsIn.chb {S : Nat → Prop} {lo hi n c : Nat} {w w' : World} {A : Option Addr} {l : List Int} (h : IntsIn lo hi w A n c l) (hc : Ch S w w') (hS : ∀ k, BlkOf A k → ¬ S k) : IntsIn lo hi w' A n c l :=
  ⟨⟨own_ch h.row.own hc (fun k hk => hS k (blk_of hk)), h.row.lt⟩⟩
def In3B (A1 A2 A3 : Option Addr) (b : Nat) : Prop := BlkOf A1 b ∨ BlkOf A2 b ∨ BlkOf A3 b
theorem BtIn.chb {S : Nat → Prop} {lo hi : Nat} {w w' : World} {A1 : Option Addr} {n1 c1 : Nat} {f1 : Nat → Int} {A2 : Option Addr} {n2 c2 : Nat} {f2 : Nat → Int} {A3 : Option Addr} {n3 c3 : Nat} {f3 : Nat → Bool}
    (h : BtIn lo hi w A1 n1 c1 f1 A2 n2 c2 f2 A3 n3 c3 f3) (hc : Ch S w w') (hS : ∀ k, In3B A1 A2 A3 k → ¬ S k) : BtIn lo hi w' A1 n1 c1 f1 A2 n2 c2 f2 A3 n3 c3 f3 :=
  ⟨h.r1.chb hc (fun k hk => hS k (.inl hk)), h.r2.chb hc (fun k hk => hS k (.inr (.inl hk))), h.r3.chb hc (fun k hk => hS k (.inr (.inr hk))), h.d12, h.d13, h.d23⟩
theorem BtIn.in3 {lo hi : Nat} {w : World} {A1 : Option Addr} {n1 c1 : Nat} {f1 : Nat → Int} {A2 : Option Addr} {n2 c2 : Nat} {f2 : Nat → Int} {A3 : Option Addr} {n3 c3 : Nat} {f3 : Nat → Bool}
    (h : BtIn lo hi w A1 n1 c1 f1 A2 n2 c2 f2 A3 n3 c3 f3) : ∀ k, In3B A1 A2 A3 k → Iv lo hi k := fun k hk => by
  rcases hk with hk | hk | hk
  · exact (h.r1.blk hk).1
  · exact (h.r2.blk hk).1
  · exact (h.r3.blk hk).1
theorem beat_markb (A1 : Option Addr) (n1 c1 : Nat) (f1 : Nat → Int) (A2 : Option Addr) (n2 c2 : Nat) (f2 : Nat → Int) (A3 : Option Addr) (n3 c3 : Nat) (f3 : Nat → Bool) (k : Int) (lo hi : Nat) (w : World)
    (h : BtIn lo hi w A1 n1 c1 f1 A2 n2 c2 f2 A3 n3 c3 f3) (h1 : n1 ≤ 16777216) (h2 : n2 ≤ 16777216) (h3 : n3 ≤ 16777216) (hk0 : 0 ≤ k) (hk1 : k ≤ 288230376151711744) :
    Calls Try.prog 36 #[.agg #[.slice A1 n1 c1, .slice A2 n2 c2, .slice A3 n3 c3], .int .i64 k] w fun e w' => e = .returned (.int .i64 (k + n1 + n2 + n3)) ∧
      BtIn lo hi w' A1 n1 c1 (mkI k) A2 n2 c2 (mkI (k + n1)) A3 n3 c3 (mkB (k + n1 + n2)) ∧ Ch (In3B A1 A2 A3) w w' := by
  have i1 := fun b hb => (h.r1.blk (g := b) hb)
  have i2 := fun b hb => (h.r2.blk (g := b) hb)
  have i3 := fun b hb => (h.r3.blk (g := b) hb)
  have al := (Below.refl w.heap.size w).alloc (Nat.le_refl _) (.cells #[.slice A1 n1 c1, .slice A2 n2 c2, .slice A3 n3 c3] 27)
  go_enter Try.func36, Try.ntmps36
  go_wp2_with fail
  refine (markInts_row A1 n1 c1 _ k lo hi _ _ (h.r1.keep al) h1 hk0 (by omega)).mono ?_
  rintro e w1 ⟨rfl, ho1, hc1⟩
  have z1 : w1.cell? ⟨w.heap.size, 1, none⟩ = some (.slice A2 n2 c2) := hc1.cell (by simp [go_sem]) (fun hb => by have := (i1 _ hb).2; omega)
  have z2 : w1.cell? ⟨w.heap.size, 2, none⟩ = some (.slice A3 n3 c3) := hc1.cell (by simp [go_sem]) (fun hb => by have := (i1 _ hb).2; omega)
  have C1 : Ch (In3B A1 A2 A3) w w1 := (Ch.of_below al).trans (hc1.mono fun b hb => .inl hb)
  have r2 := ((h.r2.keep al).chb hc1 (fun b hb hb2 => h.d12 b hb2 hb))
  have r3 := ((h.r3.keep al).chb hc1 (fun b hb hb2 => h.d13 b hb2 hb))
  go_wp2_with fail
  refine (markInts_row A2 n2 c2 _ _ lo hi _ _ r2 h2 (by omega) (by omega)).mono ?_
  rintro e w2 ⟨rfl, ho2, hc2⟩
  have z3 : w2.cell? ⟨w.heap.size, 2, none⟩ = some (.slice A3 n3 c3) := hc2.cell z2 (fun hb => by have := (i2 _ hb).2; omega)
  have C2 : Ch (In3B A1 A2 A3) w w2 := C1.trans (hc2.mono fun b hb => .inr (.inl hb))
  have r3' := r3.chb hc2 (fun b hb hb2 => h.d23 b hb2 hb)
  have q1 := ho1.chb hc2 (fun b hb hb2 => h.d12 b hb hb2)
  go_wp2_with fail
  refine (markBools_row A3 n3 c3 _ _ lo hi _ _ r3' h3 (by omega) (by omega)).mono ?_
  rintro e w3 ⟨rfl, ho3, hc3⟩
  go_wp2
  go_returns
  exact ⟨rfl, ⟨q1.chb hc3 (fun b hb hb2 => h.d13 b hb hb2), ho2.chb hc3 (fun b hb hb2 => h.d23 b hb hb2), ho3, h.d12, h.d13, h.d23⟩, C2.trans (hc3.mono fun b hb => .inr (.inr hb))⟩


set_option maxRecDepth 20000 in
set_option maxHeartbeats 2000000 in
theorem fnExactBeatLook_any (A1 : Option Addr) (n1 c1 : Nat) (f1 : Nat → Int) (A2 : Option Addr) (n2 c2 : Nat) (f2 : Nat → Int) (A3 : Option Addr) (n3 c3 : Nat) (f3 : Nat → Bool) (now : Int) (w : World)
    (h : BtAt w A1 n1 f1 A2 n2 f2 A3 n3 f3) (h1 : n1 ≤ 9223372036854775807) (h2 : n2 ≤ 9223372036854775807) (h3 : n3 ≤ 9223372036854775807) :
    Calls Try.prog 10 #[.agg #[.slice A1 n1 c1, .slice A2 n2 c2, .slice A3 n3 c3], .int .i64 now] w fun e w' => e = .returned (.bool true) ∧ Below w.heap.size w w' := by
  by_cases hsz : ((n1 + n2 + n3 : Nat) : Int) ≤ 1048576
  · have HR := Lib.hid (szR_yes hsz)
    have hge : ¬ ((1048576 : Int) - ((n1 + n2 + n3 : Nat) : Int) < 0) := by omega
    have m1 : n1 ≤ 16777216 := by omega
    have m2 : n2 ≤ 16777216 := by omega
    have m3 : n3 ≤ 16777216 := by omega
    obtain ⟨V, hV⟩ : ∃ V, look (beatOkB n1 n2 n3 f1 f2) f1 f2 f3 now = V := ⟨_, rfl⟩
    obtain ⟨hVn, hVl⟩ : V.n ≤ 3 ∧ V.l.length ≤ 3 := by rw [← hV]; exact lookL_le _ _ _ _ _
    have hVs : intsSz V.l ≤ 16777216 := by unfold intsSz; omega
    have hVc : (intsCnt V.l : Int) ≤ 3 := by unfold intsCnt; omega
    have HS := Lib.hid (fun A1 c1 A2 c2 A3 c3 w h => beatLook_spec A1 n1 c1 f1 A2 n2 c2 f2 A3 n3 c3 f3 now w h)
    have HI := Lib.hid (fun A1 c1 A2 c2 A3 c3 w h => beatLook_impl A1 n1 c1 f1 A2 n2 c2 f2 A3 n3 c3 f3 now w h)
    rw [hV] at HS HI
    unfold LookR at HS HI
    clear hV hsz
    go_enter Try.func10, Try.ntmps10
    go_wp2_with fail
    refine (szBeat_any _ _ _ _ _ _ _ _ _ _ _ h1 h2 h3 (by omega) (by omega)).mono ?_
    rintro e w1 ⟨rfl, hb1⟩; rw [HR.out]
    have bA_0 : w1.cell? ⟨w.heap.size, 0, none⟩ = some (.slice A1 n1 c1) := keep_cell hb1 (by simp [go_sem])
    have bA_1 : w1.cell? ⟨w.heap.size, 1, none⟩ = some (.slice A2 n2 c2) := keep_cell hb1 (by simp [go_sem])
    have bA_2 : w1.cell? ⟨w.heap.size, 2, none⟩ = some (.slice A3 n3 c3) := keep_cell hb1 (by simp [go_sem])
    have hB_w1 : Below w.heap.size w w1 := bthen ((Below.refl _ _).alloc (Nat.le_refl _) _) hb1
    have hz_w1 := hb1.size
    simp at hz_w1
    go_wp2_with fail
    refine (beat_to _ _ _ f1 _ _ _ f2 _ _ _ f3 _ (h.keep hB_w1) m1 m2 m3).mono ?_
    rintro e w2 ⟨PA, PB, PC, rfl, P, hb2⟩
    have bA_0' := keep_cell hb2 bA_0; clear bA_0; have bA_0 := bA_0'; clear bA_0'
    have bA_1' := keep_cell hb2 bA_1; clear bA_1; have bA_1 := bA_1'; clear bA_1'
    have bA_2' := keep_cell hb2 bA_2; clear bA_2; have bA_2 := bA_2'; clear bA_2'
    have hB_w2 := bthen hB_w1 hb2
    have hz_w2 := hb2.size
    go_wp2_with fail
    refine (HS.out _ _ _ _ _ _ _ P.at_).mono ?_
    rintro e w3 ⟨SA, Sa, SB, Sb, SC, Sc, SD, Sn, Sd, rfl, S, SL, SO, hb3⟩
    have bA_0' := keep_cell hb3 bA_0; clear bA_0; have bA_0 := bA_0'; clear bA_0'
    have bA_1' := keep_cell hb3 bA_1; clear bA_1; have bA_1 := bA_1'; clear bA_1'
    have bA_2' := keep_cell hb3 bA_2; clear bA_2; have bA_2 := bA_2'; clear bA_2'
    have P' := P.keep hb3; clear P; have P := P'; clear P'
    have hB_w3 := bthen hB_w2 hb3
    have hz_w3 := hb3.size
    clear P
    have hq0 : w.heap.size < w3.heap.size := by omega
    go_wp2_with fail
    obtain ⟨W3, hW⟩ : ∃ W, W = w3.alloc (.cells #[.slice SA V.n Sa, .slice SB V.n Sb, .slice SC V.n Sc] 27) := ⟨_, rfl⟩
    have bS_0 : W3.cell? ⟨w3.heap.size, 0, none⟩ = some (.slice SA V.n Sa) := by rw [hW]; simp [go_sem]
    have bS_1 : W3.cell? ⟨w3.heap.size, 1, none⟩ = some (.slice SB V.n Sb) := by rw [hW]; simp [go_sem]
    have bS_2 : W3.cell? ⟨w3.heap.size, 2, none⟩ = some (.slice SC V.n Sc) := by rw [hW]; simp [go_sem]
    have hbA : Below w3.heap.size w3 W3 := by rw [hW]; exact (Below.refl _ _).alloc (Nat.le_refl _) _
    have hs_W3 : W3.heap.size = w3.heap.size + 1 := by rw [hW]; simp
    rw [← hW]
    clear hW
    have bA_0' := keep_cell hbA bA_0; clear bA_0; have bA_0 := bA_0'; clear bA_0'
    have bA_1' := keep_cell hbA bA_1; clear bA_1; have bA_1 := bA_1'; clear bA_1'
    have bA_2' := keep_cell hbA bA_2; clear bA_2; have bA_2 := bA_2'; clear bA_2'
    have S' := S.keep hbA; clear S; have S := S'; clear S'
    have SL' := SL.keep hbA; clear SL; have SL := SL'; clear SL'
    have hB_W3 := bthen hB_w3 hbA
    have hz_W3 := hbA.size
    clear hbA
    go_wp2_with fail
    refine (beat_to _ _ _ f1 _ _ _ f2 _ _ _ f3 _ (h.keep hB_W3) m1 m2 m3).mono ?_
    rintro e w4 ⟨XA, XB, XC, rfl, X, hb4⟩
    have bA_0' := keep_cell hb4 bA_0; clear bA_0; have bA_0 := bA_0'; clear bA_0'
    have bA_1' := keep_cell hb4 bA_1; clear bA_1; have bA_1 := bA_1'; clear bA_1'
    have bA_2' := keep_cell hb4 bA_2; clear bA_2; have bA_2 := bA_2'; clear bA_2'
    have bS_0' := keep_cell hb4 bS_0; clear bS_0; have bS_0 := bS_0'; clear bS_0'
    have bS_1' := keep_cell hb4 bS_1; clear bS_1; have bS_1 := bS_1'; clear bS_1'
    have bS_2' := keep_cell hb4 bS_2; clear bS_2; have bS_2 := bS_2'; clear bS_2'
    have S' := S.keep hb4; clear S; have S := S'; clear S'
    have SL' := SL.keep hb4; clear SL; have SL := SL'; clear SL'
    have hB_w4 := bthen hB_W3 hb4
    have hz_w4 := hb4.size
    have hq0 : w.heap.size < w4.heap.size := by omega
    have hq1 : w3.heap.size < w4.heap.size := by omega
    go_wp2_with fail
    obtain ⟨W4, hW⟩ : ∃ W, W = w4.alloc (.cells #[.slice XA n1 n1, .slice XB n2 n2, .slice XC n3 n3] 27) := ⟨_, rfl⟩
    have bX_0 : W4.cell? ⟨w4.heap.size, 0, none⟩ = some (.slice XA n1 n1) := by rw [hW]; simp [go_sem]
    have bX_1 : W4.cell? ⟨w4.heap.size, 1, none⟩ = some (.slice XB n2 n2) := by rw [hW]; simp [go_sem]
    have bX_2 : W4.cell? ⟨w4.heap.size, 2, none⟩ = some (.slice XC n3 n3) := by rw [hW]; simp [go_sem]
    have hbA : Below w4.heap.size w4 W4 := by rw [hW]; exact (Below.refl _ _).alloc (Nat.le_refl _) _
    have hs_W4 : W4.heap.size = w4.heap.size + 1 := by rw [hW]; simp
    rw [← hW]
    clear hW
    have bA_0' := keep_cell hbA bA_0; clear bA_0; have bA_0 := bA_0'; clear bA_0'
    have bA_1' := keep_cell hbA bA_1; clear bA_1; have bA_1 := bA_1'; clear bA_1'
    have bA_2' := keep_cell hbA bA_2; clear bA_2; have bA_2 := bA_2'; clear bA_2'
    have bS_0' := keep_cell hbA bS_0; clear bS_0; have bS_0 := bS_0'; clear bS_0'
    have bS_1' := keep_cell hbA bS_1; clear bS_1; have bS_1 := bS_1'; clear bS_1'
    have bS_2' := keep_cell hbA bS_2; clear bS_2; have bS_2 := bS_2'; clear bS_2'
    have S' := S.keep hbA; clear S; have S := S'; clear S'
    have SL' := SL.keep hbA; clear SL; have SL := SL'; clear SL'
    have X' := X.keep hbA; clear X; have X := X'; clear X'
    have hB_W4 := bthen hB_w4 hbA
    have hz_W4 := hbA.size
    clear hbA
    go_wp2_with fail
    refine (HI.out _ _ _ _ _ _ _ X.at_).mono ?_
    rintro e w5 ⟨GA, Ga, GB, Gb, GC, Gc, GD, Gn, Gd, rfl, G, GL, GO, hb5⟩
    have bA_0' := keep_cell hb5 bA_0; clear bA_0; have bA_0 := bA_0'; clear bA_0'
    have bA_1' := keep_cell hb5 bA_1; clear bA_1; have bA_1 := bA_1'; clear bA_1'
    have bA_2' := keep_cell hb5 bA_2; clear bA_2; have bA_2 := bA_2'; clear bA_2'
    have bS_0' := keep_cell hb5 bS_0; clear bS_0; have bS_0 := bS_0'; clear bS_0'
    have bS_1' := keep_cell hb5 bS_1; clear bS_1; have bS_1 := bS_1'; clear bS_1'
    have bS_2' := keep_cell hb5 bS_2; clear bS_2; have bS_2 := bS_2'; clear bS_2'
    have bX_0' := keep_cell hb5 bX_0; clear bX_0; have bX_0 := bX_0'; clear bX_0'
    have bX_1' := keep_cell hb5 bX_1; clear bX_1; have bX_1 := bX_1'; clear bX_1'
    have bX_2' := keep_cell hb5 bX_2; clear bX_2; have bX_2 := bX_2'; clear bX_2'
    have S' := S.keep hb5; clear S; have S := S'; clear S'
    have SL' := SL.keep hb5; clear SL; have SL := SL'; clear SL'
    have X' := X.keep hb5; clear X; have X := X'; clear X'
    have hB_w5 := bthen hB_W4 hb5
    have hz_w5 := hb5.size
    have hq0 : w.heap.size < w5.heap.size := by omega
    have hq1 : w3.heap.size < w5.heap.size := by omega
    have hq2 : w4.heap.size < w5.heap.size := by omega
    go_wp2_with fail
    obtain ⟨W5, hW⟩ : ∃ W, W = w5.alloc (.cells #[.slice GA V.n Ga, .slice GB V.n Gb, .slice GC V.n Gc] 27) := ⟨_, rfl⟩
    have bG_0 : W5.cell? ⟨w5.heap.size, 0, none⟩ = some (.slice GA V.n Ga) := by rw [hW]; simp [go_sem]
    have bG_1 : W5.cell? ⟨w5.heap.size, 1, none⟩ = some (.slice GB V.n Gb) := by rw [hW]; simp [go_sem]
    have bG_2 : W5.cell? ⟨w5.heap.size, 2, none⟩ = some (.slice GC V.n Gc) := by rw [hW]; simp [go_sem]
    have hbA : Below w5.heap.size w5 W5 := by rw [hW]; exact (Below.refl _ _).alloc (Nat.le_refl _) _
    have hs_W5 : W5.heap.size = w5.heap.size + 1 := by rw [hW]; simp
    rw [← hW]
    clear hW
    have bA_0' := keep_cell hbA bA_0; clear bA_0; have bA_0 := bA_0'; clear bA_0'
    have bA_1' := keep_cell hbA bA_1; clear bA_1; have bA_1 := bA_1'; clear bA_1'
    have bA_2' := keep_cell hbA bA_2; clear bA_2; have bA_2 := bA_2'; clear bA_2'
    have bS_0' := keep_cell hbA bS_0; clear bS_0; have bS_0 := bS_0'; clear bS_0'
    have bS_1' := keep_cell hbA bS_1; clear bS_1; have bS_1 := bS_1'; clear bS_1'
    have bS_2' := keep_cell hbA bS_2; clear bS_2; have bS_2 := bS_2'; clear bS_2'
    have bX_0' := keep_cell hbA bX_0; clear bX_0; have bX_0 := bX_0'; clear bX_0'
    have bX_1' := keep_cell hbA bX_1; clear bX_1; have bX_1 := bX_1'; clear bX_1'
    have bX_2' := keep_cell hbA bX_2; clear bX_2; have bX_2 := bX_2'; clear bX_2'
    have S' := S.keep hbA; clear S; have S := S'; clear S'
    have SL' := SL.keep hbA; clear SL; have SL := SL'; clear SL'
    have X' := X.keep hbA; clear X; have X := X'; clear X'
    have G' := G.keep hbA; clear G; have G := G'; clear G'
    have GL' := GL.keep hbA; clear GL; have GL := GL'; clear GL'
    have hB_W5 := bthen hB_w5 hbA
    have hz_W5 := hbA.size
    clear hbA
    go_wp2_with fail
    refine (eqBeat_same _ _ _ _ _ _ _ _ _ _ _ _ _ _ _ _ _ _ _ G.at_ S.at_ (by omega) (by omega) (by omega)).mono ?_
    rintro e w6 ⟨rfl, hb6⟩
    have bA_0' := keep_cell hb6 bA_0; clear bA_0; have bA_0 := bA_0'; clear bA_0'
    have bA_1' := keep_cell hb6 bA_1; clear bA_1; have bA_1 := bA_1'; clear bA_1'
    have bA_2' := keep_cell hb6 bA_2; clear bA_2; have bA_2 := bA_2'; clear bA_2'
    have bS_0' := keep_cell hb6 bS_0; clear bS_0; have bS_0 := bS_0'; clear bS_0'
    have bS_1' := keep_cell hb6 bS_1; clear bS_1; have bS_1 := bS_1'; clear bS_1'
    have bS_2' := keep_cell hb6 bS_2; clear bS_2; have bS_2 := bS_2'; clear bS_2'
    have bX_0' := keep_cell hb6 bX_0; clear bX_0; have bX_0 := bX_0'; clear bX_0'
    have bX_1' := keep_cell hb6 bX_1; clear bX_1; have bX_1 := bX_1'; clear bX_1'
    have bX_2' := keep_cell hb6 bX_2; clear bX_2; have bX_2 := bX_2'; clear bX_2'
    have bG_0' := keep_cell hb6 bG_0; clear bG_0; have bG_0 := bG_0'; clear bG_0'
    have bG_1' := keep_cell hb6 bG_1; clear bG_1; have bG_1 := bG_1'; clear bG_1'
    have bG_2' := keep_cell hb6 bG_2; clear bG_2; have bG_2 := bG_2'; clear bG_2'
    have S' := S.keep hb6; clear S; have S := S'; clear S'
    have SL' := SL.keep hb6; clear SL; have SL := SL'; clear SL'
    have X' := X.keep hb6; clear X; have X := X'; clear X'
    have G' := G.keep hb6; clear G; have G := G'; clear G'
    have GL' := GL.keep hb6; clear GL; have GL := GL'; clear GL'
    have hB_w6 := bthen hB_W5 hb6
    have hz_w6 := hb6.size
    go_wp2_with fail
    refine (ints_eq _ _ _ _ _ _ _ _ GL.at_ SL.at_ hVs).mono ?_
    rintro e w7 ⟨rfl, hb7⟩
    have bA_0' := keep_cell hb7 bA_0; clear bA_0; have bA_0 := bA_0'; clear bA_0'
    have bA_1' := keep_cell hb7 bA_1; clear bA_1; have bA_1 := bA_1'; clear bA_1'
    have bA_2' := keep_cell hb7 bA_2; clear bA_2; have bA_2 := bA_2'; clear bA_2'
    have bS_0' := keep_cell hb7 bS_0; clear bS_0; have bS_0 := bS_0'; clear bS_0'
    have bS_1' := keep_cell hb7 bS_1; clear bS_1; have bS_1 := bS_1'; clear bS_1'
    have bS_2' := keep_cell hb7 bS_2; clear bS_2; have bS_2 := bS_2'; clear bS_2'
    have bX_0' := keep_cell hb7 bX_0; clear bX_0; have bX_0 := bX_0'; clear bX_0'
    have bX_1' := keep_cell hb7 bX_1; clear bX_1; have bX_1 := bX_1'; clear bX_1'
    have bX_2' := keep_cell hb7 bX_2; clear bX_2; have bX_2 := bX_2'; clear bX_2'
    have bG_0' := keep_cell hb7 bG_0; clear bG_0; have bG_0 := bG_0'; clear bG_0'
    have bG_1' := keep_cell hb7 bG_1; clear bG_1; have bG_1 := bG_1'; clear bG_1'
    have bG_2' := keep_cell hb7 bG_2; clear bG_2; have bG_2 := bG_2'; clear bG_2'
    have S' := S.keep hb7; clear S; have S := S'; clear S'
    have SL' := SL.keep hb7; clear SL; have SL := SL'; clear SL'
    have X' := X.keep hb7; clear X; have X := X'; clear X'
    have G' := G.keep hb7; clear G; have G := G'; clear G'
    have GL' := GL.keep hb7; clear GL; have GL := GL'; clear GL'
    have hB_w7 := bthen hB_w6 hb7
    have hz_w7 := hb7.size
    go_wp2
    have h6 := h.keep hB_w7
    go_region_held3 (fun w' => w'.cell? ⟨w.heap.size, 0, none⟩ = some (.slice A1 n1 c1) ∧ w'.cell? ⟨w.heap.size, 1, none⟩ = some (.slice A2 n2 c2) ∧ w'.cell? ⟨w.heap.size, 2, none⟩ = some (.slice A3 n3 c3) ∧ w'.cell? ⟨w4.heap.size, 0, none⟩ = some (.slice XA n1 n1) ∧ w'.cell? ⟨w4.heap.size, 1, none⟩ = some (.slice XB n2 n2) ∧ w'.cell? ⟨w4.heap.size, 2, none⟩ = some (.slice XC n3 n3) ∧ BtAt w' XA n1 f1 XB n2 f2 XC n3 f3 ∧ Below w7.heap.size w7 w') (first | (have hh := ‹_ ∧ _›; exact ⟨keep_cell hbw hh.1, keep_cell hbw hh.2.1, keep_cell hbw hh.2.2.1, keep_cell hbw hh.2.2.2.1, keep_cell hbw hh.2.2.2.2.1, keep_cell hbw hh.2.2.2.2.2.1, hh.2.2.2.2.2.2.1.keep hbw, bthen hh.2.2.2.2.2.2.2 hbw⟩) | (have hh := ‹_ ∧ _›; exact ⟨hh.1, hh.2.1, hh.2.2.1, hh.2.2.2.1, hh.2.2.2.2.1, hh.2.2.2.2.2.1, hh.2.2.2.2.2.2.1.keep (Below.refl _ _).drew, hh.2.2.2.2.2.2.2.drew⟩) | exact ⟨bA_0, bA_1, bA_2, bX_0, bX_1, bX_2, X.at_.keep (Below.refl _ _).drew, (Below.refl _ _).drew⟩) (first | (go_at_call 32; refine (beat_to _ _ _ f1 _ _ _ f2 _ _ _ f3 _ (h6.keep (by have hh := ‹_ ∧ _›; exact hh.2.2.2.2.2.2.2)) m1 m2 m3).mono ?_; rintro e wa ⟨q1, q2, q3, rfl, hoa, hbw⟩) | (go_at_call 34; refine (eqBeat_same _ _ _ f1 _ _ _ f2 _ _ _ f3 _ _ _ _ _ _ _ (by have hh := ‹_ ∧ _›; exact hh.2.2.2.2.2.2.1) (by first | exact hoa.at_ | exact hoa.at_.keep (Below.refl _ _).drew) (by omega) (by omega) (by omega)).mono ?_; rintro e wb ⟨rfl, hbw⟩))
    have hbr := (by have hh := ‹_ ∧ _›; exact hh.2.2.2.2.2.2.2 : Below w7.heap.size w7 _)
    clear h6
    obtain ⟨w8, hw7⟩ : ∃ W, W = wb := ⟨_, rfl⟩
    rw [← hw7] at hbr ⊢
    clear hw7
    have bA_0' := keep_cell hbr bA_0; clear bA_0; have bA_0 := bA_0'; clear bA_0'
    have bA_1' := keep_cell hbr bA_1; clear bA_1; have bA_1 := bA_1'; clear bA_1'
    have bA_2' := keep_cell hbr bA_2; clear bA_2; have bA_2 := bA_2'; clear bA_2'
    have bS_0' := keep_cell hbr bS_0; clear bS_0; have bS_0 := bS_0'; clear bS_0'
    have bS_1' := keep_cell hbr bS_1; clear bS_1; have bS_1 := bS_1'; clear bS_1'
    have bS_2' := keep_cell hbr bS_2; clear bS_2; have bS_2 := bS_2'; clear bS_2'
    have bX_0' := keep_cell hbr bX_0; clear bX_0; have bX_0 := bX_0'; clear bX_0'
    have bX_1' := keep_cell hbr bX_1; clear bX_1; have bX_1 := bX_1'; clear bX_1'
    have bX_2' := keep_cell hbr bX_2; clear bX_2; have bX_2 := bX_2'; clear bX_2'
    have bG_0' := keep_cell hbr bG_0; clear bG_0; have bG_0 := bG_0'; clear bG_0'
    have bG_1' := keep_cell hbr bG_1; clear bG_1; have bG_1 := bG_1'; clear bG_1'
    have bG_2' := keep_cell hbr bG_2; clear bG_2; have bG_2 := bG_2'; clear bG_2'
    have S' := S.keep hbr; clear S; have S := S'; clear S'
    have SL' := SL.keep hbr; clear SL; have SL := SL'; clear SL'
    have X' := X.keep hbr; clear X; have X := X'; clear X'
    have G' := G.keep hbr; clear G; have G := G'; clear G'
    have GL' := GL.keep hbr; clear GL; have GL := GL'; clear GL'
    have hB_w8 := bthen hB_w7 hbr
    have hz_w8 := hbr.size
    clear hbr
    go_wp2_with fail
    refine (beat_mark _ _ _ _ _ _ _ _ _ _ _ _ 1 _ _ _ X (by omega) (by omega) (by omega) (by omega) (by omega)).mono ?_
    rintro e w9 ⟨rfl, XM, hc9⟩
    clear X
    have bA_0' := ch_cell hc9 bA_0 (by omega); clear bA_0; have bA_0 := bA_0'; clear bA_0'
    have bA_1' := ch_cell hc9 bA_1 (by omega); clear bA_1; have bA_1 := bA_1'; clear bA_1'
    have bA_2' := ch_cell hc9 bA_2 (by omega); clear bA_2; have bA_2 := bA_2'; clear bA_2'
    have bS_0' := ch_cell hc9 bS_0 (by omega); clear bS_0; have bS_0 := bS_0'; clear bS_0'
    have bS_1' := ch_cell hc9 bS_1 (by omega); clear bS_1; have bS_1 := bS_1'; clear bS_1'
    have bS_2' := ch_cell hc9 bS_2 (by omega); clear bS_2; have bS_2 := bS_2'; clear bS_2'
    have bX_0' := ch_cell hc9 bX_0 (by omega); clear bX_0; have bX_0 := bX_0'; clear bX_0'
    have bX_1' := ch_cell hc9 bX_1 (by omega); clear bX_1; have bX_1 := bX_1'; clear bX_1'
    have bX_2' := ch_cell hc9 bX_2 (by omega); clear bX_2; have bX_2 := bX_2'; clear bX_2'
    have bG_0' := ch_cell hc9 bG_0 (by omega); clear bG_0; have bG_0 := bG_0'; clear bG_0'
    have bG_1' := ch_cell hc9 bG_1 (by omega); clear bG_1; have bG_1 := bG_1'; clear bG_1'
    have bG_2' := ch_cell hc9 bG_2 (by omega); clear bG_2; have bG_2 := bG_2'; clear bG_2'
    have S' := S.ch hc9 (iv_off (by omega)); clear S; have S := S'; clear S'
    have SL' := SL.ch hc9 (iv_off (by omega)); clear SL; have SL := SL'; clear SL'
    have G' := G.ch hc9 (iv_off (by omega)); clear G; have G := G'; clear G'
    have GL' := GL.ch hc9 (iv_off (by omega)); clear GL; have GL := GL'; clear GL'
    have hB_w9 : Below w.heap.size w w9 := hc9.ivb hB_w8 (by omega) (Nat.le_refl _)
    have hz_w9 := hc9.size
    clear XM
    go_wp2_with fail
    refine (eqBeat_same _ _ _ _ _ _ _ _ _ _ _ _ _ _ _ _ _ _ _ G.at_ S.at_ (by omega) (by omega) (by omega)).mono ?_
    rintro e w10 ⟨rfl, hb10⟩
    have bA_0' := keep_cell hb10 bA_0; clear bA_0; have bA_0 := bA_0'; clear bA_0'
    have bA_1' := keep_cell hb10 bA_1; clear bA_1; have bA_1 := bA_1'; clear bA_1'
    have bA_2' := keep_cell hb10 bA_2; clear bA_2; have bA_2 := bA_2'; clear bA_2'
    have bS_0' := keep_cell hb10 bS_0; clear bS_0; have bS_0 := bS_0'; clear bS_0'
    have bS_1' := keep_cell hb10 bS_1; clear bS_1; have bS_1 := bS_1'; clear bS_1'
    have bS_2' := keep_cell hb10 bS_2; clear bS_2; have bS_2 := bS_2'; clear bS_2'
    have bX_0' := keep_cell hb10 bX_0; clear bX_0; have bX_0 := bX_0'; clear bX_0'
    have bX_1' := keep_cell hb10 bX_1; clear bX_1; have bX_1 := bX_1'; clear bX_1'
    have bX_2' := keep_cell hb10 bX_2; clear bX_2; have bX_2 := bX_2'; clear bX_2'
    have bG_0' := keep_cell hb10 bG_0; clear bG_0; have bG_0 := bG_0'; clear bG_0'
    have bG_1' := keep_cell hb10 bG_1; clear bG_1; have bG_1 := bG_1'; clear bG_1'
    have bG_2' := keep_cell hb10 bG_2; clear bG_2; have bG_2 := bG_2'; clear bG_2'
    have S' := S.keep hb10; clear S; have S := S'; clear S'
    have SL' := SL.keep hb10; clear SL; have SL := SL'; clear SL'
    have G' := G.keep hb10; clear G; have G := G'; clear G'
    have GL' := GL.keep hb10; clear GL; have GL := GL'; clear GL'
    have hB_w10 := bthen hB_w9 hb10
    have hz_w10 := hb10.size
    go_wp2_with fail
    refine (ints_eq _ _ _ _ _ _ _ _ GL.at_ SL.at_ hVs).mono ?_
    rintro e w11 ⟨rfl, hb11⟩
    have bA_0' := keep_cell hb11 bA_0; clear bA_0; have bA_0 := bA_0'; clear bA_0'
    have bA_1' := keep_cell hb11 bA_1; clear bA_1; have bA_1 := bA_1'; clear bA_1'
    have bA_2' := keep_cell hb11 bA_2; clear bA_2; have bA_2 := bA_2'; clear bA_2'
    have bS_0' := keep_cell hb11 bS_0; clear bS_0; have bS_0 := bS_0'; clear bS_0'
    have bS_1' := keep_cell hb11 bS_1; clear bS_1; have bS_1 := bS_1'; clear bS_1'
    have bS_2' := keep_cell hb11 bS_2; clear bS_2; have bS_2 := bS_2'; clear bS_2'
    have bX_0' := keep_cell hb11 bX_0; clear bX_0; have bX_0 := bX_0'; clear bX_0'
    have bX_1' := keep_cell hb11 bX_1; clear bX_1; have bX_1 := bX_1'; clear bX_1'
    have bX_2' := keep_cell hb11 bX_2; clear bX_2; have bX_2 := bX_2'; clear bX_2'
    have bG_0' := keep_cell hb11 bG_0; clear bG_0; have bG_0 := bG_0'; clear bG_0'
    have bG_1' := keep_cell hb11 bG_1; clear bG_1; have bG_1 := bG_1'; clear bG_1'
    have bG_2' := keep_cell hb11 bG_2; clear bG_2; have bG_2 := bG_2'; clear bG_2'
    have S' := S.keep hb11; clear S; have S := S'; clear S'
    have SL' := SL.keep hb11; clear SL; have SL := SL'; clear SL'
    have G' := G.keep hb11; clear G; have G := G'; clear G'
    have GL' := GL.keep hb11; clear GL; have GL := GL'; clear GL'
    have hB_w11 := bthen hB_w10 hb11
    have hz_w11 := hb11.size
    go_wp2_with fail
    refine (beat_markb _ _ _ _ _ _ _ _ _ _ _ _ 1 _ _ _ G (by omega) (by omega) (by omega) (by omega) (by omega)).mono ?_
    rintro e w12 ⟨rfl, GM, hc12⟩
    have hi12 := hc12.mono G.in3
    have GL' := GL.chb hc12 (fun b hb ho => GO b hb ho)
    clear G GL
    have bA_0' := ch_cell hi12 bA_0 (by omega); clear bA_0; have bA_0 := bA_0'; clear bA_0'
    have bA_1' := ch_cell hi12 bA_1 (by omega); clear bA_1; have bA_1 := bA_1'; clear bA_1'
    have bA_2' := ch_cell hi12 bA_2 (by omega); clear bA_2; have bA_2 := bA_2'; clear bA_2'
    have bS_0' := ch_cell hi12 bS_0 (by omega); clear bS_0; have bS_0 := bS_0'; clear bS_0'
    have bS_1' := ch_cell hi12 bS_1 (by omega); clear bS_1; have bS_1 := bS_1'; clear bS_1'
    have bS_2' := ch_cell hi12 bS_2 (by omega); clear bS_2; have bS_2 := bS_2'; clear bS_2'
    have bX_0' := ch_cell hi12 bX_0 (by omega); clear bX_0; have bX_0 := bX_0'; clear bX_0'
    have bX_1' := ch_cell hi12 bX_1 (by omega); clear bX_1; have bX_1 := bX_1'; clear bX_1'
    have bX_2' := ch_cell hi12 bX_2 (by omega); clear bX_2; have bX_2 := bX_2'; clear bX_2'
    have bG_0' := ch_cell hi12 bG_0 (by omega); clear bG_0; have bG_0 := bG_0'; clear bG_0'
    have bG_1' := ch_cell hi12 bG_1 (by omega); clear bG_1; have bG_1 := bG_1'; clear bG_1'
    have bG_2' := ch_cell hi12 bG_2 (by omega); clear bG_2; have bG_2 := bG_2'; clear bG_2'
    have S' := S.ch hi12 (iv_off (by omega)); clear S; have S := S'; clear S'
    have SL' := SL.ch hi12 (iv_off (by omega)); clear SL; have SL := SL'; clear SL'
    have hB_w12 : Below w.heap.size w w12 := hi12.ivb hB_w11 (by omega) (Nat.le_refl _)
    have hz_w12 := hi12.size
    have GL := GL'; clear GL'
    go_wp2_with fail
    refine (ints_markb _ _ _ _ _ _ _ _ GL hVs (by omega) (by omega)).mono ?_
    rintro e w13 ⟨rfl, GN, hc13⟩
    have hi13 := hc13.mono (fun b hb => (GL.row.blk hb).1)
    have GM' := GM.chb hc13 (fun b hb ho => GO b ho hb)
    clear GM GL
    have bA_0' := ch_cell hi13 bA_0 (by omega); clear bA_0; have bA_0 := bA_0'; clear bA_0'
    have bA_1' := ch_cell hi13 bA_1 (by omega); clear bA_1; have bA_1 := bA_1'; clear bA_1'
    have bA_2' := ch_cell hi13 bA_2 (by omega); clear bA_2; have bA_2 := bA_2'; clear bA_2'
    have bS_0' := ch_cell hi13 bS_0 (by omega); clear bS_0; have bS_0 := bS_0'; clear bS_0'
    have bS_1' := ch_cell hi13 bS_1 (by omega); clear bS_1; have bS_1 := bS_1'; clear bS_1'
    have bS_2' := ch_cell hi13 bS_2 (by omega); clear bS_2; have bS_2 := bS_2'; clear bS_2'
    have bX_0' := ch_cell hi13 bX_0 (by omega); clear bX_0; have bX_0 := bX_0'; clear bX_0'
    have bX_1' := ch_cell hi13 bX_1 (by omega); clear bX_1; have bX_1 := bX_1'; clear bX_1'
    have bX_2' := ch_cell hi13 bX_2 (by omega); clear bX_2; have bX_2 := bX_2'; clear bX_2'
    have bG_0' := ch_cell hi13 bG_0 (by omega); clear bG_0; have bG_0 := bG_0'; clear bG_0'
    have bG_1' := ch_cell hi13 bG_1 (by omega); clear bG_1; have bG_1 := bG_1'; clear bG_1'
    have bG_2' := ch_cell hi13 bG_2 (by omega); clear bG_2; have bG_2 := bG_2'; clear bG_2'
    have S' := S.ch hi13 (iv_off (by omega)); clear S; have S := S'; clear S'
    have SL' := SL.ch hi13 (iv_off (by omega)); clear SL; have SL := SL'; clear SL'
    have hB_w13 : Below w.heap.size w w13 := hi13.ivb hB_w12 (by omega) (Nat.le_refl _)
    have hz_w13 := hi13.size
    have GM := GM'; clear GM'
    go_wp2_with fail
    refine (beat_held _ _ _ _ _ _ _ _ _ 1 _ GM.at_ (by omega) (by omega) (by omega) (by omega) (by omega)).mono ?_
    rintro e w14 ⟨rfl, hb14⟩
    have bA_0' := keep_cell hb14 bA_0; clear bA_0; have bA_0 := bA_0'; clear bA_0'
    have bA_1' := keep_cell hb14 bA_1; clear bA_1; have bA_1 := bA_1'; clear bA_1'
    have bA_2' := keep_cell hb14 bA_2; clear bA_2; have bA_2 := bA_2'; clear bA_2'
    have bS_0' := keep_cell hb14 bS_0; clear bS_0; have bS_0 := bS_0'; clear bS_0'
    have bS_1' := keep_cell hb14 bS_1; clear bS_1; have bS_1 := bS_1'; clear bS_1'
    have bS_2' := keep_cell hb14 bS_2; clear bS_2; have bS_2 := bS_2'; clear bS_2'
    have bX_0' := keep_cell hb14 bX_0; clear bX_0; have bX_0 := bX_0'; clear bX_0'
    have bX_1' := keep_cell hb14 bX_1; clear bX_1; have bX_1 := bX_1'; clear bX_1'
    have bX_2' := keep_cell hb14 bX_2; clear bX_2; have bX_2 := bX_2'; clear bX_2'
    have bG_0' := keep_cell hb14 bG_0; clear bG_0; have bG_0 := bG_0'; clear bG_0'
    have bG_1' := keep_cell hb14 bG_1; clear bG_1; have bG_1 := bG_1'; clear bG_1'
    have bG_2' := keep_cell hb14 bG_2; clear bG_2; have bG_2 := bG_2'; clear bG_2'
    have S' := S.keep hb14; clear S; have S := S'; clear S'
    have SL' := SL.keep hb14; clear SL; have SL := SL'; clear SL'
    have GN' := GN.keep hb14; clear GN; have GN := GN'; clear GN'
    have GM' := GM.keep hb14; clear GM; have GM := GM'; clear GM'
    have hB_w14 := bthen hB_w13 hb14
    have hz_w14 := hb14.size
    go_wp2_with fail
    refine (ints_held _ _ _ _ _ _ GN.at_ hVs (by omega) (by omega)).mono ?_
    rintro e w15 ⟨rfl, hb15⟩
    have bA_0' := keep_cell hb15 bA_0; clear bA_0; have bA_0 := bA_0'; clear bA_0'
    have bA_1' := keep_cell hb15 bA_1; clear bA_1; have bA_1 := bA_1'; clear bA_1'
    have bA_2' := keep_cell hb15 bA_2; clear bA_2; have bA_2 := bA_2'; clear bA_2'
    have bS_0' := keep_cell hb15 bS_0; clear bS_0; have bS_0 := bS_0'; clear bS_0'
    have bS_1' := keep_cell hb15 bS_1; clear bS_1; have bS_1 := bS_1'; clear bS_1'
    have bS_2' := keep_cell hb15 bS_2; clear bS_2; have bS_2 := bS_2'; clear bS_2'
    have bX_0' := keep_cell hb15 bX_0; clear bX_0; have bX_0 := bX_0'; clear bX_0'
    have bX_1' := keep_cell hb15 bX_1; clear bX_1; have bX_1 := bX_1'; clear bX_1'
    have bX_2' := keep_cell hb15 bX_2; clear bX_2; have bX_2 := bX_2'; clear bX_2'
    have bG_0' := keep_cell hb15 bG_0; clear bG_0; have bG_0 := bG_0'; clear bG_0'
    have bG_1' := keep_cell hb15 bG_1; clear bG_1; have bG_1 := bG_1'; clear bG_1'
    have bG_2' := keep_cell hb15 bG_2; clear bG_2; have bG_2 := bG_2'; clear bG_2'
    have S' := S.keep hb15; clear S; have S := S'; clear S'
    have SL' := SL.keep hb15; clear SL; have SL := SL'; clear SL'
    have GN' := GN.keep hb15; clear GN; have GN := GN'; clear GN'
    have GM' := GM.keep hb15; clear GM; have GM := GM'; clear GM'
    have hB_w15 := bthen hB_w14 hb15
    have hz_w15 := hb15.size
    go_wp2_with fail
    refine (beat_to _ _ _ f1 _ _ _ f2 _ _ _ f3 _ (h.keep hB_w15) m1 m2 m3).mono ?_
    rintro e w16 ⟨TA, TB, TC, rfl, T, hb16⟩
    have bA_0' := keep_cell hb16 bA_0; clear bA_0; have bA_0 := bA_0'; clear bA_0'
    have bA_1' := keep_cell hb16 bA_1; clear bA_1; have bA_1 := bA_1'; clear bA_1'
    have bA_2' := keep_cell hb16 bA_2; clear bA_2; have bA_2 := bA_2'; clear bA_2'
    have bS_0' := keep_cell hb16 bS_0; clear bS_0; have bS_0 := bS_0'; clear bS_0'
    have bS_1' := keep_cell hb16 bS_1; clear bS_1; have bS_1 := bS_1'; clear bS_1'
    have bS_2' := keep_cell hb16 bS_2; clear bS_2; have bS_2 := bS_2'; clear bS_2'
    have bX_0' := keep_cell hb16 bX_0; clear bX_0; have bX_0 := bX_0'; clear bX_0'
    have bX_1' := keep_cell hb16 bX_1; clear bX_1; have bX_1 := bX_1'; clear bX_1'
    have bX_2' := keep_cell hb16 bX_2; clear bX_2; have bX_2 := bX_2'; clear bX_2'
    have bG_0' := keep_cell hb16 bG_0; clear bG_0; have bG_0 := bG_0'; clear bG_0'
    have bG_1' := keep_cell hb16 bG_1; clear bG_1; have bG_1 := bG_1'; clear bG_1'
    have bG_2' := keep_cell hb16 bG_2; clear bG_2; have bG_2 := bG_2'; clear bG_2'
    have S' := S.keep hb16; clear S; have S := S'; clear S'
    have SL' := SL.keep hb16; clear SL; have SL := SL'; clear SL'
    have GN' := GN.keep hb16; clear GN; have GN := GN'; clear GN'
    have GM' := GM.keep hb16; clear GM; have GM := GM'; clear GM'
    have hB_w16 := bthen hB_w15 hb16
    have hz_w16 := hb16.size
    go_wp2_with fail
    refine (HI.out _ _ _ _ _ _ _ T.at_).mono ?_
    rintro e w17 ⟨HA, Ha, HB, Hb, HC, Hc, HD, Hn, Hd, rfl, H, HL, HO, hb17⟩
    have bA_0' := keep_cell hb17 bA_0; clear bA_0; have bA_0 := bA_0'; clear bA_0'
    have bA_1' := keep_cell hb17 bA_1; clear bA_1; have bA_1 := bA_1'; clear bA_1'
    have bA_2' := keep_cell hb17 bA_2; clear bA_2; have bA_2 := bA_2'; clear bA_2'
    have bS_0' := keep_cell hb17 bS_0; clear bS_0; have bS_0 := bS_0'; clear bS_0'
    have bS_1' := keep_cell hb17 bS_1; clear bS_1; have bS_1 := bS_1'; clear bS_1'
    have bS_2' := keep_cell hb17 bS_2; clear bS_2; have bS_2 := bS_2'; clear bS_2'
    have bX_0' := keep_cell hb17 bX_0; clear bX_0; have bX_0 := bX_0'; clear bX_0'
    have bX_1' := keep_cell hb17 bX_1; clear bX_1; have bX_1 := bX_1'; clear bX_1'
    have bX_2' := keep_cell hb17 bX_2; clear bX_2; have bX_2 := bX_2'; clear bX_2'
    have bG_0' := keep_cell hb17 bG_0; clear bG_0; have bG_0 := bG_0'; clear bG_0'
    have bG_1' := keep_cell hb17 bG_1; clear bG_1; have bG_1 := bG_1'; clear bG_1'
    have bG_2' := keep_cell hb17 bG_2; clear bG_2; have bG_2 := bG_2'; clear bG_2'
    have S' := S.keep hb17; clear S; have S := S'; clear S'
    have SL' := SL.keep hb17; clear SL; have SL := SL'; clear SL'
    have GN' := GN.keep hb17; clear GN; have GN := GN'; clear GN'
    have GM' := GM.keep hb17; clear GM; have GM := GM'; clear GM'
    have T' := T.keep hb17; clear T; have T := T'; clear T'
    have hB_w17 := bthen hB_w16 hb17
    have hz_w17 := hb17.size
    clear T
    have hq0 : w.heap.size < w17.heap.size := by omega
    have hq1 : w3.heap.size < w17.heap.size := by omega
    have hq2 : w4.heap.size < w17.heap.size := by omega
    have hq3 : w5.heap.size < w17.heap.size := by omega
    go_wp2_with fail
    obtain ⟨W17, hW⟩ : ∃ W, W = w17.alloc (.cells #[.slice HA V.n Ha, .slice HB V.n Hb, .slice HC V.n Hc] 27) := ⟨_, rfl⟩
    have bH_0 : W17.cell? ⟨w17.heap.size, 0, none⟩ = some (.slice HA V.n Ha) := by rw [hW]; simp [go_sem]
    have bH_1 : W17.cell? ⟨w17.heap.size, 1, none⟩ = some (.slice HB V.n Hb) := by rw [hW]; simp [go_sem]
    have bH_2 : W17.cell? ⟨w17.heap.size, 2, none⟩ = some (.slice HC V.n Hc) := by rw [hW]; simp [go_sem]
    have hbA : Below w17.heap.size w17 W17 := by rw [hW]; exact (Below.refl _ _).alloc (Nat.le_refl _) _
    have hs_W17 : W17.heap.size = w17.heap.size + 1 := by rw [hW]; simp
    rw [← hW]
    clear hW
    have bA_0' := keep_cell hbA bA_0; clear bA_0; have bA_0 := bA_0'; clear bA_0'
    have bA_1' := keep_cell hbA bA_1; clear bA_1; have bA_1 := bA_1'; clear bA_1'
    have bA_2' := keep_cell hbA bA_2; clear bA_2; have bA_2 := bA_2'; clear bA_2'
    have bS_0' := keep_cell hbA bS_0; clear bS_0; have bS_0 := bS_0'; clear bS_0'
    have bS_1' := keep_cell hbA bS_1; clear bS_1; have bS_1 := bS_1'; clear bS_1'
    have bS_2' := keep_cell hbA bS_2; clear bS_2; have bS_2 := bS_2'; clear bS_2'
    have bX_0' := keep_cell hbA bX_0; clear bX_0; have bX_0 := bX_0'; clear bX_0'
    have bX_1' := keep_cell hbA bX_1; clear bX_1; have bX_1 := bX_1'; clear bX_1'
    have bX_2' := keep_cell hbA bX_2; clear bX_2; have bX_2 := bX_2'; clear bX_2'
    have bG_0' := keep_cell hbA bG_0; clear bG_0; have bG_0 := bG_0'; clear bG_0'
    have bG_1' := keep_cell hbA bG_1; clear bG_1; have bG_1 := bG_1'; clear bG_1'
    have bG_2' := keep_cell hbA bG_2; clear bG_2; have bG_2 := bG_2'; clear bG_2'
    have S' := S.keep hbA; clear S; have S := S'; clear S'
    have SL' := SL.keep hbA; clear SL; have SL := SL'; clear SL'
    have GN' := GN.keep hbA; clear GN; have GN := GN'; clear GN'
    have GM' := GM.keep hbA; clear GM; have GM := GM'; clear GM'
    have H' := H.keep hbA; clear H; have H := H'; clear H'
    have HL' := HL.keep hbA; clear HL; have HL := HL'; clear HL'
    have hB_W17 := bthen hB_w17 hbA
    have hz_W17 := hbA.size
    clear hbA
    go_wp2_with fail
    refine (eqBeat_same _ _ _ _ _ _ _ _ _ _ _ _ _ _ _ _ _ _ _ H.at_ S.at_ (by omega) (by omega) (by omega)).mono ?_
    rintro e w18 ⟨rfl, hb18⟩
    have bA_0' := keep_cell hb18 bA_0; clear bA_0; have bA_0 := bA_0'; clear bA_0'
    have bA_1' := keep_cell hb18 bA_1; clear bA_1; have bA_1 := bA_1'; clear bA_1'
    have bA_2' := keep_cell hb18 bA_2; clear bA_2; have bA_2 := bA_2'; clear bA_2'
    have bS_0' := keep_cell hb18 bS_0; clear bS_0; have bS_0 := bS_0'; clear bS_0'
    have bS_1' := keep_cell hb18 bS_1; clear bS_1; have bS_1 := bS_1'; clear bS_1'
    have bS_2' := keep_cell hb18 bS_2; clear bS_2; have bS_2 := bS_2'; clear bS_2'
    have bX_0' := keep_cell hb18 bX_0; clear bX_0; have bX_0 := bX_0'; clear bX_0'
    have bX_1' := keep_cell hb18 bX_1; clear bX_1; have bX_1 := bX_1'; clear bX_1'
    have bX_2' := keep_cell hb18 bX_2; clear bX_2; have bX_2 := bX_2'; clear bX_2'
    have bG_0' := keep_cell hb18 bG_0; clear bG_0; have bG_0 := bG_0'; clear bG_0'
    have bG_1' := keep_cell hb18 bG_1; clear bG_1; have bG_1 := bG_1'; clear bG_1'
    have bG_2' := keep_cell hb18 bG_2; clear bG_2; have bG_2 := bG_2'; clear bG_2'
    have bH_0' := keep_cell hb18 bH_0; clear bH_0; have bH_0 := bH_0'; clear bH_0'
    have bH_1' := keep_cell hb18 bH_1; clear bH_1; have bH_1 := bH_1'; clear bH_1'
    have bH_2' := keep_cell hb18 bH_2; clear bH_2; have bH_2 := bH_2'; clear bH_2'
    have S' := S.keep hb18; clear S; have S := S'; clear S'
    have SL' := SL.keep hb18; clear SL; have SL := SL'; clear SL'
    have GN' := GN.keep hb18; clear GN; have GN := GN'; clear GN'
    have GM' := GM.keep hb18; clear GM; have GM := GM'; clear GM'
    have H' := H.keep hb18; clear H; have H := H'; clear H'
    have HL' := HL.keep hb18; clear HL; have HL := HL'; clear HL'
    have hB_w18 := bthen hB_W17 hb18
    have hz_w18 := hb18.size
    go_wp2_with fail
    refine (ints_eq _ _ _ _ _ _ _ _ HL.at_ SL.at_ hVs).mono ?_
    rintro e w19 ⟨rfl, hb19⟩
    have bA_0' := keep_cell hb19 bA_0; clear bA_0; have bA_0 := bA_0'; clear bA_0'
    have bA_1' := keep_cell hb19 bA_1; clear bA_1; have bA_1 := bA_1'; clear bA_1'
    have bA_2' := keep_cell hb19 bA_2; clear bA_2; have bA_2 := bA_2'; clear bA_2'
    have bS_0' := keep_cell hb19 bS_0; clear bS_0; have bS_0 := bS_0'; clear bS_0'
    have bS_1' := keep_cell hb19 bS_1; clear bS_1; have bS_1 := bS_1'; clear bS_1'
    have bS_2' := keep_cell hb19 bS_2; clear bS_2; have bS_2 := bS_2'; clear bS_2'
    have bX_0' := keep_cell hb19 bX_0; clear bX_0; have bX_0 := bX_0'; clear bX_0'
    have bX_1' := keep_cell hb19 bX_1; clear bX_1; have bX_1 := bX_1'; clear bX_1'
    have bX_2' := keep_cell hb19 bX_2; clear bX_2; have bX_2 := bX_2'; clear bX_2'
    have bG_0' := keep_cell hb19 bG_0; clear bG_0; have bG_0 := bG_0'; clear bG_0'
    have bG_1' := keep_cell hb19 bG_1; clear bG_1; have bG_1 := bG_1'; clear bG_1'
    have bG_2' := keep_cell hb19 bG_2; clear bG_2; have bG_2 := bG_2'; clear bG_2'
    have bH_0' := keep_cell hb19 bH_0; clear bH_0; have bH_0 := bH_0'; clear bH_0'
    have bH_1' := keep_cell hb19 bH_1; clear bH_1; have bH_1 := bH_1'; clear bH_1'
    have bH_2' := keep_cell hb19 bH_2; clear bH_2; have bH_2 := bH_2'; clear bH_2'
    have S' := S.keep hb19; clear S; have S := S'; clear S'
    have SL' := SL.keep hb19; clear SL; have SL := SL'; clear SL'
    have GN' := GN.keep hb19; clear GN; have GN := GN'; clear GN'
    have GM' := GM.keep hb19; clear GM; have GM := GM'; clear GM'
    have H' := H.keep hb19; clear H; have H := H'; clear H'
    have HL' := HL.keep hb19; clear HL; have HL := HL'; clear HL'
    have hB_w19 := bthen hB_w18 hb19
    have hz_w19 := hb19.size
    go_wp2_with fail
    refine (beat_held _ _ _ _ _ _ _ _ _ 1 _ GM.at_ (by omega) (by omega) (by omega) (by omega) (by omega)).mono ?_
    rintro e w20 ⟨rfl, hb20⟩
    have bA_0' := keep_cell hb20 bA_0; clear bA_0; have bA_0 := bA_0'; clear bA_0'
    have bA_1' := keep_cell hb20 bA_1; clear bA_1; have bA_1 := bA_1'; clear bA_1'
    have bA_2' := keep_cell hb20 bA_2; clear bA_2; have bA_2 := bA_2'; clear bA_2'
    have bS_0' := keep_cell hb20 bS_0; clear bS_0; have bS_0 := bS_0'; clear bS_0'
    have bS_1' := keep_cell hb20 bS_1; clear bS_1; have bS_1 := bS_1'; clear bS_1'
    have bS_2' := keep_cell hb20 bS_2; clear bS_2; have bS_2 := bS_2'; clear bS_2'
    have bX_0' := keep_cell hb20 bX_0; clear bX_0; have bX_0 := bX_0'; clear bX_0'
    have bX_1' := keep_cell hb20 bX_1; clear bX_1; have bX_1 := bX_1'; clear bX_1'
    have bX_2' := keep_cell hb20 bX_2; clear bX_2; have bX_2 := bX_2'; clear bX_2'
    have bG_0' := keep_cell hb20 bG_0; clear bG_0; have bG_0 := bG_0'; clear bG_0'
    have bG_1' := keep_cell hb20 bG_1; clear bG_1; have bG_1 := bG_1'; clear bG_1'
    have bG_2' := keep_cell hb20 bG_2; clear bG_2; have bG_2 := bG_2'; clear bG_2'
    have bH_0' := keep_cell hb20 bH_0; clear bH_0; have bH_0 := bH_0'; clear bH_0'
    have bH_1' := keep_cell hb20 bH_1; clear bH_1; have bH_1 := bH_1'; clear bH_1'
    have bH_2' := keep_cell hb20 bH_2; clear bH_2; have bH_2 := bH_2'; clear bH_2'
    have S' := S.keep hb20; clear S; have S := S'; clear S'
    have SL' := SL.keep hb20; clear SL; have SL := SL'; clear SL'
    have GN' := GN.keep hb20; clear GN; have GN := GN'; clear GN'
    have GM' := GM.keep hb20; clear GM; have GM := GM'; clear GM'
    have H' := H.keep hb20; clear H; have H := H'; clear H'
    have HL' := HL.keep hb20; clear HL; have HL := HL'; clear HL'
    have hB_w20 := bthen hB_w19 hb20
    have hz_w20 := hb20.size
    go_wp2_with fail
    refine (ints_held _ _ _ _ _ _ GN.at_ hVs (by omega) (by omega)).mono ?_
    rintro e w21 ⟨rfl, hb21⟩
    have bA_0' := keep_cell hb21 bA_0; clear bA_0; have bA_0 := bA_0'; clear bA_0'
    have bA_1' := keep_cell hb21 bA_1; clear bA_1; have bA_1 := bA_1'; clear bA_1'
    have bA_2' := keep_cell hb21 bA_2; clear bA_2; have bA_2 := bA_2'; clear bA_2'
    have bS_0' := keep_cell hb21 bS_0; clear bS_0; have bS_0 := bS_0'; clear bS_0'
    have bS_1' := keep_cell hb21 bS_1; clear bS_1; have bS_1 := bS_1'; clear bS_1'
    have bS_2' := keep_cell hb21 bS_2; clear bS_2; have bS_2 := bS_2'; clear bS_2'
    have bX_0' := keep_cell hb21 bX_0; clear bX_0; have bX_0 := bX_0'; clear bX_0'
    have bX_1' := keep_cell hb21 bX_1; clear bX_1; have bX_1 := bX_1'; clear bX_1'
    have bX_2' := keep_cell hb21 bX_2; clear bX_2; have bX_2 := bX_2'; clear bX_2'
    have bG_0' := keep_cell hb21 bG_0; clear bG_0; have bG_0 := bG_0'; clear bG_0'
    have bG_1' := keep_cell hb21 bG_1; clear bG_1; have bG_1 := bG_1'; clear bG_1'
    have bG_2' := keep_cell hb21 bG_2; clear bG_2; have bG_2 := bG_2'; clear bG_2'
    have bH_0' := keep_cell hb21 bH_0; clear bH_0; have bH_0 := bH_0'; clear bH_0'
    have bH_1' := keep_cell hb21 bH_1; clear bH_1; have bH_1 := bH_1'; clear bH_1'
    have bH_2' := keep_cell hb21 bH_2; clear bH_2; have bH_2 := bH_2'; clear bH_2'
    have S' := S.keep hb21; clear S; have S := S'; clear S'
    have SL' := SL.keep hb21; clear SL; have SL := SL'; clear SL'
    have GN' := GN.keep hb21; clear GN; have GN := GN'; clear GN'
    have GM' := GM.keep hb21; clear GM; have GM := GM'; clear GM'
    have H' := H.keep hb21; clear H; have H := H'; clear H'
    have HL' := HL.keep hb21; clear HL; have HL := HL'; clear HL'
    have hB_w21 := bthen hB_w20 hb21
    have hz_w21 := hb21.size
    go_wp2
    go_returns
    exact ⟨rfl, hB_w21⟩
  · have HR := Lib.hid (szR_no (Int.not_le.1 hsz))
    go_enter Try.func10, Try.ntmps10
    go_wp2_with fail
    refine (szBeat_any _ _ _ _ _ _ _ _ _ _ _ h1 h2 h3 (by omega) (by omega)).mono ?_
    rintro e w1 ⟨rfl, hb1⟩; rw [HR.out]
    go_wp2
    go_returns
    exact ⟨rfl, bthen ((Below.refl _ _).alloc (Nat.le_refl _) _) hb1⟩
theorem fnExactBeatLook_shape {H : Type} {enc : TypeId × Value → H} {W : World} {args : Array Value} {ds : List (DataW H)} {p : List MemPlace}
    (hA : DataW.TrodAll enc Try.prog W 0 (fun _ => true) true Try.f10.params.toList args.toList ds p) : ∃ x0 x1, ds = [x0, x1] := by
  obtain ⟨v0, v1, d0, d1, p0, p1, rfl, rfl, rfl, h0, h1⟩ := trodAll_two hA
  exact ⟨_, _, rfl⟩

set_option maxRecDepth 100000 in
theorem fnExactBeatLook_contract {H : Type} {enc : TypeId × Value → H} (W : World) (base : Nat) (args : Array Value) (ds : List (DataW H)) (p : List MemPlace)
    (hval : ∀ (j : Nat) t v, Try.f10.params[j]? = some t → args[j]? = some v → Value.okWide Try.prog W .any base t v)
    (hA : DataW.TrodAll enc Try.prog W 0 (fun _ => true) true Try.f10.params.toList args.toList ds p) :
    Calls Try.prog 10 args W fun e W' => e = .returned (.bool true) ∧ Below W.heap.size W W' := by
  obtain ⟨v0, v1, d0, d1, p0, p1, rfl, rfl, rfl, h0, h1⟩ := trodAll_two hA
  obtain ⟨A1_0, n1_0, c1_0, f1_0, A2_0, n2_0, c2_0, f2_0, A3_0, n3_0, c3_0, f3_0, rfl, hr0, ha0, hb0, hc0⟩ := open_beat (hval 0 44 v0 rfl rfl) h0
  obtain ⟨x1, rfl, _, _, wx1⟩ := open_int Try.underlying3 (hval 1 3 v1 rfl rfl) h1
  exact fnExactBeatLook_any _ _ _ _ _ _ _ _ _ _ _ _ _ W hr0 ha0 hb0 hc0

set_option maxRecDepth 100000 in
theorem fnExactBeatLook_lifted (os : Os) (started : os.Started) (H : Type) (enc : TypeId × Value → H) :
    ReturnsInHanded {} Try.checked os 10 .any (Rows.fnExactBeatLookSpec.pre6 enc Try.prog Try.f10 Rows.fnExactBeatLookRow.domain false) (Rows.fnExactBeatLookSpec.post enc Try.prog Try.f10 false true false false) := by
  refine returnsInHanded_of_change (C := Try.checked) Try.own started (by kernel_rfl) Try.func10
    (ChangeSpec.witness6 (enc := enc) (C := Try.checked) false ⟨#[], #[.agg #[.slice none 0 0, .slice none 0 0, .slice none 0 0], .int .i64 0], []⟩ 8 (by kernel_rfl) (by kernel_rfl) (by kernel_rfl) (by kernel_rfl)) ?_
  intro W base args ds gs before hval0 hW _ _
  have hval : ∀ (j : Nat) t v, Try.f10.params[j]? = some t → args[j]? = some v → Value.okWide Try.prog W .any base t v := hval0
  have hW' := hW
  obtain ⟨p, q, hA0, hV, rfl, hfz, hnd⟩ := hW
  have hA : DataW.TrodAll enc Try.prog W 0 (fun _ => true) true Try.f10.params.toList args.toList ds p := hA0
  refine (fnExactBeatLook_contract W base args ds p hval hA).mono fun e W' ⟨he, hb⟩ => ?_
  subst he
  have hds := fnExactBeatLook_shape hA
  obtain ⟨hgs, _⟩ := trodVars_none hV
  subst hgs
  refine ⟨_, rfl, law_post (P := Try.prog) Try.laidOut (of_decide_eq_true (by kernel_rfl)) (by kernel_rfl) Try.underlying4 hW' rfl ?_ ?_ ?_ hb⟩
  all_goals (obtain ⟨x0, x1, rfl⟩ := hds; rfl)

theorem fnExactBeatLook_holds : Rows.FnExactBeatLookSaid :=
  OpenClaim.holds_of_wide 10 Try.f10 rfl rfl rfl rfl rfl rfl rfl ⟨rfl, rfl, rfl, rfl, rfl⟩ rfl rfl rfl rfl rfl (by kernel_rfl) Try.func10 (by kernel_rfl)
    (of_decide_eq_true (by kernel_rfl)) (by unfold Func.isWrapper; first | (rw [if_pos (by decide +kernel)]; kernel_rfl) | (rw [if_neg (by decide +kernel)]; exact ⟨rfl, rfl⟩))
    (fun os started H enc _ => fnExactBeatLook_lifted os started H enc)
end Go.Proofs.Ytjhkeknbbeckgaa
