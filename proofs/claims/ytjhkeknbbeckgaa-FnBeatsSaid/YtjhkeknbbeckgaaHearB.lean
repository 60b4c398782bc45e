/- Contract of the program's BeatHear. -/
import Derived.Test.YtjhkeknbbeckgaaBeatRow
import Derived.StillTailTactics
import Derived.RegionTactic
import Derived.ChangeAlike
import Derived.IntWalk
namespace Go.Proofs.Ytjhkeknbbeckgaa
open Go.RowKit

/-- a Beat and a word -/
structure BtV where
  n : Nat
  g1 : Nat → Int
  g2 : Nat → Int
  g3 : Nat → Bool
  fine : Bool
def hearOk (f1 : Nat → Int) (node now : Int) : Bool := inB node 0 2 && inB now (f1 node.toNat) 1000000
/-- twice a wait, 1000 at most -/
def capW (x : Int) : Int := if 2 * x < 1000 then 2 * x else 1000
/-- what BeatHear answers -/
def hear (ok : Bool) (f1 f2 : Nat → Int) (f3 : Nat → Bool) (node now : Int) : BtV :=
  if ok = true then
    if hearOk f1 node now = true then
      if f3 node.toNat = true then ⟨3, upd f1 node.toNat now, upd f2 node.toNat (capW (f2 node.toNat)), upd f3 node.toNat false, true⟩
      else ⟨3, upd f1 node.toNat now, f2, f3, true⟩
    else ⟨3, f1, f2, f3, false⟩
  else ⟨0, f1, f2, f3, false⟩
def BeatR (v : BtV) (w : World) (e : Ending) (w' : World) : Prop :=
  ∃ A1 c1 A2 c2 A3 c3, e = .returned (.tuple #[.agg #[.slice A1 v.n c1, .slice A2 v.n c2, .slice A3 v.n c3], .bool v.fine]) ∧ BtIn w.heap.size w'.heap.size w' A1 v.n c1 v.g1 A2 v.n c2 v.g2 A3 v.n c3 v.g3 ∧ Below w.heap.size w w'
theorem RowF.head {e lo hi n c : Nat} {w : World} {A : Option Addr} {f : Nat → Value} (h : RowF e lo hi w A n c f) (hn : 0 < n) : ∃ g, A = some ⟨g, 0, none⟩ := RowIn.head h hn
theorem RowF.cellAt {e lo hi n c g : Nat} {w : World} {f : Nat → Value} (h : RowF e lo hi w (some ⟨g, 0, none⟩) n c f) {j : Nat} (hj : j < n) : w.cell? ⟨g, j, none⟩ = some (f j) := by
  obtain ⟨b, off, hb, _, hc⟩ := h.vals (by omega)
  injection hb with hb; injection hb with h1 h2 _; subst h1 h2
  simpa using hc j hj
theorem RowF.frozenAt {e lo hi n c g : Nat} {w : World} {f : Nat → Value} (h : RowF e lo hi w (some ⟨g, 0, none⟩) n c f) (j : Nat) : w.frozen? ⟨g, j, none⟩ = false := (RowIn.own h).frozenAt j
theorem beatAt_bd {f1 f2 : Nat → Int} {n1 n2 n3 : Nat} (h : beatOkB n1 n2 n3 f1 f2 = true) {i : Nat} (hi : i < 3) : (0 ≤ f1 i ∧ f1 i ≤ 1000000) ∧ 1 ≤ f2 i ∧ f2 i ≤ 1000 := by
  simp [beatOkB, beatAt, inB] at h
  have := h.2 i hi
  omega
theorem beatOk_lens {n1 n2 n3 : Nat} {f1 f2 : Nat → Int} (h : beatOkB n1 n2 n3 f1 f2 = true) : n1 = 3 ∧ n2 = 3 ∧ n3 = 3 := by
  simp [beatOkB] at h; exact ⟨h.1.1.1, h.1.1.2, h.1.2⟩

set_option maxRecDepth 20000 in
set_option maxHeartbeats 1000000 in
theorem beatHear_impl (A1 : Option Addr) (n1 c1 : Nat) (f1 : Nat → Int) (A2 : Option Addr) (n2 c2 : Nat) (f2 : Nat → Int) (A3 : Option Addr) (n3 c3 : Nat) (f3 : Nat → Bool) (node now : Int) (w : World) (h : BtAt w A1 n1 f1 A2 n2 f2 A3 n3 f3) :
    Calls Try.prog 18 #[.agg #[.slice A1 n1 c1, .slice A2 n2 c2, .slice A3 n3 c3], .int .i64 node, .int .i64 now] w (BeatR (hear (beatOkB n1 n2 n3 f1 f2) f1 f2 f3 node now) w) := by
  obtain ⟨ok, hok⟩ : ∃ ok, beatOkB n1 n2 n3 f1 f2 = ok := ⟨_, rfl⟩
  cases ok
  · have HX := Lib.hid hok; clear hok
    rw [HX.out]
    have HV := Lib.hid (show hear false f1 f2 f3 node now = ⟨0, f1, f2, f3, false⟩ by simp [hear])
    rw [HV.out]
    go_enter Try.func18, Try.ntmps18
    go_wp2_with fail
    refine (beatOk_impl _ _ _ f1 _ _ _ f2 _ _ _ f3 _ (h.keep (by go_grown))).mono ?_
    rintro e w1 ⟨rfl, hb1⟩
    obtain ⟨hc_w1, hf_w1⟩ := bcell hb1
    have hz_w1 := hb1.size
    try simp at hz_w1
    have hB_w1 : Below w.heap.size w w1 := bthen (by go_grown) hb1
    have hz_w1_w_0 : w.heap.size < w1.heap.size := by omega
    have hz_w1_w_1 : w.heap.size + 1 < w1.heap.size := by omega
    rw [HX.out]
    have k0 : w1.cell? ⟨w.heap.size + 1, 0, none⟩ = some (.slice none 0 0) := keep_cell hb1 (by simp [go_sem])
    have k1 : w1.cell? ⟨w.heap.size + 1, 1, none⟩ = some (.slice none 0 0) := keep_cell hb1 (by simp [go_sem])
    have k2 : w1.cell? ⟨w.heap.size + 1, 2, none⟩ = some (.slice none 0 0) := keep_cell hb1 (by simp [go_sem])
    go_wp2
    obtain ⟨WF, hWF, t0, t1, t2⟩ := set3 (u := .slice none 0 0) (v := .slice none 0 0) (x := .slice none 0 0) k0 k1 k2
    rw [← hWF]
    have hC : Ch (fun k => k = w.heap.size + 1) w1 WF := by
      rw [hWF]; exact (((Ch.refl (S := fun k => k = w.heap.size + 1) w1).setCell (p := ⟨w.heap.size + 1, 0, none⟩) rfl _).setCell (p := ⟨w.heap.size + 1, 1, none⟩) rfl _).setCell (p := ⟨w.heap.size + 1, 2, none⟩) rfl _
    exact bodyPost_ret (v := .tuple #[.agg #[.slice none 0 0, .slice none 0 0, .slice none 0 0], .bool false]) (by simp [results, Try.results18, go_sem, t0, t1, t2]) rfl
      ⟨none, 0, none, 0, none, 0, rfl, BtIn.nil, hB_w1.trans (hC.below (fun k hk => by omega) (by omega))⟩
  · obtain ⟨rfl, rfl, rfl⟩ := beatOk_lens hok
    have hbd := fun i hi => beatAt_bd hok (i := i) hi
    have HX := Lib.hid hok; clear hok
    rw [HX.out]
    obtain ⟨q, hq⟩ : ∃ q, hearOk f1 node now = q := ⟨_, rfl⟩
    obtain ⟨b1, o1, rfl, hl1, hk1⟩ := h.1 (by omega)
    obtain ⟨b2, o2, rfl, hl2, hk2⟩ := h.2.1 (by omega)
    obtain ⟨b3, o3, rfl, hl3, hk3⟩ := h.2.2 (by omega)
    cases q
    · have HV := Lib.hid (show hear true f1 f2 f3 node now = ⟨3, f1, f2, f3, false⟩ by simp [hear, hq])
      rw [HV.out]
      go_enter Try.func18, Try.ntmps18
      go_wp2_with fail
      refine (beatOk_impl _ _ _ f1 _ _ _ f2 _ _ _ f3 _ (h.keep (by go_grown))).mono ?_
      rintro e w1 ⟨rfl, hb1⟩
      obtain ⟨hc_w1, hf_w1⟩ := bcell hb1
      have hz_w1 := hb1.size
      try simp at hz_w1
      have hB_w1 : Below w.heap.size w w1 := bthen (by go_grown) hb1
      have hz_w1_w_0 : w.heap.size < w1.heap.size := by omega
      have hz_w1_w_1 : w.heap.size + 1 < w1.heap.size := by omega
      rw [HX.out]
      have y0 : w1.cell? ⟨w.heap.size, 0, none⟩ = some (.slice (some ⟨b1, o1, none⟩) 3 c1) := keep_cell hb1 (by simp [go_sem])
      have y1 : w1.cell? ⟨w.heap.size, 1, none⟩ = some (.slice (some ⟨b2, o2, none⟩) 3 c2) := keep_cell hb1 (by simp [go_sem])
      have y2 : w1.cell? ⟨w.heap.size, 2, none⟩ = some (.slice (some ⟨b3, o3, none⟩) 3 c3) := keep_cell hb1 (by simp [go_sem])
      have k0 : w1.cell? ⟨w.heap.size + 1, 0, none⟩ = some (.slice none 0 0) := keep_cell hb1 (by simp [go_sem])
      have k1 : w1.cell? ⟨w.heap.size + 1, 1, none⟩ = some (.slice none 0 0) := keep_cell hb1 (by simp [go_sem])
      have k2 : w1.cell? ⟨w.heap.size + 1, 2, none⟩ = some (.slice none 0 0) := keep_cell hb1 (by simp [go_sem])
      go_wp2_with fail
      refine (copyBeat_impl _ _ f1 _ _ f2 _ _ f3 _ (h.keep hB_w1)).mono ?_
      rintro e w2 ⟨B1, d1, B2, d2, B3, d3, rfl, hin2, hb2⟩
      obtain ⟨hc_w2, hf_w2⟩ := bcell hb2
      have hz_w2 := hb2.size
      try simp at hz_w2
      have hB_w2 : Below w.heap.size w w2 := bthen (by go_grown) hb2
      have hz_w2_w_0 : w.heap.size < w2.heap.size := by omega
      have hz_w2_w_1 : w.heap.size + 1 < w2.heap.size := by omega
      have z0 := keep_cell hb2 y0
      have z1 := keep_cell hb2 y1
      have z2 := keep_cell hb2 y2
      have m0 := keep_cell hb2 k0
      have m1 := keep_cell hb2 k1
      have m2 := keep_cell hb2 k2
      have hz12 := hb2.size
      have hx1 : b1 < w2.heap.size := Nat.lt_of_lt_of_le hl1 hB_w2.size
      have hx2 : b2 < w2.heap.size := Nat.lt_of_lt_of_le hl2 hB_w2.size
      have hx3 : b3 < w2.heap.size := Nat.lt_of_lt_of_le hl3 hB_w2.size
      clear y0 y1 y2 k0 k1 k2
      by_cases hr : inB node 0 2 = true
      · obtain ⟨m, rfl⟩ := Int.eq_ofNat_of_zero_le (show 0 ≤ node by simp [inB] at hr; omega)
        have hm : m < 3 := by simp [inB] at hr; omega
        have hc1 := (hB_w2.cell (p := ⟨b1, o1 + m, none⟩) hl1).trans (hk1 m hm)
        have hc2 := (hB_w2.cell (p := ⟨b2, o2 + m, none⟩) hl2).trans (hk2 m hm)
        have hc3 := (hB_w2.cell (p := ⟨b3, o3 + m, none⟩) hl3).trans (hk3 m hm)
        unfold intV at hc1 hc2
        unfold boolV at hc3
        have hbm := hbd m hm
        have hno : inB now (f1 m) 1000000 = false := by simpa [hearOk, hr] using hq
        have R1 := Lib.hid hr; have R2 := Lib.hid hno
        clear hr hno hq
        go_wp2_with fail
        refine (isRep_any _ _).mono ?_
        rintro e w3 ⟨rfl, rfl⟩; rw [R1.out]
        go_wp2_with fail
        refine (within_any _ _ _ _).mono ?_
        rintro e w3 ⟨rfl, rfl⟩; rw [R2.out]
        go_wp2
        obtain ⟨WF, hWF, t0, t1, t2⟩ := set3 (u := .slice B1 3 d1) (v := .slice B2 3 d2) (x := .slice B3 3 d3) m0 m1 m2
        rw [← hWF]
        have hC : Ch (fun k => k = w.heap.size + 1) w2 WF := by
          rw [hWF]; exact (((Ch.refl (S := fun k => k = w.heap.size + 1) w2).setCell (p := ⟨w.heap.size + 1, 0, none⟩) rfl _).setCell (p := ⟨w.heap.size + 1, 1, none⟩) rfl _).setCell (p := ⟨w.heap.size + 1, 2, none⟩) rfl _
        have hzF := hC.size
        have hzl : w.heap.size + 1 < WF.heap.size := by omega
        have alF := fun o => (Below.refl WF.heap.size WF).alloc (Nat.le_refl _) o
        refine bodyPost_ret (v := .tuple #[.agg #[.slice B1 3 d1, .slice B2 3 d2, .slice B3 3 d3], .bool false]) (by simp [results, Try.results18, go_sem, t0, t1, t2, hzl]) rfl
          ⟨B1, d1, B2, d2, B3, d3, rfl, ?_, bthen (hB_w2.trans (hC.below (fun k hk => by omega) (by omega))) (alF _)⟩
        exact ((hin2.ch hC (fun k hk e => by unfold Iv at hk; omega)).keep (alF _)).wide (by omega) (Nat.le_trans hzF (by simp))
      · have R1 := Lib.hid (Bool.eq_false_iff.2 hr)
        clear hr hq
        go_wp2_with fail
        refine (isRep_any _ _).mono ?_
        rintro e w3 ⟨rfl, rfl⟩; rw [R1.out]
        go_wp2
        obtain ⟨WF, hWF, t0, t1, t2⟩ := set3 (u := .slice B1 3 d1) (v := .slice B2 3 d2) (x := .slice B3 3 d3) m0 m1 m2
        rw [← hWF]
        have hC : Ch (fun k => k = w.heap.size + 1) w2 WF := by
          rw [hWF]; exact (((Ch.refl (S := fun k => k = w.heap.size + 1) w2).setCell (p := ⟨w.heap.size + 1, 0, none⟩) rfl _).setCell (p := ⟨w.heap.size + 1, 1, none⟩) rfl _).setCell (p := ⟨w.heap.size + 1, 2, none⟩) rfl _
        have hzF := hC.size
        have hzl : w.heap.size + 1 < WF.heap.size := by omega
        have alF := fun o => (Below.refl WF.heap.size WF).alloc (Nat.le_refl _) o
        refine bodyPost_ret (v := .tuple #[.agg #[.slice B1 3 d1, .slice B2 3 d2, .slice B3 3 d3], .bool false]) (by simp [results, Try.results18, go_sem, t0, t1, t2, hzl]) rfl
          ⟨B1, d1, B2, d2, B3, d3, rfl, ?_, bthen (hB_w2.trans (hC.below (fun k hk => by omega) (by omega))) (alF _)⟩
        exact ((hin2.ch hC (fun k hk e => by unfold Iv at hk; omega)).keep (alF _)).wide (by omega) (Nat.le_trans hzF (by simp))
    · have hq2 : inB node 0 2 = true ∧ inB now (f1 node.toNat) 1000000 = true := by simpa [hearOk] using hq
      obtain ⟨hr, hno⟩ := hq2
      obtain ⟨m, rfl⟩ := Int.eq_ofNat_of_zero_le (show 0 ≤ node by simp [inB] at hr; omega)
      have hm : m < 3 := by simp [inB] at hr; omega
      have hbm := hbd m hm
      rw [Int.toNat_natCast] at hno
      have R1 := Lib.hid hr; have R2 := Lib.hid hno
      have hnb : f1 m ≤ now ∧ now ≤ 1000000 := by simpa [inB] using hno
      clear hr hno
      obtain ⟨q3, hq3⟩ : ∃ q, f3 m = q := ⟨_, rfl⟩
      cases q3
      · have HV := Lib.hid (show hear true f1 f2 f3 (m : Int) now = ⟨3, upd f1 m now, f2, f3, true⟩ by simp [hear, hq, hq3])
        rw [HV.out]
        go_enter Try.func18, Try.ntmps18
        go_wp2_with fail
        refine (beatOk_impl _ _ _ f1 _ _ _ f2 _ _ _ f3 _ (h.keep (by go_grown))).mono ?_
        rintro e w1 ⟨rfl, hb1⟩
        obtain ⟨hc_w1, hf_w1⟩ := bcell hb1
        have hz_w1 := hb1.size
        try simp at hz_w1
        have hB_w1 : Below w.heap.size w w1 := bthen (by go_grown) hb1
        have hz_w1_w_0 : w.heap.size < w1.heap.size := by omega
        have hz_w1_w_1 : w.heap.size + 1 < w1.heap.size := by omega
        rw [HX.out]
        have y0 : w1.cell? ⟨w.heap.size, 0, none⟩ = some (.slice (some ⟨b1, o1, none⟩) 3 c1) := keep_cell hb1 (by simp [go_sem])
        have y1 : w1.cell? ⟨w.heap.size, 1, none⟩ = some (.slice (some ⟨b2, o2, none⟩) 3 c2) := keep_cell hb1 (by simp [go_sem])
        have y2 : w1.cell? ⟨w.heap.size, 2, none⟩ = some (.slice (some ⟨b3, o3, none⟩) 3 c3) := keep_cell hb1 (by simp [go_sem])
        have k0 : w1.cell? ⟨w.heap.size + 1, 0, none⟩ = some (.slice none 0 0) := keep_cell hb1 (by simp [go_sem])
        have k1 : w1.cell? ⟨w.heap.size + 1, 1, none⟩ = some (.slice none 0 0) := keep_cell hb1 (by simp [go_sem])
        have k2 : w1.cell? ⟨w.heap.size + 1, 2, none⟩ = some (.slice none 0 0) := keep_cell hb1 (by simp [go_sem])
        go_wp2_with fail
        refine (copyBeat_impl _ _ f1 _ _ f2 _ _ f3 _ (h.keep hB_w1)).mono ?_
        rintro e w2 ⟨B1, d1, B2, d2, B3, d3, rfl, hin2, hb2⟩
        obtain ⟨hc_w2, hf_w2⟩ := bcell hb2
        have hz_w2 := hb2.size
        try simp at hz_w2
        have hB_w2 : Below w.heap.size w w2 := bthen (by go_grown) hb2
        have hz_w2_w_0 : w.heap.size < w2.heap.size := by omega
        have hz_w2_w_1 : w.heap.size + 1 < w2.heap.size := by omega
        have z0 := keep_cell hb2 y0
        have z1 := keep_cell hb2 y1
        have z2 := keep_cell hb2 y2
        have m0 := keep_cell hb2 k0
        have m1 := keep_cell hb2 k1
        have m2 := keep_cell hb2 k2
        have hz12 := hb2.size
        have hx1 : b1 < w2.heap.size := Nat.lt_of_lt_of_le hl1 hB_w2.size
        have hx2 : b2 < w2.heap.size := Nat.lt_of_lt_of_le hl2 hB_w2.size
        have hx3 : b3 < w2.heap.size := Nat.lt_of_lt_of_le hl3 hB_w2.size
        clear y0 y1 y2 k0 k1 k2
        have hc1 := (hB_w2.cell (p := ⟨b1, o1 + m, none⟩) hl1).trans (hk1 m hm)
        have hc2 := (hB_w2.cell (p := ⟨b2, o2 + m, none⟩) hl2).trans (hk2 m hm)
        have hc3 := (hB_w2.cell (p := ⟨b3, o3 + m, none⟩) hl3).trans (hk3 m hm)
        unfold intV at hc1 hc2
        unfold boolV at hc3
        rw [hq3] at hc3
        obtain ⟨g1, rfl⟩ := hin2.r1.head (by omega)
        obtain ⟨g2, rfl⟩ := hin2.r2.head (by omega)
        obtain ⟨g3, rfl⟩ := hin2.r3.head (by omega)
        have e1 := hin2.r1.cellAt hm
        have e2 := hin2.r2.cellAt hm
        have e3 := hin2.r3.cellAt hm
        have v1 := hin2.r1.frozenAt m
        have v2 := hin2.r2.frozenAt m
        have v3 := hin2.r3.frozenAt m
        have i1 := (hin2.r1.blk (g := g1) (by simp [BlkOf]))
        have i2 := (hin2.r2.blk (g := g2) (by simp [BlkOf]))
        have i3 := (hin2.r3.blk (g := g3) (by simp [BlkOf]))
        have d12 : g1 ≠ g2 := fun e => hin2.d12 g1 (by simp [BlkOf]) (by simp [BlkOf, e])
        have d13 : g1 ≠ g3 := fun e => hin2.d13 g1 (by simp [BlkOf]) (by simp [BlkOf, e])
        have d23 : g2 ≠ g3 := fun e => hin2.d23 g2 (by simp [BlkOf]) (by simp [BlkOf, e])
        unfold Iv at i1 i2 i3
        clear hq hq3
        go_wp2_with fail
        refine (isRep_any _ _).mono ?_
        rintro e w3 ⟨rfl, rfl⟩; rw [R1.out]
        go_wp2_with fail
        refine (within_any _ _ _ _).mono ?_
        rintro e w3 ⟨rfl, rfl⟩; rw [R2.out]
        go_wp2
        obtain ⟨HIN, C1⟩ := hin2.set1 m now
        have HBW := C1.ivb hB_w2 (by omega) (Nat.le_refl _)
        have n0 := setoff (g := g1) (j := m) (u := .int .i64 now) m0 (.inl (by omega))
        have n1 := setoff (g := g1) (j := m) (u := .int .i64 now) m1 (.inl (by omega))
        have n2 := setoff (g := g1) (j := m) (u := .int .i64 now) m2 (.inl (by omega))
        obtain ⟨WF, hWF, t0, t1, t2⟩ := set3 (u := .slice (some ⟨g1, 0, none⟩) 3 d1) (v := .slice (some ⟨g2, 0, none⟩) 3 d2) (x := .slice (some ⟨g3, 0, none⟩) 3 d3) n0 n1 n2
        rw [← hWF]
        have hC : Ch (fun k => k = w.heap.size + 1) (w2.setCell ⟨g1, m, none⟩ (.int .i64 now)) WF := by
          rw [hWF]; exact (ch_one.trans ch_one).trans ch_one
        have hzF := hC.size
        simp only [World.size_setCell] at hzF
        have hzl : w.heap.size + 1 < WF.heap.size := by omega
        have alF := fun o => (Below.refl WF.heap.size WF).alloc (Nat.le_refl _) o
        refine bodyPost_ret (v := .tuple #[.agg #[.slice (some ⟨g1, 0, none⟩) 3 d1, .slice (some ⟨g2, 0, none⟩) 3 d2, .slice (some ⟨g3, 0, none⟩) 3 d3], .bool true]) (by simp [results, Try.results18, go_sem, t0, t1, t2, hzl]) rfl
          ⟨_, d1, _, d2, _, d3, rfl, ?_, bthen (HBW.trans (hC.below (fun k hk => by omega) (by simp; omega))) (alF _)⟩
        exact ((HIN.ch hC (fun k hk e => by unfold Iv at hk; omega)).keep (alF _)).wide (by omega) (Nat.le_trans hzF (by simp))
      · have HV := Lib.hid (show hear true f1 f2 f3 (m : Int) now = ⟨3, upd f1 m now, upd f2 m (capW (f2 m)), upd f3 m false, true⟩ by simp [hear, hq, hq3])
        rw [HV.out]
        go_enter Try.func18, Try.ntmps18
        go_wp2_with fail
        refine (beatOk_impl _ _ _ f1 _ _ _ f2 _ _ _ f3 _ (h.keep (by go_grown))).mono ?_
        rintro e w1 ⟨rfl, hb1⟩
        obtain ⟨hc_w1, hf_w1⟩ := bcell hb1
        have hz_w1 := hb1.size
        try simp at hz_w1
        have hB_w1 : Below w.heap.size w w1 := bthen (by go_grown) hb1
        have hz_w1_w_0 : w.heap.size < w1.heap.size := by omega
        have hz_w1_w_1 : w.heap.size + 1 < w1.heap.size := by omega
        rw [HX.out]
        have y0 : w1.cell? ⟨w.heap.size, 0, none⟩ = some (.slice (some ⟨b1, o1, none⟩) 3 c1) := keep_cell hb1 (by simp [go_sem])
        have y1 : w1.cell? ⟨w.heap.size, 1, none⟩ = some (.slice (some ⟨b2, o2, none⟩) 3 c2) := keep_cell hb1 (by simp [go_sem])
        have y2 : w1.cell? ⟨w.heap.size, 2, none⟩ = some (.slice (some ⟨b3, o3, none⟩) 3 c3) := keep_cell hb1 (by simp [go_sem])
        have k0 : w1.cell? ⟨w.heap.size + 1, 0, none⟩ = some (.slice none 0 0) := keep_cell hb1 (by simp [go_sem])
        have k1 : w1.cell? ⟨w.heap.size + 1, 1, none⟩ = some (.slice none 0 0) := keep_cell hb1 (by simp [go_sem])
        have k2 : w1.cell? ⟨w.heap.size + 1, 2, none⟩ = some (.slice none 0 0) := keep_cell hb1 (by simp [go_sem])
        go_wp2_with fail
        refine (copyBeat_impl _ _ f1 _ _ f2 _ _ f3 _ (h.keep hB_w1)).mono ?_
        rintro e w2 ⟨B1, d1, B2, d2, B3, d3, rfl, hin2, hb2⟩
        obtain ⟨hc_w2, hf_w2⟩ := bcell hb2
        have hz_w2 := hb2.size
        try simp at hz_w2
        have hB_w2 : Below w.heap.size w w2 := bthen (by go_grown) hb2
        have hz_w2_w_0 : w.heap.size < w2.heap.size := by omega
        have hz_w2_w_1 : w.heap.size + 1 < w2.heap.size := by omega
        have z0 := keep_cell hb2 y0
        have z1 := keep_cell hb2 y1
        have z2 := keep_cell hb2 y2
        have m0 := keep_cell hb2 k0
        have m1 := keep_cell hb2 k1
        have m2 := keep_cell hb2 k2
        have hz12 := hb2.size
        have hx1 : b1 < w2.heap.size := Nat.lt_of_lt_of_le hl1 hB_w2.size
        have hx2 : b2 < w2.heap.size := Nat.lt_of_lt_of_le hl2 hB_w2.size
        have hx3 : b3 < w2.heap.size := Nat.lt_of_lt_of_le hl3 hB_w2.size
        clear y0 y1 y2 k0 k1 k2
        have hc1 := (hB_w2.cell (p := ⟨b1, o1 + m, none⟩) hl1).trans (hk1 m hm)
        have hc2 := (hB_w2.cell (p := ⟨b2, o2 + m, none⟩) hl2).trans (hk2 m hm)
        have hc3 := (hB_w2.cell (p := ⟨b3, o3 + m, none⟩) hl3).trans (hk3 m hm)
        unfold intV at hc1 hc2
        unfold boolV at hc3
        rw [hq3] at hc3
        obtain ⟨g1, rfl⟩ := hin2.r1.head (by omega)
        obtain ⟨g2, rfl⟩ := hin2.r2.head (by omega)
        obtain ⟨g3, rfl⟩ := hin2.r3.head (by omega)
        have e1 := hin2.r1.cellAt hm
        have e2 := hin2.r2.cellAt hm
        have e3 := hin2.r3.cellAt hm
        have v1 := hin2.r1.frozenAt m
        have v2 := hin2.r2.frozenAt m
        have v3 := hin2.r3.frozenAt m
        have i1 := (hin2.r1.blk (g := g1) (by simp [BlkOf]))
        have i2 := (hin2.r2.blk (g := g2) (by simp [BlkOf]))
        have i3 := (hin2.r3.blk (g := g3) (by simp [BlkOf]))
        have d12 : g1 ≠ g2 := fun e => hin2.d12 g1 (by simp [BlkOf]) (by simp [BlkOf, e])
        have d13 : g1 ≠ g3 := fun e => hin2.d13 g1 (by simp [BlkOf]) (by simp [BlkOf, e])
        have d23 : g2 ≠ g3 := fun e => hin2.d23 g2 (by simp [BlkOf]) (by simp [BlkOf, e])
        unfold Iv at i1 i2 i3
        clear hq hq3
        go_wp2_with fail
        refine (isRep_any _ _).mono ?_
        rintro e w3 ⟨rfl, rfl⟩; rw [R1.out]
        go_wp2_with fail
        refine (within_any _ _ _ _).mono ?_
        rintro e w3 ⟨rfl, rfl⟩; rw [R2.out]
        go_wp2
        obtain ⟨W, hW⟩ : ∃ W, W = (((w2.setCell ⟨g1, m, none⟩ (.int .i64 now)).setCell ⟨g3, m, none⟩ (.bool false)).alloc (.cells #[.slice (some ⟨g1, 0, none⟩) 3 d1, .slice (some ⟨g2, 0, none⟩) 3 d2, .slice (some ⟨g3, 0, none⟩) 3 d3] 27)) := ⟨_, rfl⟩
        have x1 : W.cell? ⟨w.heap.size, 1, none⟩ = some (.slice (some ⟨b2, o2, none⟩) 3 c2) := by rw [hW]; exact keep_alloc (setoff (setoff z1 (.inl (by omega))) (.inl (by omega))) _
        have x2 : W.cell? ⟨w2.heap.size, 1, none⟩ = some (.slice (some ⟨g2, 0, none⟩) 3 d2) := by rw [hW]; simp [go_sem]
        have x2' : ∃ v, W.cell? ⟨w2.heap.size, 0, none⟩ = some v := ⟨.slice (some ⟨g1, 0, none⟩) 3 d1, by rw [hW]; simp [go_sem]⟩
        have x0 : W.cell? ⟨w2.heap.size, 0, none⟩ = some (.slice (some ⟨g1, 0, none⟩) 3 d1) := by rw [hW]; simp [go_sem]
        have x00 : W.cell? ⟨w2.heap.size, 2, none⟩ = some (.slice (some ⟨g3, 0, none⟩) 3 d3) := by rw [hW]; simp [go_sem]
        have x3 : W.cell? ⟨b2, o2 + m, none⟩ = some (.int .i64 (f2 m)) := by rw [hW]; exact keep_alloc (setoff (setoff hc2 (.inl (by omega))) (.inl (by omega))) _
        have x4 : W.cell? ⟨g2, m, none⟩ = some (intV f2 m) := by rw [hW]; exact keep_alloc (setoff (setoff e2 (.inl d12)) (.inl (Ne.symm d23))) _
        have x5 : W.frozen? ⟨g2, m, none⟩ = false := by rw [hW]; simp [go_sem, v2, i2.2]
        have n0 : W.cell? ⟨w.heap.size + 1, 0, none⟩ = some (.slice none 0 0) := by rw [hW]; exact keep_alloc (setoff (setoff m0 (.inl (by omega))) (.inl (by omega))) _
        have n1 : W.cell? ⟨w.heap.size + 1, 1, none⟩ = some (.slice none 0 0) := by rw [hW]; exact keep_alloc (setoff (setoff m1 (.inl (by omega))) (.inl (by omega))) _
        have n2 : W.cell? ⟨w.heap.size + 1, 2, none⟩ = some (.slice none 0 0) := by rw [hW]; exact keep_alloc (setoff (setoff m2 (.inl (by omega))) (.inl (by omega))) _
        have u0 : W.frozen? ⟨w.heap.size + 1, 0, none⟩ = false := by rw [hW]; simp [go_sem, *]
        have u1 : W.frozen? ⟨w.heap.size + 1, 1, none⟩ = false := by rw [hW]; simp [go_sem, *]
        have u2 : W.frozen? ⟨w.heap.size + 1, 2, none⟩ = false := by rw [hW]; simp [go_sem, *]
        have hWs : W.heap.size = w2.heap.size + 1 := by rw [hW]; simp
        obtain ⟨HI1, C1⟩ := hin2.set1 m now
        obtain ⟨HI2, C2⟩ := HI1.set3 m false
        have al := fun o => (Below.refl ((w2.setCell ⟨g1, m, none⟩ (.int .i64 now)).setCell ⟨g3, m, none⟩ (.bool false)).heap.size _).alloc (Nat.le_refl _) o
        have HBW : Below w.heap.size w W := by rw [hW]; exact bthen (C2.ivb (C1.ivb hB_w2 (by omega) (Nat.le_refl _)) (by omega) (Nat.le_refl _)) (al _)
        have HIN : BtIn w1.heap.size w2.heap.size W (some ⟨g1, 0, none⟩) 3 d1 (upd f1 m now) (some ⟨g2, 0, none⟩) 3 d2 f2 (some ⟨g3, 0, none⟩) 3 d3 (upd f3 m false) := by rw [hW]; exact HI2.keep (al _)
        rw [← hW]
        have HWS := Lib.hid hWs
        have hWs1 : w2.heap.size < W.heap.size := by omega
        clear hW al C1 C2 HI1 HI2 hWs
        have hmi : (m : Int) < 3 := by omega
        have hwr : IntKind.i64.wrap (2 * f2 m) = 2 * f2 m := IntWalk.i64_in _ (by omega)
        go_region
        obtain ⟨HI3, C3⟩ := HIN.set2 m (capW (f2 m))
        have HB3 := C3.ivb HBW (by omega) (Nat.le_refl _)
        have q0 := setoff (g := g2) (j := m) (u := .int .i64 (capW (f2 m))) n0 (.inl (by omega))
        have q1 := setoff (g := g2) (j := m) (u := .int .i64 (capW (f2 m))) n1 (.inl (by omega))
        have q2 := setoff (g := g2) (j := m) (u := .int .i64 (capW (f2 m))) n2 (.inl (by omega))
        have o0 := setoff (g := g2) (j := m) (u := .int .i64 (capW (f2 m))) x0 (.inl (by omega))
        have o1 := setoff (g := g2) (j := m) (u := .int .i64 (capW (f2 m))) x2 (.inl (by omega))
        have o2 := setoff (g := g2) (j := m) (u := .int .i64 (capW (f2 m))) x00 (.inl (by omega))
        have hz3 := C3.size
        rw [show (if 2 * f2 m < 1000 then 2 * f2 m else 1000) = capW (f2 m) from rfl]
        obtain ⟨V, hV⟩ : ∃ V, V = W.setCell ⟨g2, m, none⟩ (.int .i64 (capW (f2 m))) := ⟨_, rfl⟩
        have uv0 := (World.frozen?_setCell W ⟨g2, m, none⟩ ⟨w.heap.size + 1, 0, none⟩ (.int .i64 (capW (f2 m)))).trans u0
        have uv1 := (World.frozen?_setCell W ⟨g2, m, none⟩ ⟨w.heap.size + 1, 1, none⟩ (.int .i64 (capW (f2 m)))).trans u1
        have uv2 := (World.frozen?_setCell W ⟨g2, m, none⟩ ⟨w.heap.size + 1, 2, none⟩ (.int .i64 (capW (f2 m)))).trans u2
        rw [← hV] at HI3 HB3 q0 q1 q2 o0 o1 o2 hz3 uv0 uv1 uv2 ⊢
        clear hV n0 n1 n2 x0 x1 x2 x00 x2' x3 x4 x5 HIN HBW C3
        go_wp2
        obtain ⟨WF, hWF, t0, t1, t2⟩ := set3 (W := V) (u := .slice (some ⟨g1, 0, none⟩) 3 d1) (v := .slice (some ⟨g2, 0, none⟩) 3 d2) (x := .slice (some ⟨g3, 0, none⟩) 3 d3) q0 q1 q2
        rw [← hWF]
        have hC : Ch (fun k => k = w.heap.size + 1) V WF := by
          rw [hWF]; exact (ch_one.trans ch_one).trans ch_one
        have hzF := hC.size
        refine bodyPost_ret (v := .tuple #[.agg #[.slice (some ⟨g1, 0, none⟩) 3 d1, .slice (some ⟨g2, 0, none⟩) 3 d2, .slice (some ⟨g3, 0, none⟩) 3 d3], .bool true]) (by simp [results, Try.results18, go_sem, t0, t1, t2]) rfl
          ⟨_, d1, _, d2, _, d3, rfl, ?_, (HB3.trans (hC.below (fun k hk => by omega) (by omega))).drew⟩
        exact ((HI3.ch hC (fun k hk e => by unfold Iv at hk; omega)).keep (Below.refl _ _).drew).wide (by omega) (by have : WF.drew.heap.size = WF.heap.size := rfl; omega)
end Go.Proofs.Ytjhkeknbbeckgaa
