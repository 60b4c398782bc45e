/- Contract of the program's BeatLook. -/
import Derived.Test.YtjhkeknbbeckgaaHearB
import Derived.Test.YtjhkeknbbeckgaaIntList
import Derived.BigQuiet
namespace Go.Proofs.Ytjhkeknbbeckgaa
open Go.RowKit

/-- a Beat and a list -/
structure LkV where
  n : Nat
  g1 : Nat → Int
  g2 : Nat → Int
  g3 : Nat → Bool
  l : List Int
def lookB (f1 f2 : Nat → Int) (f3 : Nat → Bool) (now : Int) (i : Nat) : Bool := !f3 i && decide (f1 i + f2 i < now)
def lookG (f1 f2 : Nat → Int) (f3 : Nat → Bool) (now : Int) : Nat → (Nat → Bool)
  | 0 => f3
  | k + 1 => if lookB f1 f2 f3 now k = true then upd (lookG f1 f2 f3 now k) k true else lookG f1 f2 f3 now k
def lookL (f1 f2 : Nat → Int) (f3 : Nat → Bool) (now : Int) : Nat → List Int
  | 0 => []
  | k + 1 => if lookB f1 f2 f3 now k = true then lookL f1 f2 f3 now k ++ [(k : Int)] else lookL f1 f2 f3 now k
theorem lookL_len (f1 f2 : Nat → Int) (f3 : Nat → Bool) (now : Int) : ∀ k, (lookL f1 f2 f3 now k).length ≤ k
  | 0 => Nat.le_refl _
  | k + 1 => by
    have := lookL_len f1 f2 f3 now k
    unfold lookL; split
    · simp; omega
    · omega
/-- what BeatLook answers -/
def look (ok : Bool) (f1 f2 : Nat → Int) (f3 : Nat → Bool) (now : Int) : LkV :=
  if ok = true then
    if inB now 0 1000000 = true then ⟨3, f1, f2, lookG f1 f2 f3 now 3, lookL f1 f2 f3 now 3⟩
    else ⟨3, f1, f2, f3, []⟩
  else ⟨0, f1, f2, f3, []⟩
/-- no block of the list is one of the Beat's -/
def OffB (A A1 A2 A3 : Option Addr) : Prop := ∀ b, BlkOf A b → ¬ (BlkOf A1 b ∨ BlkOf A2 b ∨ BlkOf A3 b)
theorem OffB.none {A1 A2 A3 : Option Addr} : OffB none A1 A2 A3 := fun _ h => h.no.elim
def LookR (v : LkV) (w : World) (e : Ending) (w' : World) : Prop :=
  ∃ A1 c1 A2 c2 A3 c3 A4 n4 c4, e = .returned (.tuple #[.agg #[.slice A1 v.n c1, .slice A2 v.n c2, .slice A3 v.n c3], .slice A4 n4 c4]) ∧ BtIn w.heap.size w'.heap.size w' A1 v.n c1 v.g1 A2 v.n c2 v.g2 A3 v.n c3 v.g3 ∧
    IntsIn w.heap.size w'.heap.size w' A4 n4 c4 v.l ∧ OffB A4 A1 A2 A3 ∧ Below w.heap.size w w'
/-- the blocks that the look writes -/
def LkS (g3 gN M b : Nat) : Prop := b = g3 ∨ b = gN ∨ M ≤ b
theorem Ch.of_grown {w w' : World} {o : Option Nat} (h : w.grownBy w' o) : Ch (fun k => o = some k) w w' := ⟨h.os, h.tape, h.output, h.size, fun k hk hn => h.block k hk (fun e => hn e.symm)⟩
theorem Ch.frozen {S : Nat → Prop} {w w' : World} (h : Ch S w w') {g o : Nat} (hg : g < w.heap.size) (hn : ¬ S g) : w'.frozen? ⟨g, o, none⟩ = w.frozen? ⟨g, o, none⟩ :=
  World.frozen?_of_block (a := ⟨g, o, none⟩) (h.block g hg hn)
theorem own_of_blk {A : Option Addr} {n c k : Nat} (h : BlkOf A k) : (Value.slice A n c).ownBlock = some k := by
  rcases A with _ | a
  · exact h.no.elim
  · simpa [Value.ownBlock, BlkOf] using h
theorem belowN {w : World} (n : Nat) : Below w.heap.size w (w.drewN n) := below_drewN (Below.refl _ _) n

set_option maxRecDepth 20000 in
set_option maxHeartbeats 1000000 in
theorem beatLook_impl (A1 : Option Addr) (n1 c1 : Nat) (f1 : Nat → Int) (A2 : Option Addr) (n2 c2 : Nat) (f2 : Nat → Int) (A3 : Option Addr) (n3 c3 : Nat) (f3 : Nat → Bool) (now : Int) (w : World) (h : BtAt w A1 n1 f1 A2 n2 f2 A3 n3 f3) :
    Calls Try.prog 19 #[.agg #[.slice A1 n1 c1, .slice A2 n2 c2, .slice A3 n3 c3], .int .i64 now] w (LookR (look (beatOkB n1 n2 n3 f1 f2) f1 f2 f3 now) w) := by
  obtain ⟨ok, hok⟩ : ∃ ok, beatOkB n1 n2 n3 f1 f2 = ok := ⟨_, rfl⟩
  cases ok
  · have HX := Lib.hid hok; clear hok
    rw [HX.out]
    have HV := Lib.hid (show look false f1 f2 f3 now = ⟨0, f1, f2, f3, []⟩ by simp [look])
    rw [HV.out]
    go_enter Try.func19, Try.ntmps19
    go_wp2_with fail
    refine (beatOk_impl _ _ _ f1 _ _ _ f2 _ _ _ f3 _ (h.keep (by go_grown))).mono ?_
    rintro e w1 ⟨rfl, hb1⟩
    obtain ⟨hc_w1, hf_w1⟩ := bcell hb1
    have hz_w1 := hb1.size
    try simp at hz_w1
    have hB_w1 : Below w.heap.size w w1 := bthen (by go_grown) hb1
    have hz_w1_w_0 : w.heap.size < w1.heap.size := by omega
    have hz_w1_w_1 : w.heap.size + 1 < w1.heap.size := by omega
    rw [HX.out]
    have k0 : w1.cell? ⟨w.heap.size + 1, 0, none⟩ = some (.slice none 0 0) := keep_cell hb1 (by simp [go_sem])
    have k1 : w1.cell? ⟨w.heap.size + 1, 1, none⟩ = some (.slice none 0 0) := keep_cell hb1 (by simp [go_sem])
    have k2 : w1.cell? ⟨w.heap.size + 1, 2, none⟩ = some (.slice none 0 0) := keep_cell hb1 (by simp [go_sem])
    go_wp2
    obtain ⟨WF, hWF, t0, t1, t2⟩ := set3 (u := .slice none 0 0) (v := .slice none 0 0) (x := .slice none 0 0) k0 k1 k2
    rw [← hWF]
    have hC : Ch (fun k => k = w.heap.size + 1) w1 WF := by
      rw [hWF]; exact (ch_one.trans ch_one).trans ch_one
    exact bodyPost_ret (v := .tuple #[.agg #[.slice none 0 0, .slice none 0 0, .slice none 0 0], .slice none 0 0]) (by simp [results, Try.results19, go_sem, t0, t1, t2]) rfl
      ⟨none, 0, none, 0, none, 0, none, 0, 0, rfl, BtIn.nil, IntsIn.nil, OffB.none, hB_w1.trans (hC.below (fun k hk => by omega) (by omega))⟩
  · obtain ⟨rfl, rfl, rfl⟩ := beatOk_lens hok
    have hbd := fun i hi => beatAt_bd hok (i := i) hi
    have HX := Lib.hid hok; clear hok
    rw [HX.out]
    obtain ⟨q, hq⟩ : ∃ q, inB now 0 1000000 = q := ⟨_, rfl⟩
    obtain ⟨b1, o1, rfl, hl1, hk1⟩ := h.1 (by omega)
    obtain ⟨b2, o2, rfl, hl2, hk2⟩ := h.2.1 (by omega)
    obtain ⟨b3, o3, rfl, hl3, hk3⟩ := h.2.2 (by omega)
    have HQ := Lib.hid hq
    cases q
    · have HV := Lib.hid (show look true f1 f2 f3 now = ⟨3, f1, f2, f3, []⟩ by simp [look, hq])
      rw [HV.out]
      clear hq
      go_enter Try.func19, Try.ntmps19
      go_wp2_with fail
      refine (beatOk_impl _ _ _ f1 _ _ _ f2 _ _ _ f3 _ (h.keep (by go_grown))).mono ?_
      rintro e w1 ⟨rfl, hb1⟩
      obtain ⟨hc_w1, hf_w1⟩ := bcell hb1
      have hz_w1 := hb1.size
      try simp at hz_w1
      have hB_w1 : Below w.heap.size w w1 := bthen (by go_grown) hb1
      have hz_w1_w_0 : w.heap.size < w1.heap.size := by omega
      have hz_w1_w_1 : w.heap.size + 1 < w1.heap.size := by omega
      rw [HX.out]
      have k0 : w1.cell? ⟨w.heap.size + 1, 0, none⟩ = some (.slice none 0 0) := keep_cell hb1 (by simp [go_sem])
      have k1 : w1.cell? ⟨w.heap.size + 1, 1, none⟩ = some (.slice none 0 0) := keep_cell hb1 (by simp [go_sem])
      have k2 : w1.cell? ⟨w.heap.size + 1, 2, none⟩ = some (.slice none 0 0) := keep_cell hb1 (by simp [go_sem])
      go_wp2_with fail
      refine (copyBeat_impl _ _ f1 _ _ f2 _ _ f3 _ (h.keep hB_w1)).mono ?_
      rintro e w2 ⟨B1, d1, B2, d2, B3, d3, rfl, hin2, hb2⟩
      obtain ⟨hc_w2, hf_w2⟩ := bcell hb2
      have hz_w2 := hb2.size
      try simp at hz_w2
      have hB_w2 : Below w.heap.size w w2 := bthen (by go_grown) hb2
      have hz_w2_w_0 : w.heap.size < w2.heap.size := by omega
      have hz_w2_w_1 : w.heap.size + 1 < w2.heap.size := by omega
      have m0 := keep_cell hb2 k0
      have m1 := keep_cell hb2 k1
      have m2 := keep_cell hb2 k2
      have hz12 := hb2.size
      clear k0 k1 k2
      go_wp2_with fail
      refine (within_any _ _ _ _).mono ?_
      rintro e w3 ⟨rfl, rfl⟩; rw [HQ.out]
      go_wp2
      obtain ⟨WF, hWF, t0, t1, t2⟩ := set3 (u := .slice B1 3 d1) (v := .slice B2 3 d2) (x := .slice B3 3 d3) m0 m1 m2
      rw [← hWF]
      have hC : Ch (fun k => k = w.heap.size + 1) w2 WF := by
        rw [hWF]; exact (ch_one.trans ch_one).trans ch_one
      have hzF := hC.size
      have hzl : w.heap.size + 1 < WF.heap.size := by omega
      have alF := fun o => (Below.refl WF.heap.size WF).alloc (Nat.le_refl _) o
      refine bodyPost_ret (v := .tuple #[.agg #[.slice B1 3 d1, .slice B2 3 d2, .slice B3 3 d3], .slice none 0 0]) (by simp [results, Try.results19, go_sem, t0, t1, t2, hzl]) rfl
        ⟨B1, d1, B2, d2, B3, d3, none, 0, 0, rfl, ?_, IntsIn.nil, OffB.none, bthen (hB_w2.trans (hC.below (fun k hk => by omega) (by omega))) (alF _)⟩
      exact ((hin2.ch hC (fun k hk e => by unfold Iv at hk; omega)).keep (alF _)).wide (by omega) (Nat.le_trans hzF (by simp))
    · have HV := Lib.hid (show look true f1 f2 f3 now = ⟨3, f1, f2, lookG f1 f2 f3 now 3, lookL f1 f2 f3 now 3⟩ by simp [look, hq])
      rw [HV.out]
      clear hq
      go_enter Try.func19, Try.ntmps19
      go_wp2_with fail
      refine (beatOk_impl _ _ _ f1 _ _ _ f2 _ _ _ f3 _ (h.keep (by go_grown))).mono ?_
      rintro e w1 ⟨rfl, hb1⟩
      obtain ⟨hc_w1, hf_w1⟩ := bcell hb1
      have hz_w1 := hb1.size
      try simp at hz_w1
      have hB_w1 : Below w.heap.size w w1 := bthen (by go_grown) hb1
      have hz_w1_w_0 : w.heap.size < w1.heap.size := by omega
      have hz_w1_w_1 : w.heap.size + 1 < w1.heap.size := by omega
      rw [HX.out]
      have y0 : w1.cell? ⟨w.heap.size, 0, none⟩ = some (.slice (some ⟨b1, o1, none⟩) 3 c1) := keep_cell hb1 (by simp [go_sem])
      have y1 : w1.cell? ⟨w.heap.size, 1, none⟩ = some (.slice (some ⟨b2, o2, none⟩) 3 c2) := keep_cell hb1 (by simp [go_sem])
      have y2 : w1.cell? ⟨w.heap.size, 2, none⟩ = some (.slice (some ⟨b3, o3, none⟩) 3 c3) := keep_cell hb1 (by simp [go_sem])
      have k0 : w1.cell? ⟨w.heap.size + 1, 0, none⟩ = some (.slice none 0 0) := keep_cell hb1 (by simp [go_sem])
      have k1 : w1.cell? ⟨w.heap.size + 1, 1, none⟩ = some (.slice none 0 0) := keep_cell hb1 (by simp [go_sem])
      have k2 : w1.cell? ⟨w.heap.size + 1, 2, none⟩ = some (.slice none 0 0) := keep_cell hb1 (by simp [go_sem])
      have u0 : w1.frozen? ⟨w.heap.size + 1, 0, none⟩ = false := (hb1.frozen (by simp)).trans (by simp [go_sem])
      have u1 : w1.frozen? ⟨w.heap.size + 1, 1, none⟩ = false := (hb1.frozen (by simp)).trans (by simp [go_sem])
      have u2 : w1.frozen? ⟨w.heap.size + 1, 2, none⟩ = false := (hb1.frozen (by simp)).trans (by simp [go_sem])
      go_wp2_with fail
      refine (copyBeat_impl _ _ f1 _ _ f2 _ _ f3 _ (h.keep hB_w1)).mono ?_
      rintro e w2 ⟨B1, d1, B2, d2, B3, d3, rfl, hin2, hb2⟩
      obtain ⟨hc_w2, hf_w2⟩ := bcell hb2
      have hz_w2 := hb2.size
      try simp at hz_w2
      have hB_w2 : Below w.heap.size w w2 := bthen (by go_grown) hb2
      have hz_w2_w_0 : w.heap.size < w2.heap.size := by omega
      have hz_w2_w_1 : w.heap.size + 1 < w2.heap.size := by omega
      have hz12 := hb2.size
      go_wp2_with fail
      refine (within_any _ _ _ _).mono ?_
      rintro e w3 ⟨rfl, rfl⟩; rw [HQ.out]
      obtain ⟨g1, rfl⟩ := hin2.r1.head (by omega)
      obtain ⟨g2, rfl⟩ := hin2.r2.head (by omega)
      obtain ⟨g3, rfl⟩ := hin2.r3.head (by omega)
      have i3 := (hin2.r3.blk (g := g3) (by simp [BlkOf])).1
      unfold Iv at i3
      have al := fun o => (Below.refl w2.heap.size w2).alloc (Nat.le_refl _) o
      obtain ⟨W, hW⟩ : ∃ W, W = (w2.alloc (.cells #[.slice (some ⟨g1, 0, none⟩) 3 d1, .slice (some ⟨g2, 0, none⟩) 3 d2, .slice (some ⟨g3, 0, none⟩) 3 d3] 27)).alloc (.cells #[] 3) := ⟨_, rfl⟩
      have hbW : Below w2.heap.size w2 W := by rw [hW]; exact ((Below.refl _ _).alloc (Nat.le_refl _) _).alloc (by simp) _
      have hWs : W.heap.size = w2.heap.size + 2 := by rw [hW]; simp
      have e0 : W.cell? ⟨w2.heap.size, 0, none⟩ = some (.slice (some ⟨g1, 0, none⟩) 3 d1) := by rw [hW]; simp [go_sem]
      have e1 : W.cell? ⟨w2.heap.size, 1, none⟩ = some (.slice (some ⟨g2, 0, none⟩) 3 d2) := by rw [hW]; simp [go_sem]
      have e2 : W.cell? ⟨w2.heap.size, 2, none⟩ = some (.slice (some ⟨g3, 0, none⟩) 3 d3) := by rw [hW]; simp [go_sem]
      have hN : W.ownsRow (w2.heap.size + 1) 3 1 (.slice (some ⟨w2.heap.size + 1, 0, none⟩) 0 0) 0 [] := by
        rw [hW]; simpa using own_empty (w2.alloc _) 3 1 (base := w2.heap.size + 1) (by simp)
      have hbB := bthen hB_w2 hbW
      have hbc := hb2.trans (hbW.mono hz12)
      have z0 := keep_cell hbW (keep_cell hb2 y0)
      have z1 := keep_cell hbW (keep_cell hb2 y1)
      have z2 := keep_cell hbW (keep_cell hb2 y2)
      have m0 := keep_cell hbW (keep_cell hb2 k0)
      have m1 := keep_cell hbW (keep_cell hb2 k1)
      have m2 := keep_cell hbW (keep_cell hb2 k2)
      have v0 := (hbW.frozen (p := ⟨w.heap.size + 1, 0, none⟩) (by simp; omega)).trans ((hb2.frozen (p := ⟨w.heap.size + 1, 0, none⟩) (by simp; omega)).trans u0)
      have v1 := (hbW.frozen (p := ⟨w.heap.size + 1, 1, none⟩) (by simp; omega)).trans ((hb2.frozen (p := ⟨w.heap.size + 1, 1, none⟩) (by simp; omega)).trans u1)
      have v2 := (hbW.frozen (p := ⟨w.heap.size + 1, 2, none⟩) (by simp; omega)).trans ((hb2.frozen (p := ⟨w.heap.size + 1, 2, none⟩) (by simp; omega)).trans u2)
      have hinW := hin2.keep hbW
      clear y0 y1 y2 k0 k1 k2 u0 u1 u2
      go_wp2
      rw [← hW]
      clear hW
      go_loopw [7, 24] (fun o i wr => ∃ (k : Nat) (A4 : Option Addr) (n4 cap : Nat), k ≤ 3 ∧ i = .int .i64 k ∧ o = .slice A4 n4 cap ∧ n4 ≤ k ∧ wr.ownsRow (w2.heap.size + 1) 3 1 (.slice A4 n4 cap) n4 ((lookL f1 f2 f3 now k).map (Value.int .i64)) ∧ (∀ b, BlkOf A4 b → b = w2.heap.size + 1 ∨ W.heap.size ≤ b) ∧
        BtIn w1.heap.size w2.heap.size wr (some ⟨g1, 0, none⟩) 3 d1 f1 (some ⟨g2, 0, none⟩) 3 d2 f2 (some ⟨g3, 0, none⟩) 3 d3 (lookG f1 f2 f3 now k) ∧ Ch (LkS g3 (w2.heap.size + 1) W.heap.size) W wr) (fun _ i _ => 3 - (intOf i).toNat)
      case atStart => exact ⟨0, _, 0, 0, Nat.zero_le _, rfl, rfl, Nat.le_refl _, hN, fun b hb => .inl hb.eq.symm, hinW, Ch.refl _⟩
      case round =>
        obtain ⟨k, A4, n4, cap, hk, rfl, rfl, hn4, hown, hA4, hin, hc⟩ := hrel
        have hzr := hc.size
        have nS : ∀ b, b < w2.heap.size + 1 → b ≠ g3 → ¬ LkS g3 (w2.heap.size + 1) W.heap.size b := fun b h1 h2 hs => by unfold LkS at hs; omega
        have r0 := hc.cell z0 (nS _ (by omega) (by omega))
        have r1 := hc.cell z1 (nS _ (by omega) (by omega))
        have r2 := hc.cell z2 (nS _ (by omega) (by omega))
        have x0 := hc.cell e0 (nS _ (by omega) (by omega))
        have x1 := hc.cell e1 (nS _ (by omega) (by omega))
        have x2 := hc.cell e2 (nS _ (by omega) (by omega))
        by_cases hlt : k < 3
        · have hc1 := hc.cell ((hbB.cell (p := ⟨b1, o1 + k, none⟩) hl1).trans (hk1 k hlt)) (nS _ (by omega) (by omega))
          have hc2 := hc.cell ((hbB.cell (p := ⟨b2, o2 + k, none⟩) hl2).trans (hk2 k hlt)) (nS _ (by omega) (by omega))
          have hc3 := hc.cell ((hbB.cell (p := ⟨b3, o3 + k, none⟩) hl3).trans (hk3 k hlt)) (nS _ (by omega) (by omega))
          unfold intV at hc1 hc2
          unfold boolV at hc3
          have hbk := hbd k hlt
          have hwr : IntKind.i64.wrap (f1 k + f2 k) = f1 k + f2 k := IntWalk.i64_in _ (by omega)
          obtain ⟨q3, hq3⟩ : ∃ q, f3 k = q := ⟨_, rfl⟩
          rw [hq3] at hc3
          cases q3
          · by_cases hb : f1 k + f2 k < now
            · have hd : decide (f1 k + f2 k < now) = true := by simpa using hb
              have hB : lookB f1 f2 f3 now k = true := by simp [lookB, hq3, hb]
              have HL := Lib.hid (show lookL f1 f2 f3 now (k + 1) = lookL f1 f2 f3 now k ++ [(k : Int)] by rw [lookL, if_pos hB])
              have HG := Lib.hid (show lookG f1 f2 f3 now (k + 1) = upd (lookG f1 f2 f3 now k) k true by rw [lookG, if_pos hB])
              have t3 := hin.r3.cellAt hlt
              have tf := hin.r3.frozenAt k
              clear hq3 hb hB
              go_wp2
              go_quiet (fail)
              have HD := hin.keep (belowN nq)
              obtain ⟨HI2, C2⟩ := HD.set3 k true
              have hownD := own_ch hown (Ch.of_below (S := fun _ => False) (belowN nq)) (fun _ _ h => h)
              have hown2 := own_ch hownD (ch_one (g := g3) (j := k) (v := .bool true)) (fun b hb e => by have := hA4 b (blk_of hb); omega)
              have hzq : ((wr.drewN nq).setCell ⟨g3, k, none⟩ (.bool true)).heap.size = wr.heap.size := by simp
              have hz2 : w2.heap.size + 1 ≤ ((wr.drewN nq).setCell ⟨g3, k, none⟩ (.bool true)).heap.size := by omega
              go_wp2_with (at_builtin; refine wpList_app1g (P := Try.prog) _ rfl (.tmp 50) (.tmp 52) 24 rfl (w2.heap.size + 1) 3 _ 1 8 Try.underlying24 infoInt rfl (by omega) (.slice A4 _ cap) _ _ rfl hown2 #[.int .i64 k] _ rfl (by simp) rfl (by simp [Value.oneCell']) (by unfold maxLen; omega) (by omega) hz2 ?_; intro A' c' w4 hown4 hg4 hb4 hob)
              refine ⟨⟨k + 1, A', n4 + 1, c', by omega, by go_num, rfl, by omega, by rw [HL.out]; simpa using hown4, fun b hb => ?_, ?_, ?_⟩, by simp [intOf]; omega⟩
              · rcases hob with e | e
                · exact hA4 b (blk_of (e.symm.trans (own_of_blk hb)))
                · have := Option.some.inj ((own_of_blk hb).symm.trans e); omega
              · rw [HG.out]; exact HI2.ch (Ch.of_grown hg4) (fun b hb e => by have := hA4 b (blk_of e); unfold Iv at hb; omega)
              · exact ((hc.drewN nq).trans (ch_one.mono fun b hb => .inl hb)).trans ((Ch.of_grown hg4).mono fun b hb => by have := hA4 b (blk_of hb); unfold LkS; omega)
            · have hd : decide (f1 k + f2 k < now) = false := by simpa using hb
              have hB : ¬ (lookB f1 f2 f3 now k = true) := by simp [lookB, hb]
              have HL := Lib.hid (show lookL f1 f2 f3 now (k + 1) = lookL f1 f2 f3 now k by rw [lookL, if_neg hB])
              have HG := Lib.hid (show lookG f1 f2 f3 now (k + 1) = lookG f1 f2 f3 now k by rw [lookG, if_neg hB])
              clear hq3 hb hB
              go_wp2
              go_quiet (fail)
              go_wp2
              exact ⟨⟨k + 1, A4, n4, cap, by omega, by go_num, rfl, by omega, by rw [HL.out]; exact own_ch hown (Ch.of_below (S := fun _ => False) (belowN _)) (fun _ _ h => h), hA4, by rw [HG.out]; exact hin.keep (belowN _), hc.drewN _⟩, by simp [intOf]; omega⟩
          · have hB : ¬ (lookB f1 f2 f3 now k = true) := by simp [lookB, hq3]
            have HL := Lib.hid (show lookL f1 f2 f3 now (k + 1) = lookL f1 f2 f3 now k by rw [lookL, if_neg hB])
            have HG := Lib.hid (show lookG f1 f2 f3 now (k + 1) = lookG f1 f2 f3 now k by rw [lookG, if_neg hB])
            clear hq3 hB
            go_wp2
            go_quiet (fail)
            go_wp2
            exact ⟨⟨k + 1, A4, n4, cap, by omega, by go_num, rfl, by omega, by rw [HL.out]; exact own_ch hown (Ch.of_below (S := fun _ => False) (belowN _)) (fun _ _ h => h), hA4, by rw [HG.out]; exact hin.keep (belowN _), hc.drewN _⟩, by simp [intOf]; omega⟩
        · obtain rfl : k = 3 := by omega
          have q0 := hc.cell m0 (nS _ (by omega) (by omega))
          have q1 := hc.cell m1 (nS _ (by omega) (by omega))
          have q2 := hc.cell m2 (nS _ (by omega) (by omega))
          have v0' := (hc.frozen (g := w.heap.size + 1) (o := 0) (by omega) (nS _ (by omega) (by omega))).trans v0
          have v1' := (hc.frozen (g := w.heap.size + 1) (o := 1) (by omega) (nS _ (by omega) (by omega))).trans v1
          have v2' := (hc.frozen (g := w.heap.size + 1) (o := 2) (by omega) (nS _ (by omega) (by omega))).trans v2
          go_wp2
          obtain ⟨WF, hWF, t0, t1, t2⟩ := set3 (W := wr) (u := .slice (some ⟨g1, 0, none⟩) 3 d1) (v := .slice (some ⟨g2, 0, none⟩) 3 d2) (x := .slice (some ⟨g3, 0, none⟩) 3 d3) q0 q1 q2
          rw [← hWF]
          have hC : Ch (fun k => k = w.heap.size + 1) wr WF := by
            rw [hWF]; exact (ch_one.trans ch_one).trans ch_one
          have hzF := hC.size
          refine bodyPost_ret (v := .tuple #[.agg #[.slice (some ⟨g1, 0, none⟩) 3 d1, .slice (some ⟨g2, 0, none⟩) 3 d2, .slice (some ⟨g3, 0, none⟩) 3 d3], .slice A4 n4 cap]) (by simp [results, Try.results19, go_sem, t0, t1, t2]) rfl
            ⟨_, d1, _, d2, _, d3, A4, n4, cap, rfl, ?_, ?_, ?_, ?_⟩
          · exact (hin.ch hC (fun k hk e => by unfold Iv at hk; omega)).wide (by omega) (by omega)
          · exact (IntsIn.of_own (own_ch hown hC (fun b hb e => by have := hA4 b (blk_of hb); omega))).wide (by omega) (Nat.le_refl _)
          · intro b hb ho
            have h4 := hA4 b hb
            have h5 : Iv w1.heap.size w2.heap.size b := by
              rcases ho with ho | ho | ho
              · exact (hin.r1.blk ho).1
              · exact (hin.r2.blk ho).1
              · exact (hin.r3.blk ho).1
            unfold Iv at h5; omega
          · exact (hbB.trans (hc.below (fun b hb => by unfold LkS at hb; omega) (by omega))).trans (hC.below (fun k hk => by omega) (by omega))
end Go.Proofs.Ytjhkeknbbeckgaa
