/- The draws of stamps: DrawStampLess, DrawStampHear. -/
import Derived.Test.YtbehiocdeefpmaaDrawSt
namespace Go.Proofs.Ytbehiocdeefpmaa
open Go.RowKit

/-- some three ints in a block -/
def RBox (w : World) (g : Nat) (full : Bool) (v : Value) : Prop := ∃ p q r, SBox w g p q r ∧ (full = true → v = .agg #[.int .i64 p, .int .i64 q, .int .i64 r])
theorem RBox.ch {S : Nat → Prop} {w w' : World} {g : Nat} {f : Bool} {v : Value} (h : RBox w g f v) (hc : Ch S w w') (hn : ¬ S g) : RBox w' g f v := by
  obtain ⟨p, q, r, hb, hv⟩ := h
  exact ⟨p, q, r, hb.ch hc hn, hv⟩
theorem RBox.keep {w w' : World} {g : Nat} {f : Bool} {v : Value} (h : RBox w g f v) (hb : Below w.heap.size w w') : RBox w' g f v := h.ch (S := fun _ => False) (Ch.of_below hb) (fun h => h)
theorem RBox.new {w : World} {g : Nat} {p q r : Int} {v : Value} {f : Bool} (h : SBox w g p q r) (hf : f = false) : RBox w g f v := ⟨p, q, r, h, fun e => by rw [hf] at e; cases e⟩
theorem RBox.full {w : World} {g : Nat} {p q r : Int} {f : Bool} (h : SBox w g p q r) : RBox w g f (.agg #[.int .i64 p, .int .i64 q, .int .i64 r]) := ⟨p, q, r, h, fun _ => rfl⟩
theorem RBox.off {w : World} {g : Nat} {f : Bool} {v v' : Value} (h : RBox w g f v) (hf : f = false) : RBox w g f v' := by
  obtain ⟨p, q, r, hb, _⟩ := h
  exact RBox.new hb hf

theorem ValsAt.ch1 {w w' : World} {gb g n : Nat} {f : Nat → Value} (h : ValsAt w (some ⟨gb, 0, none⟩) n f) (hc : Ch (fun k => k = g) w w') (hg : gb ≠ g) : ValsAt w' (some ⟨gb, 0, none⟩) n f := fun hn => by
  obtain ⟨b, off, e, hlt, hcell⟩ := h hn
  injection e with e; injection e with e1 e2 _; subst e1 e2
  exact ⟨_, _, rfl, Nat.lt_of_lt_of_le hlt hc.size, fun i hi => hc.cell (hcell i hi) hg⟩
theorem ch3 {w : World} {g : Nat} {u v x : Value} : Ch (fun k => k = g) w (((w.setCell ⟨g, 0, none⟩ u).setCell ⟨g, 1, none⟩ v).setCell ⟨g, 2, none⟩ x) :=
  ((Ch.one (g := g) (o := 0) (v := u)).trans (Ch.one (g := g) (o := 1) (v := v))).trans (Ch.one (g := g) (o := 2) (v := x))
set_option maxRecDepth 8000 in
set_option maxHeartbeats 1000000 in
theorem drawStampLess_any (A : Option Addr) (n c : Nat) (f : Nat → Int) (w : World) (h : CodeAt w A n f) (hn : n ≤ 1048576) :
    Calls Try.prog 17 #[.slice A n c] w fun e w' => ∃ a b c x y z, e = .returned (.tuple #[.agg #[.int .i64 a, .int .i64 b, .int .i64 c], .agg #[.int .i64 x, .int .i64 y, .int .i64 z]]) ∧ Below w.heap.size w w' := by
  go_enter Try.func17, Try.ntmps17
  go_wp2_with fail
  obtain ⟨W, hW⟩ : ∃ W, W = (w.alloc (.cells #[.int .i64 0, .int .i64 0, .int .i64 0] 24)).alloc (.cells #[.int .i64 0, .int .i64 0, .int .i64 0] 24) := ⟨_, rfl⟩
  have hR1 : SBox W w.heap.size 0 0 0 := by subst hW; exact (SBox.new w _ 0 0 0).keep ((Below.refl _ _).alloc (Nat.le_refl _) _)
  have hR2 : SBox W (w.heap.size + 1) 0 0 0 := by subst hW; simpa using SBox.new (w.alloc (.cells #[.int .i64 0, .int .i64 0, .int .i64 0] 24)) 24 0 0 0
  have hbW : Below w.heap.size w W := by subst hW; exact ((Below.refl _ _).alloc (Nat.le_refl _) _).alloc (by simp) _
  have hzW : W.heap.size = w.heap.size + 2 := by subst hW; simp
  rw [← hW]
  clear hW
  refine (l1New_any _ _ _ _ _ (h.keep hbW) hn).mono ?_
  rintro e w1 ⟨rfl, hc1, hb1⟩
  obtain ⟨g, hg⟩ : ∃ g, W.heap.size = g := ⟨_, rfl⟩
  have hgw : w.heap.size + 2 ≤ g := by omega
  have hb1w := bthen hbW hb1
  have r1 := hR1.keep hb1
  have r2 := hR2.keep hb1
  rw [hg] at hc1 ⊢
  clear hR1 hR2 hzW hbW hb1 hg
  go_wp2_with fail
  refine (l32Stamp_any _ _ hc1).mono ?_
  rintro e w2 ⟨a, b, d, rfl, hc2, hch2⟩
  have al2 := (Below.refl w2.heap.size w2).alloc (Nat.le_refl _) (.cells #[.int .i64 a, .int .i64 b, .int .i64 d] 24)
  have hb2w : Below w.heap.size w w2 := hb1w.trans (hch2.below (fun k hk => by omega) hb1w.size)
  have q1 := (r1.ch hch2 (by omega)).keep al2
  have q2 := (r2.ch hch2 (by omega)).keep al2
  have hs := SBox.new w2 24 a b d
  have hc3 := hc2.keep al2
  have hb3w := bthen hb2w al2
  obtain ⟨s, hse⟩ : ∃ s, w2.heap.size = s := ⟨_, rfl⟩
  have hsg : g < s := by have := hc2.lt; omega
  go_wp2
  (try rw [hse] at hs)
  (try rw [hse])
  obtain ⟨W3, hW3⟩ : ∃ W3, W3 = w2.alloc (.cells #[.int .i64 a, .int .i64 b, .int .i64 d] 24) := ⟨_, rfl⟩
  rw [← hW3] at hs hc3 hb3w q1 q2 ⊢
  clear hW3 hse al2 hc2 hch2 r1 r2 hc1 hb1w hb2w
  refine wp_region_dag (by kernel_rfl) (by kernel_rfl) (fun D a' w' => ∃ v10 v11 v12 : Value, a' = { tmps := #[.slice A n c, undef, .pointer (some ⟨w.heap.size, 0, none⟩), .pointer (some ⟨w.heap.size + 1, 0, none⟩), .pointer (some ⟨g, 0, none⟩), .pointer (some ⟨s, 0, none⟩), .slice A n c, .pointer (some ⟨g, 0, none⟩), .pointer (some ⟨g, 0, none⟩), .agg #[.int .i64 a, .int .i64 b, .int .i64 d], v10, v11, v12], defers := [] } ∧ (D 2 = false → Cur w' g) ∧ SBox w' s a b d ∧ Below w.heap.size w w' ∧
    (D 0 = true → v10 = .agg #[.int .i64 a, .int .i64 b, .int .i64 d]) ∧ (D 1 = true → v11 = .pointer (some ⟨g, 0, none⟩)) ∧ (D 2 = true → ∃ x y z, v12 = .agg #[.int .i64 x, .int .i64 y, .int .i64 z]) ∧ RBox w' w.heap.size (D 3) (.agg #[.int .i64 a, .int .i64 b, .int .i64 d]) ∧ RBox w' (w.heap.size + 1) (D 4) v12 ∧ (D 4 = true → D 2 = true))
    ⟨undef, undef, undef, rfl, fun _ => hc3.keep (Below.refl _ _).drew, hs.keep (Below.refl _ _).drew, hb3w.drew, (fun h => by cases h), (fun h => by cases h), (fun h => by cases h), RBox.new (q1.keep (Below.refl _ _).drew) rfl, RBox.new (q2.keep (Below.refl _ _).drew) rfl, (fun h => by cases h)⟩ ?_ ?_
  · intro i D a' w' hi hD hdep hI
    have hi' : i < 5 := hi
    obtain ⟨v10, v11, v12, rfl, hc, hs, hb, k0, k1, k2, R1, R2, kz⟩ := hI
    rcases (show i = 0 ∨ i = 1 ∨ i = 2 ∨ i = 3 ∨ i = 4 by omega) with rfl | rfl | rfl | rfl | rfl
    · obtain ⟨s0, s1, s2, g0, g1, g2⟩ := id hs
      refine wpOp_step (by simp only [List.getElem?_toArray, List.getElem?_cons_succ, List.getElem?_cons_zero]; rfl) (fun K hK => ?_)
      go_simp
      exact hK _ _ ⟨_, v11, v12, rfl, hc, hs, hb, (fun _ => rfl), k1, k2, R1, R2, kz⟩
    · refine wpOp_step (by simp only [List.getElem?_toArray, List.getElem?_cons_succ, List.getElem?_cons_zero]; rfl) (fun K hK => ?_)
      go_simp
      exact hK _ _ ⟨v10, _, v12, rfl, hc, hs, hb, k0, (fun _ => rfl), k2, R1, R2, kz⟩
    · have e1 := k1 (hdep 1 (by kernel_rfl)); subst e1
      have d4 : D 4 = false := by
        cases h4 : D 4
        · rfl
        · exact absurd (kz h4) (by rw [hD]; simp)
      refine wpOp_step (by simp only [List.getElem?_toArray, List.getElem?_cons_succ, List.getElem?_cons_zero]; rfl) (fun K hK => ?_)
      go_simp
      refine (l32Stamp_any _ _ (hc hD)).mono ?_
      rintro e w4 ⟨x, y, z, rfl, hc4, hch4⟩
      exact hK _ _ ⟨v10, _, _, rfl, (fun h => absurd h (by simp)), hs.ch hch4 (by omega), hb.trans (hch4.below (fun k hk => by omega) hb.size), k0, (fun _ => rfl), (fun _ => ⟨x, y, z, rfl⟩), R1.ch hch4 (by omega), (R2.ch hch4 (by omega)).off d4, (fun _ => rfl)⟩
    · have e0 := k0 (hdep 0 (by kernel_rfl)); subst e0
      have d2 := hdep 2 (by kernel_rfl)
      obtain ⟨p, q, r, hB, _⟩ := R1
      obtain ⟨s0, s1, s2, g0, g1, g2⟩ := id hB
      refine wpOp_step (by simp only [List.getElem?_toArray, List.getElem?_cons_succ, List.getElem?_cons_zero]; rfl) (fun K hK => ?_)
      go_simp
      have one := ch3 (w := w') (g := w.heap.size) (u := .int .i64 a) (v := .int .i64 b) (x := .int .i64 d)
      exact hK _ _ ⟨_, v11, v12, rfl, (fun h => by rw [show D 2 = false from h] at d2; cases d2), hs.ch one (by omega), (((hb.setCell (Nat.le_refl _) _).setCell (Nat.le_refl _) _).setCell (Nat.le_refl _) _), (fun _ => rfl), k1, k2, RBox.full (hB.s3 a b d), R2.ch one (by omega), kz⟩
    · have d2 := hdep 2 (by kernel_rfl)
      obtain ⟨x, y, z, e2⟩ := k2 d2; subst e2
      obtain ⟨p, q, r, hB, _⟩ := R2
      obtain ⟨s0, s1, s2, g0, g1, g2⟩ := id hB
      refine wpOp_step (by simp only [List.getElem?_toArray, List.getElem?_cons_succ, List.getElem?_cons_zero]; rfl) (fun K hK => ?_)
      go_simp
      have one := ch3 (w := w') (g := w.heap.size + 1) (u := .int .i64 x) (v := .int .i64 y) (x := .int .i64 z)
      exact hK _ _ ⟨v10, v11, _, rfl, (fun h => by rw [show D 2 = false from h] at d2; cases d2), hs.ch one (by omega), (((hb.setCell (Nat.le_succ _) _).setCell (Nat.le_succ _) _).setCell (Nat.le_succ _) _), k0, k1, (fun _ => ⟨x, y, z, rfl⟩), R1.ch one (by omega), RBox.full (hB.s3 x y z), (fun _ => d2)⟩
  · intro D a' w' hD hI
    obtain ⟨v10, v11, v12, rfl, _, hs, hb, k0, k1, k2, ⟨p1, q1, r1, hB1, hF1⟩, ⟨p2, q2, r2, hB2, hF2⟩, _⟩ := hI
    have e1 := hF1 (hD 3 (by decide))
    have e2 := hF2 (hD 4 (by decide))
    injection e1 with e1
    simp at e1
    obtain ⟨rfl, rfl, rfl⟩ := e1
    subst e2
    obtain ⟨s0, s1, s2, g0, g1, g2⟩ := hB1
    obtain ⟨u0, u1, u2, h0, h1, h2⟩ := hB2
    clear k0 k1 k2 hF1 hF2 hD
    go_wp2
    refine bodyPost_ret (v := .tuple #[.agg #[.int .i64 a, .int .i64 b, .int .i64 d], .agg #[.int .i64 p2, .int .i64 q2, .int .i64 r2]]) (by simp [results, Try.results17, go_sem, s0, s1, s2, u0, u1, u2]) rfl ⟨_, _, _, _, _, _, rfl, hb⟩

set_option maxRecDepth 8000 in
set_option maxHeartbeats 1000000 in
theorem drawStampHear_any (A : Option Addr) (n c : Nat) (f : Nat → Int) (w : World) (h : CodeAt w A n f) (hn : n ≤ 1048576) :
    Calls Try.prog 12 #[.slice A n c] w fun e w' => ∃ a b c x y z wall, e = .returned (.tuple #[.agg #[.int .i64 a, .int .i64 b, .int .i64 c], .agg #[.int .i64 x, .int .i64 y, .int .i64 z], .int .i64 wall]) ∧ Below w.heap.size w w' := by
  go_enter Try.func12, Try.ntmps12
  go_wp2_with fail
  obtain ⟨W, hW⟩ : ∃ W, W = (w.alloc (.cells #[.int .i64 0, .int .i64 0, .int .i64 0] 24)).alloc (.cells #[.int .i64 0, .int .i64 0, .int .i64 0] 24) := ⟨_, rfl⟩
  have hR1 : SBox W w.heap.size 0 0 0 := by subst hW; exact (SBox.new w _ 0 0 0).keep ((Below.refl _ _).alloc (Nat.le_refl _) _)
  have hR2 : SBox W (w.heap.size + 1) 0 0 0 := by subst hW; simpa using SBox.new (w.alloc (.cells #[.int .i64 0, .int .i64 0, .int .i64 0] 24)) 24 0 0 0
  have hbW : Below w.heap.size w W := by subst hW; exact ((Below.refl _ _).alloc (Nat.le_refl _) _).alloc (by simp) _
  have hzW : W.heap.size = w.heap.size + 2 := by subst hW; simp
  rw [← hW]
  clear hW
  refine (l1New_any _ _ _ _ _ (h.keep hbW) hn).mono ?_
  rintro e w1 ⟨rfl, hc1, hb1⟩
  obtain ⟨g, hg⟩ : ∃ g, W.heap.size = g := ⟨_, rfl⟩
  have hgw : w.heap.size + 2 ≤ g := by omega
  have hb1w := bthen hbW hb1
  have r1 := hR1.keep hb1
  have r2 := hR2.keep hb1
  rw [hg] at hc1 ⊢
  clear hR1 hR2 hzW hbW hb1 hg
  go_wp2_with fail
  refine (l32Stamp_any _ _ hc1).mono ?_
  rintro e w2 ⟨a, b, d, rfl, hc2, hch2⟩
  have al2 := (Below.refl w2.heap.size w2).alloc (Nat.le_refl _) (.cells #[.int .i64 a, .int .i64 b, .int .i64 d] 24)
  have hb2w : Below w.heap.size w w2 := hb1w.trans (hch2.below (fun k hk => by omega) hb1w.size)
  have q1 := (r1.ch hch2 (by omega)).keep al2
  have q2 := (r2.ch hch2 (by omega)).keep al2
  have hs := SBox.new w2 24 a b d
  have hc3 := hc2.keep al2
  have hb3w := bthen hb2w al2
  have hsg : g < w2.heap.size := hc2.lt
  clear hc2 hch2 r1 r2 hc1 hb1w hb2w al2
  go_wp2_with fail
  obtain ⟨W3, hW3⟩ : ∃ W3, W3 = w2.alloc (.cells #[.int .i64 a, .int .i64 b, .int .i64 d] 24) := ⟨_, rfl⟩
  obtain ⟨s, hse⟩ : ∃ s, w2.heap.size = s := ⟨_, rfl⟩
  rw [← hW3] at hs hc3 hb3w q1 q2 ⊢
  rw [hse] at hs hsg ⊢
  clear hW3 hse
  refine (l32Stamp_any _ _ hc3).mono ?_
  rintro e w4 ⟨x, y, z, rfl, hc4, hch4⟩
  have al4 := (Below.refl w4.heap.size w4).alloc (Nat.le_refl _) (.cells #[.int .i64 x, .int .i64 y, .int .i64 z] 24)
  have hb4w : Below w.heap.size w w4 := hb3w.trans (hch4.below (fun k hk => by omega) hb3w.size)
  have p1 := (q1.ch hch4 (by omega)).keep al4
  have p2 := (q2.ch hch4 (by omega)).keep al4
  have hs4 := (hs.ch hch4 (by omega)).keep al4
  have hu := SBox.new w4 24 x y z
  have hc5 := hc4.keep al4
  have hb5w := bthen hb4w al4
  have hug : g < w4.heap.size := hc4.lt
  clear hc4 hch4 q1 q2 hc3 hb3w hb4w al4 hs
  go_wp2
  obtain ⟨W5, hW5⟩ : ∃ W5, W5 = w4.alloc (.cells #[.int .i64 x, .int .i64 y, .int .i64 z] 24) := ⟨_, rfl⟩
  obtain ⟨u, hue⟩ : ∃ u, w4.heap.size = u := ⟨_, rfl⟩
  rw [← hW5] at hs4 hu hc5 hb5w p1 p2 ⊢
  rw [hue] at hu hug ⊢
  clear hW5 hue
  obtain ⟨F, hF⟩ : ∃ F : Nat → Int, F = (fun i => if i = 0 then 0 else if i = 1 then 3 else if i = 2 then 5 else if i = 3 then 9 else if i = 4 then 1000000 else if i = 5 then 1000001 else -1) := ⟨_, rfl⟩
  refine wp_region_dag (by kernel_rfl) (by kernel_rfl) (fun D a' w' => ∃ v4 v14 v15 v16 v17 v18 : Value, a' = { tmps := #[.slice A n c, undef, .pointer (some ⟨w.heap.size, 0, none⟩), .pointer (some ⟨w.heap.size + 1, 0, none⟩), v4, .pointer (some ⟨g, 0, none⟩), .pointer (some ⟨s, 0, none⟩), .pointer (some ⟨u, 0, none⟩), .slice A n c, .pointer (some ⟨g, 0, none⟩), .pointer (some ⟨g, 0, none⟩), .agg #[.int .i64 a, .int .i64 b, .int .i64 d], .pointer (some ⟨g, 0, none⟩), .agg #[.int .i64 x, .int .i64 y, .int .i64 z], v14, v15, v16, v17, v18], defers := [] } ∧ (D 4 = false → Cur w' g) ∧ SBox w' s a b d ∧ SBox w' u x y z ∧ Below w.heap.size w w' ∧
    (D 0 = true → v14 = .agg #[.int .i64 a, .int .i64 b, .int .i64 d]) ∧ (D 1 = true → v15 = .agg #[.int .i64 x, .int .i64 y, .int .i64 z]) ∧ (D 2 = true → v16 = .pointer (some ⟨g, 0, none⟩)) ∧ (D 3 = true → ∃ gb, v17 = .slice (some ⟨gb, 0, none⟩) 7 7 ∧ g < gb ∧ ValsAt w' (some ⟨gb, 0, none⟩) 7 (intV F)) ∧ (D 4 = true → ∃ t, v18 = .int .i64 t) ∧
    RBox w' w.heap.size (D 5) (.agg #[.int .i64 a, .int .i64 b, .int .i64 d]) ∧ RBox w' (w.heap.size + 1) (D 6) (.agg #[.int .i64 x, .int .i64 y, .int .i64 z]) ∧ (D 7 = true → ∃ t, v4 = .int .i64 t) ∧ (D 5 = true → D 4 = true))
    ⟨.int .i64 0, undef, undef, undef, undef, undef, rfl, fun _ => hc5.keep (Below.refl _ _).drew, hs4.keep (Below.refl _ _).drew, hu.keep (Below.refl _ _).drew, hb5w.drew, (fun h => by cases h), (fun h => by cases h), (fun h => by cases h), (fun h => by cases h), (fun h => by cases h), RBox.new (p1.keep (Below.refl _ _).drew) rfl, RBox.new (p2.keep (Below.refl _ _).drew) rfl, (fun h => by cases h), (fun h => by cases h)⟩ ?_ ?_
  · intro i D a' w' hi hD hdep hI
    have hi' : i < 8 := hi
    obtain ⟨v4, v14, v15, v16, v17, v18, rfl, hc, hs, hu, hb, k0, k1, k2, k3, k4, R1, R2, k7, kz⟩ := hI
    have hgl : w.heap.size + 2 ≤ g := hgw
    rcases (show i = 0 ∨ i = 1 ∨ i = 2 ∨ i = 3 ∨ i = 4 ∨ i = 5 ∨ i = 6 ∨ i = 7 by omega) with rfl | rfl | rfl | rfl | rfl | rfl | rfl | rfl
    · obtain ⟨s0, s1, s2, g0, g1, g2⟩ := id hs
      refine wpOp_step (by simp only [List.getElem?_toArray, List.getElem?_cons_succ, List.getElem?_cons_zero]; rfl) (fun K hK => ?_)
      go_simp
      exact hK _ _ ⟨v4, _, v15, v16, v17, v18, rfl, hc, hs, hu, hb, (fun _ => rfl), k1, k2, k3, k4, R1, R2, k7, kz⟩
    · obtain ⟨s0, s1, s2, g0, g1, g2⟩ := id hu
      refine wpOp_step (by simp only [List.getElem?_toArray, List.getElem?_cons_succ, List.getElem?_cons_zero]; rfl) (fun K hK => ?_)
      go_simp
      exact hK _ _ ⟨v4, v14, _, v16, v17, v18, rfl, hc, hs, hu, hb, k0, (fun _ => rfl), k2, k3, k4, R1, R2, k7, kz⟩
    · have q := 0
      refine wpOp_step (by simp only [List.getElem?_toArray, List.getElem?_cons_succ, List.getElem?_cons_zero]; rfl) (fun K hK => ?_)
      go_simp
      exact hK _ _ ⟨v4, v14, v15, _, v17, v18, rfl, hc, hs, hu, hb, k0, k1, (fun _ => rfl), k3, k4, R1, R2, k7, kz⟩
    · have hgl2 : g < w'.heap.size := by have := hs.lt; omega
      have hal := (Below.refl w'.heap.size w').alloc (Nat.le_refl _) (.cells #[.int .i64 0, .int .i64 3, .int .i64 5, .int .i64 9, .int .i64 1000000, .int .i64 1000001, .int .i64 (-1)] 3)
      refine wpOp_step (by simp only [List.getElem?_toArray, List.getElem?_cons_succ, List.getElem?_cons_zero]; rfl) (fun K hK => ?_)
      go_simp
      exact hK _ _ ⟨v4, v14, v15, v16, _, v18, rfl, fun h => (hc h).keep hal, hs.keep hal, hu.keep hal, bthen hb hal, k0, k1, k2, (fun _ => ⟨w'.heap.size, rfl, hgl2, fun _ => ⟨_, 0, rfl, by simp, fun i hi => by
        rcases (show i = 0 ∨ i = 1 ∨ i = 2 ∨ i = 3 ∨ i = 4 ∨ i = 5 ∨ i = 6 by omega) with rfl | rfl | rfl | rfl | rfl | rfl | rfl <;> simp [go_sem, intV, hF]⟩⟩), k4, R1.keep hal, R2.keep hal, k7, kz⟩
    · have e2 := k2 (hdep 2 (by kernel_rfl)); subst e2
      obtain ⟨gb, e3, hgb, hv⟩ := k3 (hdep 3 (by kernel_rfl)); subst e3
      refine wpOp_step (by simp only [List.getElem?_toArray, List.getElem?_cons_succ, List.getElem?_cons_zero]; rfl) (fun K hK => ?_)
      go_simp
      refine (l1PickInt_any g _ 7 _ F _ (hc hD) hv (by omega) (by omega) (fun b off e => by injection e with e; injection e with e _ _; omega)).mono ?_
      rintro e w6 ⟨t, ht, rfl, hc6, hch6⟩
      exact hK _ _ ⟨v4, v14, v15, _, _, _, rfl, (fun h => absurd h (by simp)), hs.ch hch6 (by omega), hu.ch hch6 (by omega), hb.trans (hch6.below (fun k hk => by omega) hb.size), k0, k1, (fun _ => rfl), (fun _ => ⟨gb, rfl, hgb, hv.ch1 hch6 (by omega)⟩), (fun _ => ⟨_, rfl⟩), R1.ch hch6 (by omega), R2.ch hch6 (by omega), k7, (fun _ => rfl)⟩
    · have e0 := k0 (hdep 0 (by kernel_rfl)); subst e0
      have d4 := hdep 4 (by kernel_rfl)
      obtain ⟨p, q, r, hB, _⟩ := R1
      obtain ⟨s0, s1, s2, g0, g1, g2⟩ := id hB
      refine wpOp_step (by simp only [List.getElem?_toArray, List.getElem?_cons_succ, List.getElem?_cons_zero]; rfl) (fun K hK => ?_)
      go_simp
      have one := ch3 (w := w') (g := w.heap.size) (u := .int .i64 a) (v := .int .i64 b) (x := .int .i64 d)
      exact hK _ _ ⟨v4, _, v15, v16, v17, v18, rfl, (fun h => by rw [show D 4 = false from h] at d4; cases d4), hs.ch one (by omega), hu.ch one (by omega), (((hb.setCell (Nat.le_refl _) _).setCell (Nat.le_refl _) _).setCell (Nat.le_refl _) _), (fun _ => rfl), k1, k2, (fun h => by obtain ⟨gb, e1, e2, e3⟩ := k3 h; exact ⟨gb, e1, e2, e3.ch1 one (by omega)⟩), k4, RBox.full (hB.s3 a b d), R2.ch one (by omega), k7, (fun _ => d4)⟩
    · have e0 := k1 (hdep 1 (by kernel_rfl)); subst e0
      have d4 : D 4 = true := kz (hdep 5 (by kernel_rfl))
      obtain ⟨p, q, r, hB, _⟩ := R2
      obtain ⟨s0, s1, s2, g0, g1, g2⟩ := id hB
      refine wpOp_step (by simp only [List.getElem?_toArray, List.getElem?_cons_succ, List.getElem?_cons_zero]; rfl) (fun K hK => ?_)
      go_simp
      have one := ch3 (w := w') (g := w.heap.size + 1) (u := .int .i64 x) (v := .int .i64 y) (x := .int .i64 z)
      exact hK _ _ ⟨v4, v14, _, v16, v17, v18, rfl, (fun h => by rw [show D 4 = false from h] at d4; cases d4), hs.ch one (by omega), hu.ch one (by omega), (((hb.setCell (Nat.le_succ _) _).setCell (Nat.le_succ _) _).setCell (Nat.le_succ _) _), k0, (fun _ => rfl), k2, (fun h => by obtain ⟨gb, e1, e2, e3⟩ := k3 h; exact ⟨gb, e1, e2, e3.ch1 one (by omega)⟩), k4, R1.ch one (by omega), RBox.full (hB.s3 x y z), k7, kz⟩
    · obtain ⟨t, e4⟩ := k4 (hdep 4 (by kernel_rfl)); subst e4
      refine wpOp_step (by simp only [List.getElem?_toArray, List.getElem?_cons_succ, List.getElem?_cons_zero]; rfl) (fun K hK => ?_)
      go_simp
      exact hK _ _ ⟨_, v14, v15, v16, v17, _, rfl, hc, hs, hu, hb, k0, k1, k2, k3, (fun _ => ⟨t, rfl⟩), R1, R2, (fun _ => ⟨t, rfl⟩), kz⟩
  · intro D a' w' hD hI
    obtain ⟨v4, v14, v15, v16, v17, v18, rfl, _, hs, hu, hb, k0, k1, k2, k3, k4, ⟨p1, q1, r1, hB1, hF1⟩, ⟨p2, q2, r2, hB2, hF2⟩, k7, kz⟩ := hI
    have e1 := hF1 (hD 5 (by decide))
    have e2 := hF2 (hD 6 (by decide))
    obtain ⟨t, e3⟩ := k7 (hD 7 (by decide))
    injection e1 with e1
    simp at e1
    obtain ⟨rfl, rfl, rfl⟩ := e1
    injection e2 with e2
    simp at e2
    obtain ⟨rfl, rfl, rfl⟩ := e2
    subst e3
    obtain ⟨s0, s1, s2, g0, g1, g2⟩ := hB1
    obtain ⟨u0, u1, u2, h0, h1, h2⟩ := hB2
    clear k0 k1 k2 k3 k4 k7 kz hF1 hF2 hD
    go_wp2
    refine bodyPost_ret (v := .tuple #[.agg #[.int .i64 a, .int .i64 b, .int .i64 d], .agg #[.int .i64 x, .int .i64 y, .int .i64 z], .int .i64 t]) (by simp [results, Try.results12, go_sem, s0, s1, s2, u0, u1, u2]) rfl ⟨_, _, _, _, _, _, _, rfl, hb⟩
end Go.Proofs.Ytbehiocdeefpmaa
