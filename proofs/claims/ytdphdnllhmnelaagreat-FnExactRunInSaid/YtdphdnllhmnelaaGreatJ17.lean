/- Contracts and lemmas: StatePlayS, RunIn, KIntss, WCmd, OpnB, OCmd. -/
import Derived.Test.YtdphdnllhmnelaaGreatJ12
import Derived.Test.YtdphdnllhmnelaaGreatJ16
import Derived.Test.YtdphdnllhmnelaaGreatJ1
import Derived.Test.YtdphdnllhmnelaaGreatJ3
import Derived.Deep.RegionHeld3
import Derived.StillTailTactics
import Derived.BigQuiet
import Derived.Deep.QuietTactic
import Derived.Test.YtdphdnllhmnelaaGreatJ0
/- The reference's StatePlay. -/
namespace Go.Proofs.YtdphdnllhmnelaaGreat
open Go.RowKit
attribute [local go_sem] Grow.cell Grow.frozen
attribute [local irreducible] StrsAt StrR RowR RowO StaOut stPlay stDo StaBd PlayOut
set_option maxRecDepth 8000 in
set_option maxHeartbeats 8000000 in
theorem staPlay_spec (l : List Cm) (A : Option Addr) (n c : Nat) (w : World) (h : RowR cmR 8 w A n c l) (hn : n ≤ 1048576) (hb : ∀ m ∈ l, cmB m) :
    Calls Tryz.prog 34 #[.slice A n c] w (PlayOut (stPlay staNew l) w) := by
  have HL := Lib.hid h.len
  have al1 := (Below.refl w.heap.size w).alloc (Nat.le_refl _) (.cells #[.slice none 0 0, .slice none 0 0] 30)
  have al2 := al1.alloc al1.size (.cells #[.slice none 0 0, .slice none 0 0] 30)
  have al3 := al2.alloc al2.size (.cells #[] 9)
  have hz1 : (w.alloc (.cells #[.slice none 0 0, .slice none 0 0] 30)).heap.size = w.heap.size + 1 := Array.size_push _
  have hz2 : ((w.alloc (.cells #[.slice none 0 0, .slice none 0 0] 30)).alloc (.cells #[.slice none 0 0, .slice none 0 0] 30)).heap.size = w.heap.size + 2 := (Array.size_push _).trans (by rw [hz1])
  have BO := ((BoxL.new w [.slice none 0 0, .slice none 0 0] 30).keep ((Below.refl _ _).alloc (Nat.le_refl _) (.cells #[.slice none 0 0, .slice none 0 0] 30))).keep ((Below.refl _ _).alloc (Nat.le_refl _) (.cells #[] 9))
  have BS := (BoxL.new (w.alloc (.cells #[.slice none 0 0, .slice none 0 0] 30)) [.slice none 0 0, .slice none 0 0] 30).keep ((Below.refl _ _).alloc (Nat.le_refl _) (.cells #[] 9))
  have own0 := own_empty ((w.alloc (.cells #[.slice none 0 0, .slice none 0 0] 30)).alloc (.cells #[.slice none 0 0, .slice none 0 0] 30)) 9 1 (base := 0) (Nat.zero_le _)
  go_enter Tryz.func34, Tryz.ntmps34
  go_wp2_with fail
  obtain ⟨W, hWW⟩ : ∃ W, W = ((w.alloc (.cells #[.slice none 0 0, .slice none 0 0] 30)).alloc (.cells #[.slice none 0 0, .slice none 0 0] 30)).alloc (.cells #[] 9) := ⟨_, rfl⟩
  obtain ⟨g, hg⟩ : ∃ g, w.heap.size = g := ⟨_, rfl⟩
  rw [hz1] at BS
  rw [hz2] at own0
  have HG := Lib.hid hg
  rw [← hWW] at al3 BO BS own0 ⊢
  simp only [hg] at BO BS own0 ⊢
  clear hWW hg al1 al2 hz1 hz2
  have hWg : g + 2 < W.heap.size := by have := (own_lo own0 (g + 2) (by simp [blkL])).2; omega
  go_loopw [5, 6] (fun s i wr => ∃ (k : Nat) (Z : Option Addr) (cz : Nat) (xs : List Value) (B1 : Option Addr) (m1 d1 : Nat) (B2 : Option Addr) (m2 d2 : Nat) (f1 f2 : List Nat), k ≤ n ∧ i = .int .i64 k ∧ s = .slice Z k cz ∧ wr.ownsRow 0 9 1 (.slice Z k cz) k xs ∧ (∀ b ∈ blkL Z, g + 1 < b ∧ b < wr.heap.size ∧ b ∉ f1 ++ f2) ∧
      BoxL wr g [.slice none 0 0, .slice none 0 0] ∧ BoxL wr (g + 1) [.slice B1 m1 d1, .slice B2 m2 d2] ∧ RowO cstF 165 2 f1 wr B1 m1 d1 (stPlay staNew (l.take k)).cat.sets ∧ RowO saiF 114 3 f2 wr B2 m2 d2 (stPlay staNew (l.take k)).said ∧ (f1 ++ f2).Nodup ∧ (∀ b ∈ f1 ++ f2, g + 1 < b) ∧ Below g w wr ∧ W.heap.size ≤ wr.heap.size) (fun _ i _ => n - (intOf i).toNat)
  case atStart => exact ⟨0, _, _, [], none, 0, 0, none, 0, 0, [], [], Nat.zero_le _, rfl, rfl, own0, (fun b hb => by have hb2 : b = g + 2 := (by simpa [blkL] using hb); subst hb2; exact ⟨by omega, hWg, by simp⟩), BO, BS, (by rw [List.take_zero, stPlay]; exact RowO.nil), (by rw [List.take_zero, stPlay]; exact RowO.nil), List.nodup_nil, (fun b hb => by cases hb), (by rw [HG.out] at al3; exact al3), Nat.le_refl _⟩
  case round =>
    clear BO BS own0
    obtain ⟨k, Z, cz, xs, B1, m1, d1, B2, m2, d2, f1, f2, hk, rfl, rfl, own, hZ, BO, BS, R1, R2, hN, hF, hB, hz⟩ := hrel
    have hBw : Below w.heap.size w wr := by rw [HG.out]; exact hB
    have hR := h.keep cmK hBw
    have s0 := BS.cell 0 _ rfl
    have s1 := BS.cell 1 _ rfl
    have lg := BO.lt
    have lg1 := BS.lt
    by_cases hlt : k < n
    · obtain ⟨b, off, rfl⟩ := hR.head (by omega)
      obtain ⟨bl, m, C1, q1, e1, hm, hmc, hcr⟩ := cm_el hR hlt
      have HT := Lib.hid (stPlay_take staNew hm)
      have hmB := hb m (List.mem_of_getElem? hm)
      have r0 : wr.cell? ⟨b, off + k * 8, none⟩ = some (.int .i64 m.kd) := hcr 0 _ rfl
      have r1 : wr.cell? ⟨b, off + k * 8 + 1, none⟩ = some (.int .i64 m.cl) := hcr 1 _ rfl
      have r2 : wr.cell? ⟨b, off + k * 8 + 2, none⟩ = some (.int .i64 m.no) := hcr 2 _ rfl
      have r3 : wr.cell? ⟨b, off + k * 8 + 3, none⟩ = some (.string m.s) := hcr 3 _ rfl
      have r4 : wr.cell? ⟨b, off + k * 8 + 4, none⟩ = some (.string m.nm) := hcr 4 _ rfl
      have r5 : wr.cell? ⟨b, off + k * 8 + 5, none⟩ = some (.string m.tg) := hcr 5 _ rfl
      have r6 : wr.cell? ⟨b, off + k * 8 + 6, none⟩ = some (.int .i64 m.n) := hcr 6 _ rfl
      have r7 : wr.cell? ⟨b, off + k * 8 + 7, none⟩ = some (.slice C1 q1 e1) := hcr 7 _ rfl
      have s1_ := s1
      have RR0 : StaBd (stPlay staNew (l.take k)) := stPlay_bd _ staBd_nil
      have hbd := RR0
      have hki : (k : Int) < (n : Int) := by omega
      clear hm hcr
      go_wp2_with fail
      refine wp_region_dagb [18, 19, 20, 21, 22, 23, 17, 24, 25, 7, 8] (by kernel_rfl) (by kernel_rfl) (fun D vs w' => ∃ v18 v19 v20 v21 v22 v23 v17 v24 v25 v7 v8 : Value, vs = [v18, v19, v20, v21, v22, v23, v17, v24, v25, v7, v8] ∧ Below wr.heap.size wr w' ∧ (D 10 = false → ∃ s1 s2 : List Nat, (∀ b ∈ s1, b ∈ s2 → False) ∧ (∀ b ∈ s1 ++ s2, wr.heap.size ≤ b ∧ b < w'.heap.size) ∧ (D 5 = true → ∃ (E1 : Option Addr) (j1 e1_ : Nat) (E2 : Option Addr) (j2 e2_ : Nat) (h1 h2 : List Nat), s1 = h1 ++ h2 ∧ v23 = .tuple #[.agg #[.slice E1 j1 e1_, .slice E2 j2 e2_], .string (stDo (stPlay staNew (l.take k)) m).2] ∧ RowO cstF 165 2 h1 w' E1 j1 e1_ (stDo (stPlay staNew (l.take k)) m).1.cat.sets ∧ RowO saiF 114 3 h2 w' E2 j2 e2_ (stDo (stPlay staNew (l.take k)) m).1.said ∧ (h1 ++ h2).Nodup ∧ (D 6 = true → v17 = .tuple #[.agg #[.slice E1 j1 e1_, .slice E2 j2 e2_], .string (stDo (stPlay staNew (l.take k)) m).2]) ∧ (D 7 = true → v24 = .agg #[.slice E1 j1 e1_, .slice E2 j2 e2_])) ∧ (D 9 = true → ∃ ga : Nat, v7 = .pointer (some ⟨ga, 0, none⟩) ∧ BoxL w' ga [.slice none 0 0, .slice none 0 0] ∧ s2 = [ga])) ∧ (D 0 = true → v18 = .agg #[.slice B1 m1 d1, .slice B2 m2 d2]) ∧ (D 1 = true → v19 = .slice (some ⟨b, off, none⟩) n c) ∧ (D 2 = true → v20 = .int .i64 (k : Int)) ∧ (D 3 = true → v21 = .pointer (some ⟨b, off + k * 8, none⟩)) ∧ (D 4 = true → v22 = .agg #[.int .i64 m.kd, .int .i64 m.cl, .int .i64 m.no, .string m.s, .string m.nm, .string m.tg, .int .i64 m.n, .slice C1 q1 e1]) ∧ (D 5 = true → True) ∧ (D 6 = true → ∃ (E1 : Option Addr) (j1 e1_ : Nat) (E2 : Option Addr) (j2 e2_ : Nat), v17 = .tuple #[.agg #[.slice E1 j1 e1_, .slice E2 j2 e2_], .string (stDo (stPlay staNew (l.take k)) m).2]) ∧ (D 7 = true → True) ∧ (D 8 = true → v25 = .string (stDo (stPlay staNew (l.take k)) m).2) ∧ (D 9 = true → True) ∧ (D 10 = true → ∃ (E1 : Option Addr) (j1 e1_ : Nat) (E2 : Option Addr) (j2 e2_ : Nat) (h1 h2 : List Nat) (ga : Nat), v7 = .pointer (some ⟨ga, 0, none⟩) ∧ BoxL w' ga [.slice E1 j1 e1_, .slice E2 j2 e2_] ∧ RowO cstF 165 2 h1 w' E1 j1 e1_ (stDo (stPlay staNew (l.take k)) m).1.cat.sets ∧ RowO saiF 114 3 h2 w' E2 j2 e2_ (stDo (stPlay staNew (l.take k)) m).1.said ∧ (h1 ++ h2).Nodup ∧ (∀ b ∈ h1 ++ h2, wr.heap.size ≤ b) ∧ wr.heap.size ≤ ga) ∧ (D 11 = true → v8 = .string (stDo (stPlay staNew (l.take k)) m).2))
        ⟨_, _, _, _, _, _, _, _, _, _, _, rfl, (Below.refl _ _).drew, (fun _ => ⟨[], [], (fun _ h => by cases h), (fun _ h => by cases h), (fun h => by cases h), (fun h => by cases h)⟩), (fun h => by cases h), (fun h => by cases h), (fun h => by cases h), (fun h => by cases h), (fun h => by cases h), (fun h => by cases h), (fun h => by cases h), (fun h => by cases h), (fun h => by cases h), (fun h => by cases h), (fun h => by cases h), (fun h => by cases h)⟩ ?_ ?_
      · intro i D vs w' hi hD hdep hcl hI
        have hi' : i < 12 := hi
        obtain ⟨v18, v19, v20, v21, v22, v23, v17, v24, v25, v7, v8, rfl, hb, hJ, k0, k1, k2, k3, k4, k5, k6, k7, k8, k9, k10, k11⟩ := hI
        simp only [putAll, List.setIfInBounds_toArray, List.set_cons_succ, List.set_cons_zero]
        rcases (show i = 0 ∨ i = 1 ∨ i = 2 ∨ i = 3 ∨ i = 4 ∨ i = 5 ∨ i = 6 ∨ i = 7 ∨ i = 8 ∨ i = 9 ∨ i = 10 ∨ i = 11 by omega) with rfl | rfl | rfl | rfl | rfl | rfl | rfl | rfl | rfl | rfl | rfl | rfl
        · have q7 := keep_cell hb s0
          have q8 := keep_cell hb s1_
          refine wpOp_step (by simp only [List.getElem?_toArray, List.getElem?_cons_zero]; rfl) (fun K hK => ?_)
          go_simp
          refine hK _ _ ⟨[.agg #[.slice B1 m1 d1, .slice B2 m2 d2], v19, v20, v21, v22, v23, v17, v24, v25, v7, v8], ?_, _, _, _, _, _, _, _, _, _, _, _, rfl, hb, hJ, (fun _ => rfl), k1, k2, k3, k4, k5, k6, k7, k8, k9, k10, k11⟩
          simp only [putAll, List.setIfInBounds_toArray, List.set_cons_succ, List.set_cons_zero] <;> rfl
        · refine wpOp_step (by simp only [List.getElem?_toArray, List.getElem?_cons_succ, List.getElem?_cons_zero]; rfl) (fun K hK => ?_)
          go_simp
          refine hK _ _ ⟨[v18, .slice (some ⟨b, off, none⟩) n c, v20, v21, v22, v23, v17, v24, v25, v7, v8], ?_, _, _, _, _, _, _, _, _, _, _, _, rfl, hb, hJ, k0, (fun _ => rfl), k2, k3, k4, k5, k6, k7, k8, k9, k10, k11⟩
          simp only [putAll, List.setIfInBounds_toArray, List.set_cons_succ, List.set_cons_zero] <;> rfl
        · refine wpOp_step (by simp only [List.getElem?_toArray, List.getElem?_cons_succ, List.getElem?_cons_zero]; rfl) (fun K hK => ?_)
          go_simp
          refine hK _ _ ⟨[v18, v19, .int .i64 (k : Int), v21, v22, v23, v17, v24, v25, v7, v8], ?_, _, _, _, _, _, _, _, _, _, _, _, rfl, hb, hJ, k0, k1, (fun _ => rfl), k3, k4, k5, k6, k7, k8, k9, k10, k11⟩
          simp only [putAll, List.setIfInBounds_toArray, List.set_cons_succ, List.set_cons_zero] <;> rfl
        · have e1 := k1 (hdep 1 (by kernel_rfl))
          subst e1
          have e2 := k2 (hdep 2 (by kernel_rfl))
          subst e2
          refine wpOp_step (by simp only [List.getElem?_toArray, List.getElem?_cons_succ, List.getElem?_cons_zero]; rfl) (fun K hK => ?_)
          go_simp
          refine hK _ _ ⟨[v18, .slice (some ⟨b, off, none⟩) n c, .int .i64 (k : Int), .pointer (some ⟨b, off + k * 8, none⟩), v22, v23, v17, v24, v25, v7, v8], ?_, _, _, _, _, _, _, _, _, _, _, _, rfl, hb, hJ, k0, (fun _ => rfl), (fun _ => rfl), (fun _ => rfl), k4, k5, k6, k7, k8, k9, k10, k11⟩
          simp only [putAll, List.setIfInBounds_toArray, List.set_cons_succ, List.set_cons_zero] <;> rfl
        · have e3 := k3 (hdep 3 (by kernel_rfl))
          subst e3
          have z0 := keep_cell hb r0
          have z1 := keep_cell hb r1
          have z2 := keep_cell hb r2
          have z3 := keep_cell hb r3
          have z4 := keep_cell hb r4
          have z5 := keep_cell hb r5
          have z6 := keep_cell hb r6
          have z7 := keep_cell hb r7
          refine wpOp_step (by simp only [List.getElem?_toArray, List.getElem?_cons_succ, List.getElem?_cons_zero]; rfl) (fun K hK => ?_)
          go_simp
          refine hK _ _ ⟨[v18, v19, v20, .pointer (some ⟨b, off + k * 8, none⟩), .agg #[.int .i64 m.kd, .int .i64 m.cl, .int .i64 m.no, .string m.s, .string m.nm, .string m.tg, .int .i64 m.n, .slice C1 q1 e1], v23, v17, v24, v25, v7, v8], ?_, _, _, _, _, _, _, _, _, _, _, _, rfl, hb, hJ, k0, k1, k2, (fun _ => rfl), (fun _ => rfl), k5, k6, k7, k8, k9, k10, k11⟩
          simp only [putAll, List.setIfInBounds_toArray, List.set_cons_succ, List.set_cons_zero] <;> rfl
        · have e0 := k0 (hdep 0 (by kernel_rfl))
          subst e0
          have e4 := k4 (hdep 4 (by kernel_rfl))
          subst e4
          have n6 : D 6 = false := Bool.eq_false_iff.2 (fun h => absurd (hcl 6 5 h (by kernel_rfl)) (by rw [hD]; simp))
          have n7 : D 7 = false := Bool.eq_false_iff.2 (fun h => absurd (hcl 6 5 (hcl 7 6 h (by kernel_rfl)) (by kernel_rfl)) (by rw [hD]; simp))
          have n10 : D 10 = false := Bool.eq_false_iff.2 (fun h => absurd (hcl 6 5 (hcl 7 6 (hcl 10 7 h (by kernel_rfl)) (by kernel_rfl)) (by kernel_rfl)) (by rw [hD]; simp))
          obtain ⟨s1, s2, hdj, hlt2, hc, ha⟩ := hJ n10
          have RR := staO_read (R1.keep cstK hb) (R2.keep saiK hb)
          have hdo := staDo_spec (stPlay staNew (l.take k)) m B1 m1 d1 B2 m2 d2 C1 q1 e1 w' RR.1 RR.2 hbd (hmc.keep hb) hmB
          unfold staV cmV at hdo
          refine wpOp_step (by simp only [List.getElem?_toArray, List.getElem?_cons_succ, List.getElem?_cons_zero]; rfl) (fun K hK => ?_)
          go_simp
          refine hdo.mono ?_
          intro e w5_ hout
          obtain ⟨E1, j1, e1_, E2, j2, e2_, h1, h2, rfl, RA, RB, NA, FA, hb5⟩ := hout.out
          have hz5 := hb5.size
          have hzb := hb.size
          have la1 := RA.lt cstK
          have la2 := RB.lt saiK
          have hl5 : ∀ b ∈ h1 ++ h2, w'.heap.size ≤ b ∧ b < w5_.heap.size := fun b hb' => ⟨FA b hb', by rcases List.mem_append.1 hb' with h | h; (exact la1 b h); (exact la2 b h)⟩
          unfold staV
          refine hK _ _ ⟨[.agg #[.slice B1 m1 d1, .slice B2 m2 d2], v19, v20, v21, .agg #[.int .i64 m.kd, .int .i64 m.cl, .int .i64 m.no, .string m.s, .string m.nm, .string m.tg, .int .i64 m.n, .slice C1 q1 e1], .tuple #[.agg #[.slice E1 j1 e1_, .slice E2 j2 e2_], .string (stDo (stPlay staNew (l.take k)) m).2], v17, v24, v25, v7, v8], ?_, _, _, _, _, _, _, _, _, _, _, _, rfl, (bthen hb hb5), (fun _ => ⟨h1 ++ h2, s2, (fun b a1 a2 => by have h3 := hl5 b a1; have h4 := hlt2 b (List.mem_append_right _ a2); omega), (fun b hb' => by rcases List.mem_append.1 hb' with h | h; (have h3 := hl5 b h; exact ⟨by omega, h3.2⟩); (have h3 := hlt2 b (List.mem_append_right _ h); exact ⟨h3.1, by omega⟩)), (fun _ => ⟨E1, j1, e1_, E2, j2, e2_, h1, h2, rfl, rfl, RA, RB, NA, (fun h => by rw [show D 6 = true from by simpa using h] at n6; cases n6), (fun h => by rw [show D 7 = true from by simpa using h] at n7; cases n7)⟩), (fun a1 => by obtain ⟨ga, e1, X, e2⟩ := ha a1; exact ⟨ga, e1, X.keep hb5, e2⟩)⟩), (fun _ => rfl), k1, k2, k3, (fun _ => rfl), (fun _ => trivial), (fun h => by rw [show D 6 = true from by simpa using h] at n6; cases n6), k7, k8, k9, (fun h => by rw [show D 10 = true from by simpa using h] at n10; cases n10), k11⟩
          simp only [putAll, List.setIfInBounds_toArray, List.set_cons_succ, List.set_cons_zero] <;> rfl
        · obtain - := k5 (hdep 5 (by kernel_rfl))
          have n10 : D 10 = false := Bool.eq_false_iff.2 (fun h => absurd (hcl 7 6 (hcl 10 7 h (by kernel_rfl)) (by kernel_rfl)) (by rw [hD]; simp))
          obtain ⟨s1, s2, hdj, hlt2, hc, ha⟩ := hJ n10
          obtain ⟨E1, j1, e1_, E2, j2, e2_, h1, h2, es, rfl, RA, RB, NA, h6, h7⟩ := hc (hdep 5 (by kernel_rfl))
          refine wpOp_step (by simp only [List.getElem?_toArray, List.getElem?_cons_succ, List.getElem?_cons_zero]; rfl) (fun K hK => ?_)
          go_simp
          refine hK _ _ ⟨[v18, v19, v20, v21, v22, .tuple #[.agg #[.slice E1 j1 e1_, .slice E2 j2 e2_], .string (stDo (stPlay staNew (l.take k)) m).2], .tuple #[.agg #[.slice E1 j1 e1_, .slice E2 j2 e2_], .string (stDo (stPlay staNew (l.take k)) m).2], v24, v25, v7, v8], ?_, _, _, _, _, _, _, _, _, _, _, _, rfl, hb, (fun _ => ⟨s1, s2, hdj, hlt2, (fun _ => ⟨E1, j1, e1_, E2, j2, e2_, h1, h2, es, rfl, RA, RB, NA, (fun _ => rfl), h7⟩), ha⟩), k0, k1, k2, k3, k4, (fun _ => trivial), (fun _ => ⟨E1, j1, e1_, E2, j2, e2_, rfl⟩), k7, k8, k9, k10, k11⟩
          simp only [putAll, List.setIfInBounds_toArray, List.set_cons_succ, List.set_cons_zero] <;> rfl
        · have n10 : D 10 = false := Bool.eq_false_iff.2 (fun h => absurd (hcl 10 7 h (by kernel_rfl)) (by rw [hD]; simp))
          obtain ⟨s1, s2, hdj, hlt2, hc, ha⟩ := hJ n10
          have d6 : D 6 = true := hdep 6 (by kernel_rfl)
          have d5 : D 5 = true := hcl 6 5 d6 (by kernel_rfl)
          obtain ⟨E1, j1, e1_, E2, j2, e2_, h1, h2, es, rfl, RA, RB, NA, h6, h7⟩ := hc d5
          obtain rfl := h6 d6
          refine wpOp_step (by simp only [List.getElem?_toArray, List.getElem?_cons_succ, List.getElem?_cons_zero]; rfl) (fun K hK => ?_)
          go_simp
          refine hK _ _ ⟨[v18, v19, v20, v21, v22, .tuple #[.agg #[.slice E1 j1 e1_, .slice E2 j2 e2_], .string (stDo (stPlay staNew (l.take k)) m).2], .tuple #[.agg #[.slice E1 j1 e1_, .slice E2 j2 e2_], .string (stDo (stPlay staNew (l.take k)) m).2], .agg #[.slice E1 j1 e1_, .slice E2 j2 e2_], v25, v7, v8], ?_, _, _, _, _, _, _, _, _, _, _, _, rfl, hb, (fun _ => ⟨s1, s2, hdj, hlt2, (fun _ => ⟨E1, j1, e1_, E2, j2, e2_, h1, h2, es, rfl, RA, RB, NA, (fun _ => rfl), (fun _ => rfl)⟩), ha⟩), k0, k1, k2, k3, k4, k5, (fun _ => ⟨E1, j1, e1_, E2, j2, e2_, rfl⟩), (fun _ => trivial), k8, k9, k10, k11⟩
          simp only [putAll, List.setIfInBounds_toArray, List.set_cons_succ, List.set_cons_zero] <;> rfl
        · obtain ⟨E1, j1, e1_, E2, j2, e2_, rfl⟩ := k6 (hdep 6 (by kernel_rfl))
          refine wpOp_step (by simp only [List.getElem?_toArray, List.getElem?_cons_succ, List.getElem?_cons_zero]; rfl) (fun K hK => ?_)
          go_simp
          refine hK _ _ ⟨[v18, v19, v20, v21, v22, v23, .tuple #[.agg #[.slice E1 j1 e1_, .slice E2 j2 e2_], .string (stDo (stPlay staNew (l.take k)) m).2], v24, .string (stDo (stPlay staNew (l.take k)) m).2, v7, v8], ?_, _, _, _, _, _, _, _, _, _, _, _, rfl, hb, hJ, k0, k1, k2, k3, k4, k5, (fun _ => ⟨E1, j1, e1_, E2, j2, e2_, rfl⟩), k7, (fun _ => rfl), k9, k10, k11⟩
          simp only [putAll, List.setIfInBounds_toArray, List.set_cons_succ, List.set_cons_zero] <;> rfl
        · have n10 : D 10 = false := Bool.eq_false_iff.2 (fun h => absurd (hcl 10 9 h (by kernel_rfl)) (by rw [hD]; simp))
          obtain ⟨s1, s2, hdj, hlt2, hc, ha⟩ := hJ n10
          have hal := (Below.refl w'.heap.size w').alloc (Nat.le_refl _) (.cells #[.slice none 0 0, .slice none 0 0] 30)
          have hzl : (w'.alloc (.cells #[.slice none 0 0, .slice none 0 0] 30)).heap.size = w'.heap.size + 1 := Array.size_push _
          have hzb := hb.size
          refine wpOp_step (by simp only [List.getElem?_toArray, List.getElem?_cons_succ, List.getElem?_cons_zero]; rfl) (fun K hK => ?_)
          go_simp
          refine hK _ _ ⟨[v18, v19, v20, v21, v22, v23, v17, v24, v25, .pointer (some ⟨w'.heap.size, 0, none⟩), v8], ?_, _, _, _, _, _, _, _, _, _, _, _, rfl, (bthen hb hal), (fun _ => ⟨s1, [w'.heap.size], (fun b a1 a2 => by have h3 := hlt2 b (List.mem_append_left _ a1); have h4 := List.mem_singleton.1 a2; omega), (fun b hb' => by rcases List.mem_append.1 hb' with h | h; (have h3 := hlt2 b (List.mem_append_left _ h); exact ⟨h3.1, by omega⟩); (have h4 := List.mem_singleton.1 h; exact ⟨by omega, by omega⟩)), (fun a1 => by obtain ⟨E1, j1, e1_, E2, j2, e2_, h1, h2, es, e1, RA, RB, NA, h6, h7⟩ := hc a1; exact ⟨E1, j1, e1_, E2, j2, e2_, h1, h2, es, e1, RA.keep cstK hal, RB.keep saiK hal, NA, h6, h7⟩), (fun _ => ⟨w'.heap.size, rfl, BoxL.new w' [.slice none 0 0, .slice none 0 0] 30, rfl⟩)⟩), k0, k1, k2, k3, k4, k5, k6, k7, k8, (fun _ => trivial), (fun h => by rw [show D 10 = true from by simpa using h] at n10; cases n10), k11⟩
          simp only [putAll, List.setIfInBounds_toArray, List.set_cons_succ, List.set_cons_zero] <;> rfl
        · obtain ⟨s1, s2, hdj, hlt2, hc, ha⟩ := hJ hD
          have d7 : D 7 = true := hdep 7 (by kernel_rfl)
          have d9 : D 9 = true := hdep 9 (by kernel_rfl)
          have d6 : D 6 = true := hcl 7 6 d7 (by kernel_rfl)
          have d5 : D 5 = true := hcl 6 5 d6 (by kernel_rfl)
          obtain ⟨E1, j1, e1_, E2, j2, e2_, h1, h2, rfl, rfl, RA, RB, NA, h6, h7⟩ := hc d5
          obtain rfl := h6 d6
          obtain rfl := h7 d7
          obtain ⟨ga, rfl, X, rfl⟩ := ha d9
          have hga := hlt2 ga (by simp)
          have hne : ∀ b ∈ h1 ++ h2, ¬ b = ga := fun b hb' e => hdj b hb' (by rw [e]; simp)
          have o7 := X.cell 0 _ rfl
          have o8 := X.cell 1 _ rfl
          have y7 := X.fz 0 (by simp)
          have y8 := X.fz 1 (by simp)
          have X2 := X.setCells (vs := [.slice E1 j1 e1_, .slice E2 j2 e2_]) rfl
          have one := ch_setCells (g := ga) [.slice E1 j1 e1_, .slice E2 j2 e2_] 0 w'
          refine wpOp_step (by simp only [List.getElem?_toArray, List.getElem?_cons_succ, List.getElem?_cons_zero]; rfl) (fun K hK => ?_)
          go_simp
          refine hK _ _ ⟨[v18, v19, v20, v21, v22, .tuple #[.agg #[.slice E1 j1 e1_, .slice E2 j2 e2_], .string (stDo (stPlay staNew (l.take k)) m).2], .tuple #[.agg #[.slice E1 j1 e1_, .slice E2 j2 e2_], .string (stDo (stPlay staNew (l.take k)) m).2], .agg #[.slice E1 j1 e1_, .slice E2 j2 e2_], v25, .pointer (some ⟨ga, 0, none⟩), v8], ?_, _, _, _, _, _, _, _, _, _, _, _, rfl, (one.belowB hb hb.size (fun b hb' => by have hb' : b = ga := hb'; omega)), (fun h => absurd h (by simp)), k0, k1, k2, k3, k4, k5, (fun _ => ⟨E1, j1, e1_, E2, j2, e2_, rfl⟩), k7, k8, k9, (fun _ => ⟨E1, j1, e1_, E2, j2, e2_, h1, h2, ga, rfl, X2, RA.ch cstK one (fun b hb' => hne b (List.mem_append_left _ hb')), RB.ch saiK one (fun b hb' => hne b (List.mem_append_right _ hb')), NA, (fun b hb' => (hlt2 b (List.mem_append_left _ hb')).1), hga.1⟩), k11⟩
          simp only [putAll, List.setIfInBounds_toArray, List.set_cons_succ, List.set_cons_zero] <;> rfl
        · have e8 := k8 (hdep 8 (by kernel_rfl))
          subst e8
          refine wpOp_step (by simp only [List.getElem?_toArray, List.getElem?_cons_succ, List.getElem?_cons_zero]; rfl) (fun K hK => ?_)
          go_simp
          refine hK _ _ ⟨[v18, v19, v20, v21, v22, v23, v17, v24, .string (stDo (stPlay staNew (l.take k)) m).2, v7, .string (stDo (stPlay staNew (l.take k)) m).2], ?_, _, _, _, _, _, _, _, _, _, _, _, rfl, hb, hJ, k0, k1, k2, k3, k4, k5, k6, k7, (fun _ => rfl), k9, k10, (fun _ => rfl)⟩
          simp only [putAll, List.setIfInBounds_toArray, List.set_cons_succ, List.set_cons_zero] <;> rfl
      · intro D vs w' hD hI
        obtain ⟨v18, v19, v20, v21, v22, v23, v17, v24, v25, v7, v8, rfl, hb, hJ, k0, k1, k2, k3, k4, k5, k6, k7, k8, k9, k10, k11⟩ := hI
        simp only [putAll, List.setIfInBounds_toArray, List.set_cons_succ, List.set_cons_zero]
        have h8 := k11 (hD 11 (show 11 < 12 by decide))
        subst h8
        obtain ⟨E1, j1, k1, E2, j2, k2, h1', h2', ga, rfl, XG, R1', R2', N', F', hga⟩ := k10 (hD 10 (show 10 < 12 by decide))
        obtain ⟨w5, hw5⟩ := Below.nam hb; subst hw5
        have hb6 := hb
        have hz5 := hb6.size
        clear r0 r1 r2 r3 r4 r5 r6 r7 s0 s1 s1_ hJ
        have BO5 := BO.keep hb6; have BS5 := BS.keep hb6
        have own5 := own_chL own (Ch.of_below (S := fun _ => False) hb6) (fun _ _ h => h)
        have hB5 : Below g w w5 := hB.trans (hb6.mono (show g ≤ wr.heap.size by omega))
        have hZ5 : ∀ b ∈ blkL Z, g + 1 < b ∧ b < w5.heap.size ∧ b ∉ h1' ++ h2' := fun b hb => by have h5 := hZ b hb; exact ⟨h5.1, by omega, fun h6 => by have h7 := F' b h6; omega⟩
        have FF : ∀ b ∈ h1' ++ h2', g + 1 < b := fun b hb => by have h5 := F' b hb; omega
        clear own hZ BO BS R1 R2 hN hF hB hR hb hb6 F' hmc
        have cs := ch_setCells (g := g + 1) [.slice E1 j1 k1, .slice E2 j2 k2] 0 w5
        have hne : ∀ b ∈ h1' ++ h2', ¬ b = g + 1 := fun b hb => by have h5 := FF b hb; omega
        have BO6 := BO5.ch cs (by omega)
        have BS6 := BS5.setCells (vs := [.slice E1 j1 k1, .slice E2 j2 k2]) rfl
        have R16 := R1'.ch cstK cs (fun b hb => hne b (List.mem_append_left _ hb))
        have R26 := R2'.ch saiK cs (fun b hb => hne b (List.mem_append_right _ hb))
        have own6 : ((w5.setCell ⟨g + 1, 0, none⟩ (.slice E1 j1 k1)).setCell ⟨g + 1, 1, none⟩ (.slice E2 j2 k2)).ownsRow 0 9 1 (.slice Z k cz) k xs :=
          own_chL own5 cs (fun b hb e => by have h5 := hZ5 b hb; have e : b = g + 1 := e; omega)
        have hB6 : Below g w _ := cs.belowB hB5 (by omega) (fun b hb => by have hb : b = g + 1 := hb; omega)
        have hzs := cs.size
        have s0 := BS5.cell 0 _ rfl
        have s1 := BS5.cell 1 _ rfl
        have sf := BS5.fz 0 (by simp)
        have sg := BS5.fz 1 (by simp)
        have g0 := XG.cell 0 _ rfl
        have g1 := XG.cell 1 _ rfl
        have gl := XG.lt
        have lg := BS5.lt
        clear bl
        go_wp2_with (first | (at_builtin; refine wpList_app1g (P := Tryz.prog) _ rfl (.tmp 27) (.tmp 29) 46 rfl 0 9 _ 1 16 Tryz.underlying46 txtInfo rfl (by omega) (.slice Z k cz) _ _ rfl own6 _ _ rfl (by simp) rfl (by simp [Value.oneCell']) (by unfold maxLen; omega) (by omega) (Nat.zero_le _) ?_; intro Z' cz' w7 own7 hg7 hb7 hob7; refine stop_of ?_) | fail)
        unfold Stop
        have C7 : Ch (fun b => b ∈ blkL Z) _ w7 := (Ch.of_grow hg7).mono (fun b hb => mem_blkL.2 (blk_of hb))
        have hz7 := C7.size
        have BO7 := BO6.ch C7 (fun h6 => by have h5 := hZ5 _ h6; omega)
        have BS7 := BS6.ch C7 (fun h6 => by have h5 := hZ5 _ h6; omega)
        have R17 := R16.ch cstK C7 (fun b hb h6 => (hZ5 b h6).2.2 (List.mem_append_left _ hb))
        have R27 := R26.ch saiK C7 (fun b hb h6 => (hZ5 b h6).2.2 (List.mem_append_right _ hb))
        have hza' : w5.heap.size ≤ ((w5.setCell ⟨g + 1, 0, none⟩ (.slice E1 j1 k1)).setCell ⟨g + 1, 1, none⟩ (.slice E2 j2 k2)).heap.size := hzs
        have hbk := blk_or hob7
        have hB7 : Below g w w7 := C7.belowB hB6 (by omega) (fun b hb => by have h5 := hZ5 b hb; omega)
        have hl1 := R1'.lt cstK
        have hl2 := R2'.lt saiK
        have hZ7 : ∀ b ∈ blkL Z', g + 1 < b ∧ b < w7.heap.size ∧ b ∉ h1' ++ h2' := fun b hb => by
          have h6 := (own_lo own7 b hb).2
          rcases hbk b hb with h7 | h7
          · have h5 := hZ5 b h7; exact ⟨h5.1, h6, h5.2.2⟩
          · refine ⟨by omega, h6, fun h8 => ?_⟩
            rcases List.mem_append.1 h8 with h9 | h9
            · have := hl1 b h9; omega
            · have := hl2 b h9; omega
        rw [← HT.out] at R17 R27
        clear s0 s1 sf sg g0 g1 gl lg lg1 own5 own6 BO5 BS5 BO6 BS6 R16 R26 R1' R2' C7 hg7 hb7 hob7 hbk hl1 hl2
        go_wp2
        exact ⟨⟨k + 1, Z', cz', _, E1, j1, k1, E2, j2, k2, h1', h2', by omega, by go_num, rfl, own7, hZ7, BO7, BS7, R17, R27, N', FF, hB7, by omega⟩, by simp [intOf]; omega⟩
    · have hkn : k = n := by omega
      subst hkn
      have e1 : l.take k = l := by rw [List.take_of_length_le (by have := HL.out; omega)]
      rw [e1] at R1 R2
      have o0 := BO.cell 0 _ rfl
      have o1 := BO.cell 1 _ rfl
      have of := BO.fz 0 (by simp)
      have og := BO.fz 1 (by simp)
      have hWr := (BO.setCells (vs := [.slice B1 m1 d1, .slice B2 m2 d2]) rfl).range
      go_wp2
      refine bodyPost_ret (results_cell_tmp Tryz.results34 rfl hWr Tryz.underlying30 rfl sizeState0) rfl ?_
      exact play_out (g := g) (p := g) R1 R2 hN (fun b hb => by have h5 := hF b hb; omega) hB HG.out (Nat.le_refl _) lg
end Go.Proofs.YtdphdnllhmnelaaGreat
/- RunIn: both sides. -/
namespace Go.Proofs.YtdphdnllhmnelaaGreat
open Go.RowKit
attribute [local go_sem] Grow.cell Grow.frozen
/-- what a run leaves -/
def RunOut (s : Sta) (w : World) (e : Ending) (w' : World) : Prop :=
  ∃ B1 m1 d1 B2 m2 d2 f1 f2, e = .returned (staV s (.slice B1 m1 d1) (.slice B2 m2 d2)) ∧ RowO cstF 165 2 f1 w' B1 m1 d1 s.cat.sets ∧ RowO saiF 114 3 f2 w' B2 m2 d2 s.said ∧ (f1 ++ f2).Nodup ∧ (∀ b ∈ f1 ++ f2, w.heap.size ≤ b) ∧ Below w.heap.size w w'
theorem PlayOut.out {s : Sta} {w w' : World} {e : Ending} (h : PlayOut s w e w') : ∃ B1 m1 d1 B2 m2 d2 f1 f2 Z, e = .returned (.tuple #[staV s (.slice B1 m1 d1) (.slice B2 m2 d2), Z]) ∧ RowO cstF 165 2 f1 w' B1 m1 d1 s.cat.sets ∧ RowO saiF 114 3 f2 w' B2 m2 d2 s.said ∧ (f1 ++ f2).Nodup ∧ (∀ b ∈ f1 ++ f2, w.heap.size ≤ b) ∧ Below w.heap.size w w' := h
theorem run_out {s : Sta} {w w5 w6 : World} {B1 B2 : Option Addr} {m1 d1 m2 d2 g : Nat} {f1 f2 : List Nat} (R1 : RowO cstF 165 2 f1 w5 B1 m1 d1 s.cat.sets) (R2 : RowO saiF 114 3 f2 w5 B2 m2 d2 s.said) (hN : (f1 ++ f2).Nodup)
    (hF : ∀ b ∈ f1 ++ f2, g < b) (hb : Below g w w5) (hg : w.heap.size = g) (hg5 : g < w5.heap.size) (ha : Below (w5.setCells g 0 [.slice B1 m1 d1, .slice B2 m2 d2]).heap.size (w5.setCells g 0 [.slice B1 m1 d1, .slice B2 m2 d2]) w6) : RunOut s w (.returned (.agg #[.slice B1 m1 d1, .slice B2 m2 d2])) w6 := by
  have hch := ch_setCells (g := g) [.slice B1 m1 d1, .slice B2 m2 d2] 0 w5
  have hz := hch.size
  subst hg
  have hne : ∀ b ∈ f1 ++ f2, ¬ b = w.heap.size := fun b hb => by have := hF b hb; omega
  exact ⟨B1, m1, d1, B2, m2, d2, f1, f2, rfl, (R1.ch cstK hch (fun b hb => hne b (List.mem_append_left _ hb))).keep cstK ha, (R2.ch saiK hch (fun b hb => hne b (List.mem_append_right _ hb))).keep saiK ha, hN, fun b hb => by have := hF b hb; omega,
    (hch.belowB hb hb.size (fun k hk => by have hk : k = w.heap.size := hk; omega)).trans (ha.mono (by omega))⟩
theorem pick_drop (l : List Cm) {o : List Int} {k : Nat} (hk : k < o.length) : pickL l (o.drop k) = if 0 ≤ iAt o k ∧ iAt o k < (l.length : Int) then cmAt l (iAt o k).toNat :: pickL l (o.drop (k + 1)) else pickL l (o.drop (k + 1)) := by
  rw [List.drop_eq_getElem_cons hk, pickL, show iAt o k = o[k] by simp [iAt, hk]]
theorem pick_mem {l : List Cm} : ∀ {o : List Int}, ∀ m ∈ pickL l o, m ∈ l
  | [], m, h => by cases h
  | i :: o, m, h => by
    unfold pickL at h
    split at h
    · rename_i hi
      rcases List.mem_cons.1 h with rfl | h
      · have hj : i.toNat < l.length := by omega
        rw [show cmAt l i.toNat = l[i.toNat] by simp [cmAt, hj]]
        exact List.getElem_mem hj
      · exact pick_mem m h
    · exact pick_mem m h
theorem cm_els {css : List (List Value)} {l : List Cm} {m : Cm} {w : World} {A : Option Addr} {n c : Nat} (h : ElsR cmR w css l) (hs : StrR w A n c m.ch) : ElsR cmR w (css ++ [[.int .i64 m.kd, .int .i64 m.cl, .int .i64 m.no, .string m.s, .string m.nm, .string m.tg, .int .i64 m.n, .slice A n c]]) (l ++ [m]) := h.snoc ⟨A, n, c, rfl, hs⟩
theorem results_one {P : Program} {fn : Func} {c : Tmp} {ty : TypeId} (h : fn.results = #[.cell c ty]) {tmps : Array Value} {w : World} {b : Nat} {cs : List Value} {d : TypeDesc} (hp : tmps.getD c undef = .pointer (some ⟨b, 0, none⟩))
    (hc : w.rangeAt b 0 cs) (hu : P.underlying ty = some d) (hd : d.isRow = true) (hi : (P.info? ty).map (·.size) = some cs.length) : (results fn tmps).run P w = .ok (.agg cs.toArray) w := results_cell1 h hp hc hu hd hi
attribute [local irreducible] StrsAt StrR RowR RowO stPlay PlayOut RunOut pickL runL ElsR
set_option maxRecDepth 8000 in
set_option maxHeartbeats 8000000 in
theorem runIn_impl (l : List Cm) (or_ : List Int) (A : Option Addr) (n c : Nat) (A2 : Option Addr) (n2 c2 : Nat) (w : World) (h : RowR cmR 8 w A n c l) (h2 : IntsAt w A2 n2 or_) (hn : n ≤ 1048576) (hn2 : n2 ≤ 1048576) (hb : ∀ m ∈ l, cmB m) :
    Calls Tryz.prog 9 #[.slice A n c, .slice A2 n2 c2] w (RunOut (runL l or_) w) := by
  have HL := Lib.hid h.len
  have HL2 := Lib.hid h2.1
  have al1 := (Below.refl w.heap.size w).alloc (Nat.le_refl _) (.cells #[.slice none 0 0, .slice none 0 0] 30)
  have al2 := al1.alloc al1.size (.cells #[] 48)
  have hz1 : (w.alloc (.cells #[.slice none 0 0, .slice none 0 0] 30)).heap.size = w.heap.size + 1 := Array.size_push _
  have BO := (BoxL.new w [.slice none 0 0, .slice none 0 0] 30).keep ((Below.refl _ _).alloc (Nat.le_refl _) (.cells #[] 48))
  have own0 := own_empty (w.alloc (.cells #[.slice none 0 0, .slice none 0 0] 30)) 48 8 (base := 0) (Nat.zero_le _)
  go_enter Tryz.func9, Tryz.ntmps9
  go_wp2_with fail
  obtain ⟨W, hWW⟩ : ∃ W, W = (w.alloc (.cells #[.slice none 0 0, .slice none 0 0] 30)).alloc (.cells #[] 48) := ⟨_, rfl⟩
  obtain ⟨g, hg⟩ : ∃ g, w.heap.size = g := ⟨_, rfl⟩
  rw [hz1] at own0
  have HG := Lib.hid hg
  rw [← hWW] at al2 BO own0 ⊢
  simp only [hg] at BO own0 ⊢
  clear hWW hg al1 hz1
  have hgl := BO.lt
  go_loopw [5, 13] (fun s i wr => ∃ (k : Nat) (P : Option Addr) (cp : Nat) (css : List (List Value)) (lO : List Cm), k ≤ n2 ∧ i = .int .i64 k ∧ s = .slice P lO.length cp ∧ lO.length ≤ k ∧ wr.ownsRow 0 48 8 (.slice P lO.length cp) lO.length css.flatten ∧ (∀ x ∈ blkL P, g + 1 ≤ x) ∧
      ElsR cmR w css lO ∧ pickL l or_ = lO ++ pickL l (or_.drop k) ∧ BoxL wr g [.slice none 0 0, .slice none 0 0] ∧ Below w.heap.size w wr ∧ g + 1 ≤ wr.heap.size) (fun _ i _ => n2 - (intOf i).toNat)
  case atStart => exact ⟨0, _, _, [], [], Nat.zero_le _, rfl, rfl, Nat.le_refl _, own0, (fun x hx => by have h2 : x = g + 1 := (by simpa [blkL] using hx); omega), ElsR.nil, rfl, BO, al2, by omega⟩
  case round =>
    clear BO own0 al2
    obtain ⟨k, P, cp, css, lO, hk, rfl, rfl, hlO, own1, hP, hE, hpk, BO, hB, hgz⟩ := hrel
    have HI := Lib.hid hpk; clear hpk
    have HO := Lib.hid hlO
    have lg := BO.lt
    by_cases hlt : k < n2
    · have hki : (k : Int) < (n2 : Int) := by omega
      obtain ⟨ob, oo, rfl, hobl, hc2⟩ := (h2.keep hB).2 (by omega)
      have oc : wr.cell? ⟨ob, oo + k, none⟩ = some (.int .i64 (iAt or_ k)) := hc2 k hlt
      have HD := Lib.hid (pick_drop l (o := or_) (k := k) (by have := HL2.out; omega))
      have hlO3 : lO.length ≤ 1048576 := by omega
      obtain ⟨v, hv⟩ : ∃ v, iAt or_ k = v := ⟨_, rfl⟩
      rw [hv] at oc HD
      clear hv hc2 hlO
      by_cases hin : 0 ≤ v ∧ v < (n : Int)
      · obtain ⟨j, rfl⟩ : ∃ j : Nat, v = (j : Int) := ⟨v.toNat, by omega⟩
        have hjn : j < n := by omega
        have hji : (j : Int) < (n : Int) := by omega
        have hR := h.keep cmK hB
        obtain ⟨b, off, rfl⟩ := hR.head (by omega)
        obtain ⟨bl, m, C1, q1, e1, hm, hmc, hcr⟩ := cm_el hR hjn
        obtain ⟨_, m', C1', q1', e1', hm', hmc', hcr'⟩ := cm_el h hjn
        obtain rfl : m = m' := Option.some.inj (hm.symm.trans hm')
        have hq := hcr 7 _ rfl
        have hq' := (hB.cell (p := ⟨b, off + j * 8 + 7, none⟩) (cell_lt (hcr' 7 _ rfl))).trans (hcr' 7 _ rfl)
        have hqe := Option.some.inj (hq.symm.trans hq')
        injection hqe with e7 e8 e9
        subst e7 e8 e9
        have r0 : wr.cell? ⟨b, off + j * 8, none⟩ = some (.int .i64 m.kd) := hcr 0 _ rfl
        have r1 : wr.cell? ⟨b, off + j * 8 + 1, none⟩ = some (.int .i64 m.cl) := hcr 1 _ rfl
        have r2 : wr.cell? ⟨b, off + j * 8 + 2, none⟩ = some (.int .i64 m.no) := hcr 2 _ rfl
        have r3 : wr.cell? ⟨b, off + j * 8 + 3, none⟩ = some (.string m.s) := hcr 3 _ rfl
        have r4 : wr.cell? ⟨b, off + j * 8 + 4, none⟩ = some (.string m.nm) := hcr 4 _ rfl
        have r5 : wr.cell? ⟨b, off + j * 8 + 5, none⟩ = some (.string m.tg) := hcr 5 _ rfl
        have r6 : wr.cell? ⟨b, off + j * 8 + 6, none⟩ = some (.int .i64 m.n) := hcr 6 _ rfl
        have r7 : wr.cell? ⟨b, off + j * 8 + 7, none⟩ = some (.slice C1 q1 e1) := hq
        have HE2 := Lib.hid (cm_els hE hmc')
        have HJ := Lib.hid (show pickL l or_ = (lO ++ [m]) ++ pickL l (or_.drop (k + 1)) by
          rw [HI.out, HD.out, if_pos (by have := HL.out; omega), Int.toNat_natCast, show cmAt l j = m by unfold cmAt; simp [hm]]; simp)
        clear hm hm' hmc hmc' hcr hcr' hq hq' hE hR
        go_wp2_with fail
        refine (within_any _ _ _ _).mono ?_
        rintro e w' ⟨rfl, rfl⟩
        have hw : inB (j : Int) 0 ((n : Int) - 1) = true := by unfold inB; simp; omega
        rw [hw]
        go_wp2_with (first | (at_builtin; refine wpList_app1g (P := Tryz.prog) _ rfl (.tmp 22) (.tmp 27) 32 rfl 0 48 _ 8 104 Tryz.underlying32 infoCmd rfl (by omega) (.slice P lO.length cp) _ _ rfl own1 _ _ rfl (by simp) rfl (by simp [Value.oneCell']) (by unfold maxLen; omega) (by omega) (Nat.zero_le _) ?_; intro P3 cp3 w3 own3 hg3 hb3 hob3; refine stop_of ?_) | fail)
        unfold Stop
        have C3 : Ch (fun t => g + 1 ≤ t) wr w3 := (Ch.of_grow hg3).mono (fun t ht => hP t (mem_blkL.2 (blk_of ht)))
        have hP3 := blk_new hob3 hP (by omega)
        have hB3 : Below w.heap.size w w3 := C3.belowB hB hB.size (fun t ht => by have ht : g + 1 ≤ t := ht; have := HG.out; omega)
        have BO3 := BO.ch C3 (by omega)
        have hgz3 := Nat.le_trans hgz C3.size
        have HX := Lib.hid (And.intro (And.intro BO3 hB3) (And.intro hgz3 hP3)); have HOW := Lib.hid own3; clear BO3 hB3 hgz3 hP3 own3 C3 hg3 hb3 hob3 r0 r1 r2 r3 r4 r5 r6 r7 oc
        go_wp2
        exact ⟨⟨k + 1, P3, cp3, _, (lO ++ [m]), by omega, by go_num, by simp, by have := HO.out; simp; omega, by have h5 := HOW.out; simpa using h5, HX.out.2.2, HE2.out, HJ.out, HX.out.1.1, HX.out.1.2, HX.out.2.1⟩, by simp [intOf]; omega⟩
      · have HJ := Lib.hid (show pickL l or_ = lO ++ pickL l (or_.drop (k + 1)) by rw [HI.out, HD.out, if_neg (by have := HL.out; omega)])
        go_wp2_with fail
        refine (within_any _ _ _ _).mono ?_
        rintro e w' ⟨rfl, rfl⟩
        have hw : inB v 0 ((n : Int) - 1) = false := by unfold inB; simp; omega
        rw [hw]
        go_wp2
        exact ⟨⟨k + 1, P, cp, css, lO, by omega, by go_num, rfl, by have := HO.out; omega, own1, hP, hE, HJ.out, BO, hB, hgz⟩, by simp [intOf]; omega⟩
    · have hkn : k = n2 := by omega
      subst hkn
      have hpe : pickL l or_ = lO := by rw [HI.out, List.drop_eq_nil_of_le (by have := HL2.out; omega), pickL, List.append_nil]
      have HPE := Lib.hid hpe; clear hpe
      have hRO : RowR cmR 8 wr P lO.length cp lO := RowR.of_els cmK (by omega) own1 rfl (hE.keep cmK hB)
      have hbO : ∀ m ∈ lO, cmB m := fun m hm => hb m (pick_mem (o := or_) m (by rw [HPE.out]; exact hm))
      have hlO2 : lO.length ≤ 1048576 := by omega
      have hpl := staPlay_impl lO P lO.length cp wr hRO hlO2 hbO
      clear hlO
      go_wp2_with fail
      refine hpl.mono ?_
      intro e w5 hout
      obtain ⟨B1, m1, d1, B2, m2, d2, f1, f2, Z, rfl, R1, R2, N, F, hb5⟩ := hout.out
      unfold staV
      clear hpl hout own1 hE hRO
      have BO5 := BO.keep hb5
      have hB5 := bthen hB hb5
      rw [HG.out] at hB5
      have hz5 := hb5.size
      have o0 := BO5.cell 0 _ rfl; have o1 := BO5.cell 1 _ rfl; have of := BO5.fz 0 (by simp); have og := BO5.fz 1 (by simp); have l5 := BO5.lt
      have hFF : ∀ b ∈ f1 ++ f2, g < b := fun b hb => by have h5 := F b hb; omega
      have hBx := BO5.setCells (vs := [.slice B1 m1 d1, .slice B2 m2 d2]) rfl
      have ala := (Below.refl (w5.setCells g 0 [.slice B1 m1 d1, .slice B2 m2 d2]).heap.size (w5.setCells g 0 [.slice B1 m1 d1, .slice B2 m2 d2])).alloc (Nat.le_refl _) (.cells #[.slice B1 m1 d1, .slice B2 m2 d2] 30)
      have hWr := (hBx.keep ala).range
      have HWR := Lib.hid hWr; have HAL := Lib.hid ala; clear hWr ala hBx
      go_wp2
      refine bodyPost_ret (results_one Tryz.results9 rfl HWR.out Tryz.underlying30 rfl sizeState0) rfl ?_
      unfold runL
      rw [HPE.out]
      exact run_out R1 R2 N hFF hB5 HG.out l5 HAL.out
set_option maxRecDepth 8000 in
set_option maxHeartbeats 8000000 in
theorem runIn_spec (l : List Cm) (or_ : List Int) (A : Option Addr) (n c : Nat) (A2 : Option Addr) (n2 c2 : Nat) (w : World) (h : RowR cmR 8 w A n c l) (h2 : IntsAt w A2 n2 or_) (hn : n ≤ 1048576) (hn2 : n2 ≤ 1048576) (hb : ∀ m ∈ l, cmB m) :
    Calls Tryz.prog 6 #[.slice A n c, .slice A2 n2 c2] w (RunOut (runL l or_) w) := by
  have HL := Lib.hid h.len
  have HL2 := Lib.hid h2.1
  have al1 := (Below.refl w.heap.size w).alloc (Nat.le_refl _) (.cells #[.slice none 0 0, .slice none 0 0] 30)
  have al2 := al1.alloc al1.size (.cells #[] 48)
  have hz1 : (w.alloc (.cells #[.slice none 0 0, .slice none 0 0] 30)).heap.size = w.heap.size + 1 := Array.size_push _
  have BO := (BoxL.new w [.slice none 0 0, .slice none 0 0] 30).keep ((Below.refl _ _).alloc (Nat.le_refl _) (.cells #[] 48))
  have own0 := own_empty (w.alloc (.cells #[.slice none 0 0, .slice none 0 0] 30)) 48 8 (base := 0) (Nat.zero_le _)
  go_enter Tryz.func6, Tryz.ntmps6
  go_wp2_with fail
  obtain ⟨W, hWW⟩ : ∃ W, W = (w.alloc (.cells #[.slice none 0 0, .slice none 0 0] 30)).alloc (.cells #[] 48) := ⟨_, rfl⟩
  obtain ⟨g, hg⟩ : ∃ g, w.heap.size = g := ⟨_, rfl⟩
  rw [hz1] at own0
  have HG := Lib.hid hg
  rw [← hWW] at al2 BO own0 ⊢
  simp only [hg] at BO own0 ⊢
  clear hWW hg al1 hz1
  have hgl := BO.lt
  go_loopw [5, 6] (fun s i wr => ∃ (k : Nat) (P : Option Addr) (cp : Nat) (css : List (List Value)) (lO : List Cm), k ≤ n2 ∧ i = .int .i64 k ∧ s = .slice P lO.length cp ∧ lO.length ≤ k ∧ wr.ownsRow 0 48 8 (.slice P lO.length cp) lO.length css.flatten ∧ (∀ x ∈ blkL P, g + 1 ≤ x) ∧
      ElsR cmR w css lO ∧ pickL l or_ = lO ++ pickL l (or_.drop k) ∧ BoxL wr g [.slice none 0 0, .slice none 0 0] ∧ Below w.heap.size w wr ∧ g + 1 ≤ wr.heap.size) (fun _ i _ => n2 - (intOf i).toNat)
  case atStart => exact ⟨0, _, _, [], [], Nat.zero_le _, rfl, rfl, Nat.le_refl _, own0, (fun x hx => by have h2 : x = g + 1 := (by simpa [blkL] using hx); omega), ElsR.nil, rfl, BO, al2, by omega⟩
  case round =>
    clear BO own0 al2
    obtain ⟨k, P, cp, css, lO, hk, rfl, rfl, hlO, own1, hP, hE, hpk, BO, hB, hgz⟩ := hrel
    have HI := Lib.hid hpk; clear hpk
    have HO := Lib.hid hlO
    have lg := BO.lt
    by_cases hlt : k < n2
    · have hki : (k : Int) < (n2 : Int) := by omega
      obtain ⟨ob, oo, rfl, hobl, hc2⟩ := (h2.keep hB).2 (by omega)
      have oc : wr.cell? ⟨ob, oo + k, none⟩ = some (.int .i64 (iAt or_ k)) := hc2 k hlt
      have HD := Lib.hid (pick_drop l (o := or_) (k := k) (by have := HL2.out; omega))
      have hlO3 : lO.length ≤ 1048576 := by omega
      obtain ⟨v, hv⟩ : ∃ v, iAt or_ k = v := ⟨_, rfl⟩
      rw [hv] at oc HD
      clear hv hc2 hlO
      by_cases hin : 0 ≤ v ∧ v < (n : Int)
      · obtain ⟨j, rfl⟩ : ∃ j : Nat, v = (j : Int) := ⟨v.toNat, by omega⟩
        have hjn : j < n := by omega
        have hji : (j : Int) < (n : Int) := by omega
        have hR := h.keep cmK hB
        obtain ⟨b, off, rfl⟩ := hR.head (by omega)
        obtain ⟨bl, m, C1, q1, e1, hm, hmc, hcr⟩ := cm_el hR hjn
        obtain ⟨_, m', C1', q1', e1', hm', hmc', hcr'⟩ := cm_el h hjn
        obtain rfl : m = m' := Option.some.inj (hm.symm.trans hm')
        have hq := hcr 7 _ rfl
        have hq' := (hB.cell (p := ⟨b, off + j * 8 + 7, none⟩) (cell_lt (hcr' 7 _ rfl))).trans (hcr' 7 _ rfl)
        have hqe := Option.some.inj (hq.symm.trans hq')
        injection hqe with e7 e8 e9
        subst e7 e8 e9
        have r0 : wr.cell? ⟨b, off + j * 8, none⟩ = some (.int .i64 m.kd) := hcr 0 _ rfl
        have r1 : wr.cell? ⟨b, off + j * 8 + 1, none⟩ = some (.int .i64 m.cl) := hcr 1 _ rfl
        have r2 : wr.cell? ⟨b, off + j * 8 + 2, none⟩ = some (.int .i64 m.no) := hcr 2 _ rfl
        have r3 : wr.cell? ⟨b, off + j * 8 + 3, none⟩ = some (.string m.s) := hcr 3 _ rfl
        have r4 : wr.cell? ⟨b, off + j * 8 + 4, none⟩ = some (.string m.nm) := hcr 4 _ rfl
        have r5 : wr.cell? ⟨b, off + j * 8 + 5, none⟩ = some (.string m.tg) := hcr 5 _ rfl
        have r6 : wr.cell? ⟨b, off + j * 8 + 6, none⟩ = some (.int .i64 m.n) := hcr 6 _ rfl
        have r7 : wr.cell? ⟨b, off + j * 8 + 7, none⟩ = some (.slice C1 q1 e1) := hq
        have HE2 := Lib.hid (cm_els hE hmc')
        have HJ := Lib.hid (show pickL l or_ = (lO ++ [m]) ++ pickL l (or_.drop (k + 1)) by
          rw [HI.out, HD.out, if_pos (by have := HL.out; omega), Int.toNat_natCast, show cmAt l j = m by unfold cmAt; simp [hm]]; simp)
        clear hm hm' hmc hmc' hcr hcr' hq hq' hE hR
        have gd0 : decide ((j : Int) ≥ 0) = true := decide_eq_true (by omega)
        have gd1 : decide ((j : Int) < (n : Int)) = true := decide_eq_true hji
        go_wp2_with (first | (at_builtin; refine wpList_app1g (P := Tryz.prog) _ rfl (.tmp 30) (.tmp 38) 32 rfl 0 48 _ 8 104 Tryz.underlying32 infoCmd rfl (by omega) (.slice P lO.length cp) _ _ rfl own1 _ _ rfl (by simp) rfl (by simp [Value.oneCell']) (by unfold maxLen; omega) (by omega) (Nat.zero_le _) ?_; intro P3 cp3 w3 own3 hg3 hb3 hob3; refine stop_of ?_) | fail)
        unfold Stop
        have C3 : Ch (fun t => g + 1 ≤ t) wr w3 := (Ch.of_grow hg3).mono (fun t ht => hP t (mem_blkL.2 (blk_of ht)))
        have hP3 := blk_new hob3 hP (by omega)
        have hB3 : Below w.heap.size w w3 := C3.belowB hB hB.size (fun t ht => by have ht : g + 1 ≤ t := ht; have := HG.out; omega)
        have BO3 := BO.ch C3 (by omega)
        have hgz3 := Nat.le_trans hgz C3.size
        have HX := Lib.hid (And.intro (And.intro BO3 hB3) (And.intro hgz3 hP3)); have HOW := Lib.hid own3; clear BO3 hB3 hgz3 hP3 own3 C3 hg3 hb3 hob3 r0 r1 r2 r3 r4 r5 r6 r7 oc
        go_wp2
        exact ⟨⟨k + 1, P3, cp3, _, (lO ++ [m]), by omega, by go_num, by simp, by have := HO.out; simp; omega, by have h5 := HOW.out; simpa using h5, HX.out.2.2, HE2.out, HJ.out, HX.out.1.1, HX.out.1.2, HX.out.2.1⟩, by simp [intOf]; omega⟩
      · have HJ := Lib.hid (show pickL l or_ = lO ++ pickL l (or_.drop (k + 1)) by rw [HI.out, HD.out, if_neg (by have := HL.out; omega)])
        by_cases h0 : 0 ≤ v
        · have gd0 : decide (v ≥ 0) = true := decide_eq_true h0
          have gd1 : decide (v < (n : Int)) = false := decide_eq_false (fun h => hin ⟨h0, h⟩)
          have hvn : ¬ v < (n : Int) := fun h => hin ⟨h0, h⟩
          clear hin
          go_wp2
          exact ⟨⟨k + 1, P, cp, css, lO, by omega, by go_num, rfl, by have := HO.out; omega, own1, hP, hE, HJ.out, BO, hB, hgz⟩, by simp [intOf]; omega⟩
        · have gd0 : decide (v ≥ 0) = false := decide_eq_false h0
          clear hin
          go_wp2
          exact ⟨⟨k + 1, P, cp, css, lO, by omega, by go_num, rfl, by have := HO.out; omega, own1, hP, hE, HJ.out, BO, hB, hgz⟩, by simp [intOf]; omega⟩
    · have hkn : k = n2 := by omega
      subst hkn
      have hpe : pickL l or_ = lO := by rw [HI.out, List.drop_eq_nil_of_le (by have := HL2.out; omega), pickL, List.append_nil]
      have HPE := Lib.hid hpe; clear hpe
      have hRO : RowR cmR 8 wr P lO.length cp lO := RowR.of_els cmK (by omega) own1 rfl (hE.keep cmK hB)
      have hbO : ∀ m ∈ lO, cmB m := fun m hm => hb m (pick_mem (o := or_) m (by rw [HPE.out]; exact hm))
      have hlO2 : lO.length ≤ 1048576 := by omega
      have hpl := staPlay_spec lO P lO.length cp wr hRO hlO2 hbO
      clear hlO
      go_wp2_with fail
      refine hpl.mono ?_
      intro e w5 hout
      obtain ⟨B1, m1, d1, B2, m2, d2, f1, f2, Z, rfl, R1, R2, N, F, hb5⟩ := hout.out
      unfold staV
      clear hpl hout own1 hE hRO
      have BO5 := BO.keep hb5
      have hB5 := bthen hB hb5
      rw [HG.out] at hB5
      have hz5 := hb5.size
      have o0 := BO5.cell 0 _ rfl; have o1 := BO5.cell 1 _ rfl; have of := BO5.fz 0 (by simp); have og := BO5.fz 1 (by simp); have l5 := BO5.lt
      have hFF : ∀ b ∈ f1 ++ f2, g < b := fun b hb => by have h5 := F b hb; omega
      have hBx := BO5.setCells (vs := [.slice B1 m1 d1, .slice B2 m2 d2]) rfl
      have ala := (Below.refl (w5.setCells g 0 [.slice B1 m1 d1, .slice B2 m2 d2]).heap.size (w5.setCells g 0 [.slice B1 m1 d1, .slice B2 m2 d2])).alloc (Nat.le_refl _) (.cells #[.slice B1 m1 d1, .slice B2 m2 d2] 30)
      have hWr := (hBx.keep ala).range
      have HWR := Lib.hid hWr; have HAL := Lib.hid ala; clear hWr ala hBx
      go_wp2
      refine bodyPost_ret (results_one Tryz.results6 rfl HWR.out Tryz.underlying30 rfl sizeState0) rfl ?_
      unfold runL
      rw [HPE.out]
      exact run_out R1 R2 N hFF hB5 HG.out l5 HAL.out
end Go.Proofs.YtdphdnllhmnelaaGreat
/- [][]int: how it lies in memory, the laws' helpers on it. -/
namespace Go.Proofs.YtdphdnllhmnelaaGreat
open Go.RowKit
def intR (w : World) (cs : List Value) (x : List Int) : Prop := ∃ (A1 : Option Addr) (n1 c1 : Nat), cs = [.slice A1 n1 c1] ∧ IntR w A1 n1 c1 x
def intF (fp : List Nat) (w : World) (cs : List Value) (x : List Int) : Prop := ∃ (A1 : Option Addr) (n1 c1 : Nat), cs = [.slice A1 n1 c1] ∧ IntO fp w A1 n1 c1 x
theorem intK : KindOk intR intF 1 where
  rlen := fun h => by obtain ⟨A1, n1, c1, rfl, h1⟩ := h; rfl
  rkeep := fun h hb => by obtain ⟨A1, n1, c1, rfl, h1⟩ := h; exact ⟨A1, n1, c1, rfl, h1.keep hb⟩
  flt := fun h b hb => by obtain ⟨A1, n1, c1, rfl, h1⟩ := h; exact h1.lt b hb
  fch := fun h hc hS => by obtain ⟨A1, n1, c1, rfl, h1⟩ := h; exact ⟨A1, n1, c1, rfl, h1.ch hc hS⟩
  fr := fun h => by obtain ⟨A1, n1, c1, rfl, h1⟩ := h; exact ⟨A1, n1, c1, rfl, h1.at_⟩
  one := fun h v hv => by
    obtain ⟨A1, n1, c1, rfl, h1⟩ := h
    simp only [List.mem_cons, List.not_mem_nil, or_false] at hv
    subst hv; rfl
def intssB (l : List (List Int)) : Prop := l.length ≤ 9223372036854775807 ∧ ∀ y ∈ l, intB y
def intssSz (l : List (List Int)) : Nat := l.length + (l.map intsSz).sum
theorem intss_el {l : List (List Int)} {i : Nat} {x : List Int} (hx : l[i]? = some x) : intsSz x ≤ intssSz l := by have := (sum_el intsSz hx).1; unfold intssSz; omega
def intssCnt (l : List (List Int)) : Nat := (l.map intsCnt).sum
theorem intss_cnt (l : List (List Int)) : intssCnt l ≤ intssSz l := by
  have : (l.map intsCnt).sum = (l.map intsSz).sum := rfl
  unfold intssCnt intssSz; omega
def intssMk (k : Int) : List (List Int) → List (List Int)
  | [] => []
  | x :: l => intsMk k x :: intssMk (k + (intsCnt x : Nat)) l
theorem intssMk_len (k : Int) : ∀ l : List (List Int), (intssMk k l).length = l.length
  | [] => rfl
  | x :: l => by simp [intssMk, intssMk_len]
theorem intssMk_snoc (k : Int) (x : List Int) : ∀ l : List (List Int), intssMk k (l ++ [x]) = intssMk k l ++ [intsMk (k + (intssCnt l : Nat)) x]
  | [] => by simp [intssMk, intssCnt]
  | y :: l => by
    have := intssMk_snoc (k + (intsCnt y : Nat)) x l
    have e : k + (intsCnt y : Nat) + ((intssCnt l : Nat) : Int) = k + ((intssCnt (y :: l) : Nat) : Int) := by simp only [intssCnt, List.map_cons, List.sum_cons]; push_cast; omega
    simp only [List.cons_append, intssMk, this, e]
theorem intssMk_at (k : Int) : ∀ (l : List (List Int)) (i : Nat) (x : List Int), l[i]? = some x → (intssMk k l)[i]? = some (intsMk (k + (sumTo intsCnt l i : Nat)) x)
  | [], i, x, h => by simp at h
  | y :: l, 0, x, h => by simp at h; subst h; simp [intssMk, sumTo]
  | y :: l, i + 1, x, h => by
    have := intssMk_at (k + (intsCnt y : Nat)) l i x (by simpa using h)
    have e : k + (intsCnt y : Nat) + ((sumTo intsCnt l i : Nat) : Int) = k + ((sumTo intsCnt (y :: l) (i + 1) : Nat) : Int) := by simp only [sumTo, List.take_succ_cons, List.map_cons, List.sum_cons]; push_cast; omega
    simp only [intssMk, List.getElem?_cons_succ, this, e]
attribute [local irreducible] StrR IntR StrO IntO RowR RowO StrsAt IntsAt
theorem infoIntS : (Tryz.prog.info? 23).map (fun i => (i.zero, i.size, i.bytes)) = some (some (.slice none 0 0), 1, 24) := by kernel_rfl
end Go.Proofs.YtdphdnllhmnelaaGreat
/- Rows of Cmd and of []int in the shape of the exact laws; []laws.Cmd opened. -/
namespace Go.Proofs.YtdphdnllhmnelaaGreat
open Go.RowKit

def CmsAt (w : World) (A : Option Addr) (n c : Nat) (l : List (Cm)) : Prop := RowR cmR 8 w A n c l
theorem CmsAt.keep {w w' : World} {A : Option Addr} {n c : Nat} {l : List (Cm)} (h : CmsAt w A n c l) (hb : Below w.heap.size w w') : CmsAt w' A n c l := RowR.keep cmK h hb
structure CmsOk (w : World) (A : Option Addr) (n c : Nat) (l : List (Cm)) : Prop where
  at_ : CmsAt w A n c l
  bd : cmsB l
theorem CmsOk.keep {w w' : World} {A : Option Addr} {n c : Nat} {l : List (Cm)} (h : CmsOk w A n c l) (hb : Below w.heap.size w w') : CmsOk w' A n c l := ⟨h.at_.keep hb, h.bd⟩
structure CmsIn (lo hi : Nat) (w : World) (A : Option Addr) (n c : Nat) (l : List (Cm)) : Prop where
  row : RowI cmF 48 8 lo hi w A n c l
section
variable {lo hi : Nat} {w w' : World} {A : Option Addr} {n c : Nat} {l : List (Cm)}
theorem CmsIn.keep (h : CmsIn lo hi w A n c l) (hb : Below w.heap.size w w') : CmsIn lo hi w' A n c l := ⟨h.row.keep cmK hb⟩
theorem CmsIn.ch {S : Nat → Prop} (h : CmsIn lo hi w A n c l) (hc : Ch S w w') (hS : ∀ k, Iv lo hi k → ¬ S k) : CmsIn lo hi w' A n c l := ⟨h.row.ch cmK hc hS⟩
theorem CmsIn.at_ (h : CmsIn lo hi w A n c l) : CmsAt w A n c l := h.row.at_ cmK (by omega)
theorem CmsIn.cap (h : CmsIn lo hi w A n c l) : n ≤ c := by obtain ⟨fp, _, _, h⟩ := h.row.ex; obtain ⟨_, _, _, ho, _⟩ := h.ex; exact (own_le ho).1
end
theorem cmsW_cnt (l : List (Cm)) : cmsCnt l ≤ 7 * cmsSz l := cms_cnt l
theorem cmsW_sz (l : List (Cm)) (A : Option Addr) (n c : Nat) (left : Int) (w : World) (h : CmsOk w A n c l) (hl0 : 0 ≤ left) (hl1 : left ≤ 4611686018427387904) :
    Calls Tryz.prog 5 #[.slice A n c, .int .i64 left] w fun e w' => e = .returned (.int .i64 (szR left (cmsSz l))) ∧ Below w.heap.size w w' := cms_sz l A n c left w h.at_ h.bd hl0 hl1
theorem cmsW_eq (l : List (Cm)) (A : Option Addr) (n c : Nat) (A' : Option Addr) (n' c' : Nat) (w : World) (h : CmsAt w A n c l) (h' : CmsAt w A' n' c' l) (hs : cmsSz l ≤ 16777216) :
    Calls Tryz.prog 11 #[.slice A n c, .slice A' n' c'] w fun e w' => e = .returned (.bool true) ∧ Below w.heap.size w w' := cms_eq l A n c A' n' c' w h h' hs
theorem cmsW_to (l : List (Cm)) (A : Option Addr) (n c : Nat) (w : World) (h : CmsAt w A n c l) (hs : cmsSz l ≤ 1048576) :
    Calls Tryz.prog 7 #[.slice A n c] w fun e w' => ∃ A' n' c', e = .returned (.slice A' n' c') ∧ CmsIn w.heap.size w'.heap.size w' A' n' c' l ∧ Below w.heap.size w w' := by
  refine (cms_to l A n c w h hs).mono ?_
  rintro e w' ⟨A', n', c', rfl, h1, h2⟩
  exact ⟨A', n', c', rfl, ⟨⟨h1⟩⟩, h2⟩
theorem cmsW_mark (lo hi : Nat) (l : List (Cm)) (A : Option Addr) (n c : Nat) (k : Int) (w : World) (h : CmsIn lo hi w A n c l) (hs : cmsSz l ≤ 16777216) (hk0 : 0 < k) (hk1 : k ≤ 288230376151711744) :
    Calls Tryz.prog 13 #[.slice A n c, .int .i64 k] w fun e w' => e = .returned (.int .i64 (k + (cmsCnt l : Nat))) ∧ CmsIn lo hi w' A n c (cmsMk k l) ∧ Ch (Iv lo hi) w w' := by
  obtain ⟨fp, hN, hB, hO⟩ := h.row.ex
  refine (cms_mark l fp A n c k w hO hN hs hk0 hk1).mono ?_
  rintro e w' ⟨rfl, h1, h2⟩
  exact ⟨rfl, ⟨⟨fp, hN, hB, h1⟩⟩, h2.mono (fun b hb => hB b hb)⟩

def IntzsAt (w : World) (A : Option Addr) (n c : Nat) (l : List (List Int)) : Prop := RowR intR 1 w A n c l
theorem IntzsAt.keep {w w' : World} {A : Option Addr} {n c : Nat} {l : List (List Int)} (h : IntzsAt w A n c l) (hb : Below w.heap.size w w') : IntzsAt w' A n c l := RowR.keep intK h hb
structure IntzsOk (w : World) (A : Option Addr) (n c : Nat) (l : List (List Int)) : Prop where
  at_ : IntzsAt w A n c l
  bd : intssB l
theorem IntzsOk.keep {w w' : World} {A : Option Addr} {n c : Nat} {l : List (List Int)} (h : IntzsOk w A n c l) (hb : Below w.heap.size w w') : IntzsOk w' A n c l := ⟨h.at_.keep hb, h.bd⟩
structure IntzsIn (lo hi : Nat) (w : World) (A : Option Addr) (n c : Nat) (l : List (List Int)) : Prop where
  row : RowI intF 23 1 lo hi w A n c l
section
variable {lo hi : Nat} {w w' : World} {A : Option Addr} {n c : Nat} {l : List (List Int)}
theorem IntzsIn.keep (h : IntzsIn lo hi w A n c l) (hb : Below w.heap.size w w') : IntzsIn lo hi w' A n c l := ⟨h.row.keep intK hb⟩
theorem IntzsIn.ch {S : Nat → Prop} (h : IntzsIn lo hi w A n c l) (hc : Ch S w w') (hS : ∀ k, Iv lo hi k → ¬ S k) : IntzsIn lo hi w' A n c l := ⟨h.row.ch intK hc hS⟩
theorem IntzsIn.at_ (h : IntzsIn lo hi w A n c l) : IntzsAt w A n c l := h.row.at_ intK (by omega)
theorem IntzsIn.cap (h : IntzsIn lo hi w A n c l) : n ≤ c := by obtain ⟨fp, _, _, h⟩ := h.row.ex; obtain ⟨_, _, _, ho, _⟩ := h.ex; exact (own_le ho).1
end
theorem intzs_cnt (l : List (List Int)) : intssCnt l ≤ intssSz l := intss_cnt l

section
open Go.ChangeShapes Go.WideShapes Go.ChangeAt Go.Deep Go.Joins
variable {H : Type} {enc : TypeId × Value → H} {w : World} {base : Nat} {spare : Nat → Bool} {held : Bool}
theorem eight_of {cs : List Value} (h : cs.length = 8) : ∃ a b c d e f g i, cs = [a, b, c, d, e, f, g, i] := by
  match cs, h with
  | [a, b, c, d, e, f, g, i], _ => exact ⟨a, b, c, d, e, f, g, i, rfl⟩
theorem cellsCmdL : Tryz.prog.cellsOf 69 = 8 := by kernel_rfl
theorem cellsIntL : Tryz.prog.cellsOf 3 = 1 := by kernel_rfl
theorem cellsStringL : Tryz.prog.cellsOf 9 = 1 := by kernel_rfl
theorem cellsStrsL : Tryz.prog.cellsOf 46 = 1 := by kernel_rfl
set_option maxRecDepth 8000 in
theorem trod_strs {fu : Nat} {cs : List Value} {y : DataW H × List MemPlace} (h : DataW.trod enc Tryz.prog w base spare held fu 46 cs = some y) :
    ∃ A n c l, cs = [.slice A n c] ∧ StrsAt w A n l ∧ (A = none → c = 0) ∧ n ≤ 9223372036854775807 ∧ ∀ i, i < n → (sAt l i).size ≤ 9223372036854775807 := by
  obtain ⟨A, n, c, l, hcs, hr, hn, _, hc⟩ := open_rows_cs (C := fun _ cs (x : ByteArray) => cs = [.string x] ∧ x.size ≤ 9223372036854775807) Tryz.underlying46 cellsStringL (by omega) (fun fu cs y h => by obtain ⟨m, hm, hw⟩ := trod_str1 Tryz.underlying9 h; exact ⟨m, hm, hw⟩) h
  have hl := hr.1
  refine ⟨A, n, c, l, hcs, ?_, hc, hn, fun i hi => ?_⟩
  · unfold StrsAt
    refine ⟨hl, fun h0 => ?_⟩
    obtain ⟨b, off, rfl, hlt, hcell⟩ := hr.2 h0
    refine ⟨b, off, rfl, hlt, fun i hi => ?_⟩
    obtain ⟨cs', ⟨hx, _⟩, _, hc'⟩ := hcell i (sAt l i) (by rw [sAt_get (by omega)]; exact List.getElem?_eq_getElem (by omega))
    subst hx
    simpa using hc' 0 _ rfl
  · obtain ⟨b, off, rfl, hlt, hcell⟩ := hr.2 (by omega)
    obtain ⟨cs', ⟨_, hw⟩, _⟩ := hcell i (sAt l i) (by rw [sAt_get (by omega)]; exact List.getElem?_eq_getElem (by omega))
    exact hw
set_option maxRecDepth 8000 in
theorem trod_strR {fu : Nat} {cs : List Value} {y : DataW H × List MemPlace} (h : DataW.trod enc Tryz.prog w base spare held fu 46 cs = some y) :
    ∃ A n c l, cs = [.slice A n c] ∧ StrR w A n c l ∧ strB l := by
  obtain ⟨A, n, c, l, e, h1, h2, h3, h4⟩ := trod_strs h
  refine ⟨A, n, c, l, e, ⟨h1, h2⟩, by have := h1.1; omega, fun y hy => ?_⟩
  obtain ⟨i, hi, rfl⟩ := List.getElem_of_mem hy
  have hil : i < n := by have := h1.1; omega
  have := h4 i hil
  rwa [sAt_get hi] at this
set_option maxRecDepth 8000 in
theorem trod_cmd {fu : Nat} {cs : List Value} {y : DataW H × List MemPlace} (h : DataW.trod enc Tryz.prog w base spare held fu 69 cs = some y) : ∃ x, cmR w cs x ∧ cmB x := by
  obtain ⟨c0, c1, c2, c3, c4, c5, c6, c7, rfl⟩ := eight_of (trod_len Tryz.underlying69 cellsCmdL h)
  obtain ⟨_, _, h0⟩ := trod_fieldAt Tryz.underlying69 0 rfl cellsIntL h
  obtain ⟨_, _, h1⟩ := trod_fieldAt Tryz.underlying69 1 rfl cellsIntL h
  obtain ⟨_, _, h2⟩ := trod_fieldAt Tryz.underlying69 2 rfl cellsIntL h
  obtain ⟨_, _, h3⟩ := trod_fieldAt Tryz.underlying69 3 rfl cellsStringL h
  obtain ⟨_, _, h4⟩ := trod_fieldAt Tryz.underlying69 4 rfl cellsStringL h
  obtain ⟨_, _, h5⟩ := trod_fieldAt Tryz.underlying69 5 rfl cellsStringL h
  obtain ⟨_, _, h6⟩ := trod_fieldAt Tryz.underlying69 6 rfl cellsIntL h
  obtain ⟨_, _, h7⟩ := trod_fieldAt Tryz.underlying69 7 rfl cellsStrsL h
  obtain ⟨x0, e0, _⟩ := trod_int1 Tryz.underlying3 h0
  obtain ⟨x1, e1, _⟩ := trod_int1 Tryz.underlying3 h1
  obtain ⟨x2, e2, _⟩ := trod_int1 Tryz.underlying3 h2
  obtain ⟨x3, e3, b3⟩ := trod_str1 Tryz.underlying9 h3
  obtain ⟨x4, e4, b4⟩ := trod_str1 Tryz.underlying9 h4
  obtain ⟨x5, e5, b5⟩ := trod_str1 Tryz.underlying9 h5
  obtain ⟨x6, e6, _⟩ := trod_int1 Tryz.underlying3 h6
  obtain ⟨A, n, c, l, e7, q1, q2⟩ := trod_strR h7
  simp at e0 e1 e2 e3 e4 e5 e6 e7
  subst e0 e1 e2 e3 e4 e5 e6 e7
  exact ⟨⟨x0, x1, x2, x3, x4, x5, x6, l⟩, ⟨A, n, c, rfl, q1⟩, b3, b4, b5, q2⟩
/-- rows whose elements are read and bounded -/
theorem rowAt_and {α : Type} {R : World → List Value → α → Prop} {B : α → Prop} {sz n : Nat} {A : Option Addr} {l : List α} (h : RowAt (fun w cs x => R w cs x ∧ B x) sz w A n l) : RowAt R sz w A n l ∧ ∀ y ∈ l, B y := by
  refine ⟨⟨h.1, fun h0 => ?_⟩, fun y hy => ?_⟩
  · obtain ⟨b, off, e, hl, hc⟩ := h.2 h0
    refine ⟨b, off, e, hl, fun i x hx => ?_⟩
    obtain ⟨cs, ⟨h1, _⟩, h2⟩ := hc i x hx
    exact ⟨cs, h1, h2⟩
  · obtain ⟨i, hi, rfl⟩ := List.getElem_of_mem hy
    obtain ⟨b, off, e, hl, hc⟩ := h.2 (by have := h.1; omega)
    obtain ⟨cs, ⟨_, h1⟩, _⟩ := hc i l[i] (List.getElem?_eq_getElem hi)
    exact h1
set_option maxRecDepth 8000 in
theorem open_cms {r : Reach} {b0 : Nat} {v : Value} {d : DataW H} {p : List MemPlace}
    (hv : Value.okWide Tryz.prog w r b0 22 v) (h : DataW.Trod enc Tryz.prog w base spare held 22 v d p) :
    ∃ (A : Option Addr) (n c : Nat) (l : List Cm), v = .slice A n c ∧ CmsOk w A n c l := by
  obtain ⟨A, n, c, rfl⟩ := okWide_slice Tryz.underlying22 hv
  obtain ⟨fuel, hf⟩ := h
  obtain ⟨A', n', c', l, hcs, hr, hn, _, hc⟩ := open_rows_cs (C := fun w cs x => cmR w cs x ∧ cmB x) Tryz.underlying22 cellsCmdL (by omega) (fun _ _ _ h => trod_cmd h) hf
  simp [Value.cells] at hcs
  obtain ⟨rfl, rfl, rfl⟩ := hcs
  obtain ⟨h1, h2⟩ := rowAt_and hr
  exact ⟨_, _, _, l, rfl, ⟨h1, hc⟩, by have := h1.1; omega, h2⟩
end
end Go.Proofs.YtdphdnllhmnelaaGreat
/- Values of the laws' types opened: the base. -/
namespace Go.Proofs.YtdphdnllhmnelaaGreat
open Go.RowKit Go.ChangeShapes Go.WideShapes Go.ChangeAt Go.Deep Go.Joins
section
variable {H : Type} {enc : TypeId × Value → H} {w : World} {base : Nat} {spare : Nat → Bool} {held : Bool}
theorem cellsIntO : Tryz.prog.cellsOf 3 = 1 := by kernel_rfl
theorem cellsBoolO : Tryz.prog.cellsOf 4 = 1 := by kernel_rfl
theorem cellsStringO : Tryz.prog.cellsOf 9 = 1 := by kernel_rfl
theorem cellsStrsO : Tryz.prog.cellsOf 46 = 1 := by kernel_rfl
theorem cellsIntsO : Tryz.prog.cellsOf 23 = 1 := by kernel_rfl
theorem tr_bool {fu : Nat} {cs : List Value} {y : DataW H × List MemPlace} (h : DataW.trod enc Tryz.prog w base spare held fu 4 cs = some y) : ∃ b : Bool, cs = [.bool b] := by
  obtain ⟨n, h1, _⟩ := DataW.trod_bool Tryz.underlying4 h
  exact ⟨n, h1⟩
set_option maxRecDepth 8000 in
theorem tr_strs {fu : Nat} {cs : List Value} {y : DataW H × List MemPlace} (h : DataW.trod enc Tryz.prog w base spare held fu 46 cs = some y) :
    ∃ l, (∃ A n c, cs = [.slice A n c] ∧ StrR w A n c l) ∧ strB l := by
  obtain ⟨A, n, c, l, hcs, hr, hn, _, hc⟩ := open_rows_cs (C := fun _ cs (x : ByteArray) => cs = [.string x] ∧ x.size ≤ 9223372036854775807) Tryz.underlying46 cellsStringO (by omega) (fun fu cs y h => by obtain ⟨m, hm, hw⟩ := trod_str1 Tryz.underlying9 h; exact ⟨m, hm, hw⟩) h
  have hl := hr.1
  have key : ∀ i, i < n → (sAt l i).size ≤ 9223372036854775807 := fun i hi => by
    obtain ⟨b, off, rfl, hlt, hcell⟩ := hr.2 (by omega)
    obtain ⟨cs', ⟨_, hw⟩, _⟩ := hcell i (sAt l i) (by rw [sAt_get (by omega)]; exact List.getElem?_eq_getElem (by omega))
    exact hw
  refine ⟨l, ⟨A, n, c, hcs, ⟨?_, hc⟩⟩, by omega, fun y hy => ?_⟩
  · unfold StrsAt
    refine ⟨hl, fun h0 => ?_⟩
    obtain ⟨b, off, rfl, hlt, hcell⟩ := hr.2 h0
    refine ⟨b, off, rfl, hlt, fun i hi => ?_⟩
    obtain ⟨cs', ⟨hx, _⟩, _, hc'⟩ := hcell i (sAt l i) (by rw [sAt_get (by omega)]; exact List.getElem?_eq_getElem (by omega))
    subst hx
    simpa using hc' 0 _ rfl
  · obtain ⟨i, hi, rfl⟩ := List.getElem_of_mem hy
    have := key i (by omega)
    rwa [sAt_get hi] at this
set_option maxRecDepth 8000 in
theorem tr_ints {fuel : Nat} {cs : List Value} {x : DataW H × List MemPlace} (h : DataW.trod enc Tryz.prog w base spare held fuel 23 cs = some x) :
    ∃ l, (∃ A n c, cs = [.slice A n c] ∧ IntR w A n c l) ∧ intB l := by
  obtain ⟨A, n, c, l, hcs, hr, hn, _, hc⟩ := open_rows_cs (C := fun _ cs (x : Int) => cs = [.int .i64 x]) Tryz.underlying23 cellsIntO (by omega) (fun fu cs y h => by obtain ⟨m, hm, _⟩ := trod_int1 Tryz.underlying3 h; exact ⟨m, hm⟩) h
  refine ⟨l, ⟨A, n, c, hcs, ⟨?_, hc⟩⟩, by unfold intB; have := hr.1; omega⟩
  unfold IntsAt
  refine ⟨hr.1, fun h0 => ?_⟩
  obtain ⟨b, off, rfl, hlt, hcell⟩ := hr.2 h0
  refine ⟨b, off, rfl, hlt, fun i hi => ?_⟩
  have hl := hr.1
  obtain ⟨cs', hx, _, hc'⟩ := hcell i (iAt l i) (by rw [iAt_get (by omega)]; exact List.getElem?_eq_getElem (by omega))
  subst hx
  simpa [intV] using hc' 0 _ rfl
/-- rows whose elements are read and bounded -/
theorem rowAt_both {α : Type} {R : World → List Value → α → Prop} {B : α → Prop} {sz n : Nat} {A : Option Addr} {l : List α} (h : RowAt (fun w cs x => R w cs x ∧ B x) sz w A n l) : RowAt R sz w A n l ∧ ∀ y ∈ l, B y := by
  refine ⟨⟨h.1, fun h0 => ?_⟩, fun y hy => ?_⟩
  · obtain ⟨b, off, e, hl, hc⟩ := h.2 h0
    refine ⟨b, off, e, hl, fun i x hx => ?_⟩
    obtain ⟨cs, ⟨h1, _⟩, h2⟩ := hc i x hx
    exact ⟨cs, h1, h2⟩
  · obtain ⟨i, hi, rfl⟩ := List.getElem_of_mem hy
    obtain ⟨b, off, e, hl, hc⟩ := h.2 (by have := h.1; omega)
    obtain ⟨cs, ⟨_, h1⟩, _⟩ := hc i l[i] (List.getElem?_eq_getElem hi)
    exact h1
end
end Go.Proofs.YtdphdnllhmnelaaGreat
/- Values of laws.Cmd opened. -/
namespace Go.Proofs.YtdphdnllhmnelaaGreat
open Go.RowKit Go.ChangeShapes Go.WideShapes Go.ChangeAt Go.Deep Go.Joins
section
variable {H : Type} {enc : TypeId × Value → H} {w : World} {base : Nat} {spare : Nat → Bool} {held : Bool}
theorem cellsCmdL : Tryz.prog.cellsOf 69 = 8 := by kernel_rfl
theorem cm_of {cs : List Value} (h : cs.length = 8) : ∃ c0 c1 c2 c3 c4 c5 c6 c7, cs = [c0, c1, c2, c3, c4, c5, c6, c7] := by
  match cs, h with
  | [c0, c1, c2, c3, c4, c5, c6, c7], _ => exact ⟨c0, c1, c2, c3, c4, c5, c6, c7, rfl⟩
set_option maxRecDepth 8000 in
theorem tr_cm {fu : Nat} {cs : List Value} {y : DataW H × List MemPlace} (h : DataW.trod enc Tryz.prog w base spare held fu 69 cs = some y) : ∃ x, cmR w cs x ∧ cmB x := by
  obtain ⟨c0, c1, c2, c3, c4, c5, c6, c7, rfl⟩ := cm_of (trod_len Tryz.underlying69 cellsCmdL h)
  obtain ⟨_, _, h0⟩ := trod_fieldAt Tryz.underlying69 0 rfl cellsIntO h
  obtain ⟨x0, e0, _⟩ := trod_int1 Tryz.underlying3 h0
  simp at e0
  subst e0
  obtain ⟨_, _, h1⟩ := trod_fieldAt Tryz.underlying69 1 rfl cellsIntO h
  obtain ⟨x1, e1, _⟩ := trod_int1 Tryz.underlying3 h1
  simp at e1
  subst e1
  obtain ⟨_, _, h2⟩ := trod_fieldAt Tryz.underlying69 2 rfl cellsIntO h
  obtain ⟨x2, e2, _⟩ := trod_int1 Tryz.underlying3 h2
  simp at e2
  subst e2
  obtain ⟨_, _, h3⟩ := trod_fieldAt Tryz.underlying69 3 rfl cellsStringO h
  obtain ⟨x3, e3, b3⟩ := trod_str1 Tryz.underlying9 h3
  simp at e3
  subst e3
  obtain ⟨_, _, h4⟩ := trod_fieldAt Tryz.underlying69 4 rfl cellsStringO h
  obtain ⟨x4, e4, b4⟩ := trod_str1 Tryz.underlying9 h4
  simp at e4
  subst e4
  obtain ⟨_, _, h5⟩ := trod_fieldAt Tryz.underlying69 5 rfl cellsStringO h
  obtain ⟨x5, e5, b5⟩ := trod_str1 Tryz.underlying9 h5
  simp at e5
  subst e5
  obtain ⟨_, _, h6⟩ := trod_fieldAt Tryz.underlying69 6 rfl cellsIntO h
  obtain ⟨x6, e6, _⟩ := trod_int1 Tryz.underlying3 h6
  simp at e6
  subst e6
  obtain ⟨_, _, h7⟩ := trod_fieldAt Tryz.underlying69 7 rfl cellsStrsO h
  obtain ⟨x7, ⟨A7, n7, m7, e7, g7⟩, b7⟩ := tr_strs h7
  simp at e7
  subst e7
  exact ⟨⟨x0, x1, x2, x3, x4, x5, x6, x7⟩, ⟨A7, n7, m7, rfl, g7⟩, b3, b4, b5, b7⟩
theorem cellsCmdSO : Tryz.prog.cellsOf 22 = 1 := by kernel_rfl
set_option maxRecDepth 8000 in
theorem tr_cms {fu : Nat} {cs : List Value} {y : DataW H × List MemPlace} (h : DataW.trod enc Tryz.prog w base spare held fu 22 cs = some y) : ∃ l, (∃ A n c, cs = [.slice A n c] ∧ RowR cmR 8 w A n c l) ∧ cmsB l := by
  obtain ⟨A, n, c, l, hcs, hr, hn, _, hc⟩ := open_rows_cs (C := fun w cs x => cmR w cs x ∧ cmB x) Tryz.underlying22 cellsCmdL (by omega) (fun _ _ _ h => tr_cm h) h
  obtain ⟨h1, h2⟩ := rowAt_both hr
  exact ⟨l, ⟨A, n, c, hcs, h1, hc⟩, by have := h1.1; omega, h2⟩
set_option maxRecDepth 8000 in
theorem opn_cms {r : Reach} {b0 : Nat} {v : Value} {d : DataW H} {p : List MemPlace} (hv : Value.okWide Tryz.prog w r b0 22 v) (h : DataW.Trod enc Tryz.prog w base spare held 22 v d p) : ∃ (A : Option Addr) (n c : Nat) (l : List Cm), v = .slice A n c ∧ RowR cmR 8 w A n c l ∧ cmsB l := by
  obtain ⟨A, n, c, rfl⟩ := okWide_slice Tryz.underlying22 hv
  obtain ⟨fuel, hf⟩ := h
  obtain ⟨l, ⟨A', n', c', hcs, hr⟩, hb⟩ := tr_cms hf
  simp [Value.cells] at hcs
  obtain ⟨rfl, rfl, rfl⟩ := hcs
  exact ⟨_, _, _, l, rfl, hr, hb⟩
set_option maxRecDepth 8000 in
theorem opn_cm {r : Reach} {b0 : Nat} {v : Value} {d : DataW H} {p : List MemPlace} (hv : Value.okWide Tryz.prog w r b0 69 v) (h : DataW.Trod enc Tryz.prog w base spare held 69 v d p) : ∃ (x : Cm) (A1 : Option Addr) (n1 c1 : Nat), v = cmV x (.slice A1 n1 c1) ∧ StrR w A1 n1 c1 x.ch ∧ cmB x := by
  obtain ⟨arr, rfl, hsz⟩ := okWide_struct Tryz.underlying69 hv
  obtain ⟨fuel, hf⟩ := h
  obtain ⟨x, hR, hB⟩ := tr_cm hf
  obtain ⟨A1, n1, c1, hcs, k1⟩ := hR
  have ha : arr = (cmL x (.slice A1 n1 c1)).toArray := Array.toList_inj.1 (by simpa [Value.cells] using hcs)
  subst ha
  exact ⟨x, A1, n1, c1, rfl, k1, hB⟩
end
end Go.Proofs.YtdphdnllhmnelaaGreat
