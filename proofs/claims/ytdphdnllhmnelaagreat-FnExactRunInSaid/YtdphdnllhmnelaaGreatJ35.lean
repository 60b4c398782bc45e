/- Contracts and lemmas: StatePlayS. -/
import Derived.Test.YtdphdnllhmnelaaGreatJ30
import Derived.Test.YtdphdnllhmnelaaGreatJ34
/- The reference's StatePlay. -/
namespace Go.Proofs.YtdphdnllhmnelaaGreat
open Go.RowKit
attribute [local go_sem] Grow.cell Grow.frozen
attribute [local irreducible] StrsAt StrR RowR RowO StaOut stPlay stDo StaBd PlayOut
set_option maxRecDepth 8000 in
set_option maxHeartbeats 8000000 in
theorem staPlay_spec (l : List Cm) (A : Option Addr) (n c : Nat) (w : World) (h : RowR cmR 8 w A n c l) (hn : n ≤ 1048576) (hb : ∀ m ∈ l, cmB m) :
    Calls Tryz.prog 34 #[.slice A n c] w (PlayOut (stPlay staNew l) w) := by
  have HL := Lib.hid h.len
  have al1 := (Below.refl w.heap.size w).alloc (Nat.le_refl _) (.cells #[.slice none 0 0, .slice none 0 0] 30)
  have al2 := al1.alloc al1.size (.cells #[.slice none 0 0, .slice none 0 0] 30)
  have al3 := al2.alloc al2.size (.cells #[] 9)
  have hz1 : (w.alloc (.cells #[.slice none 0 0, .slice none 0 0] 30)).heap.size = w.heap.size + 1 := Array.size_push _
  have hz2 : ((w.alloc (.cells #[.slice none 0 0, .slice none 0 0] 30)).alloc (.cells #[.slice none 0 0, .slice none 0 0] 30)).heap.size = w.heap.size + 2 := (Array.size_push _).trans (by rw [hz1])
  have BO := ((BoxL.new w [.slice none 0 0, .slice none 0 0] 30).keep ((Below.refl _ _).alloc (Nat.le_refl _) (.cells #[.slice none 0 0, .slice none 0 0] 30))).keep ((Below.refl _ _).alloc (Nat.le_refl _) (.cells #[] 9))
  have BS := (BoxL.new (w.alloc (.cells #[.slice none 0 0, .slice none 0 0] 30)) [.slice none 0 0, .slice none 0 0] 30).keep ((Below.refl _ _).alloc (Nat.le_refl _) (.cells #[] 9))
  have own0 := own_empty ((w.alloc (.cells #[.slice none 0 0, .slice none 0 0] 30)).alloc (.cells #[.slice none 0 0, .slice none 0 0] 30)) 9 1 (base := 0) (Nat.zero_le _)
  go_enter Tryz.func34, Tryz.ntmps34
  go_wp2_with fail
  obtain ⟨W, hWW⟩ : ∃ W, W = ((w.alloc (.cells #[.slice none 0 0, .slice none 0 0] 30)).alloc (.cells #[.slice none 0 0, .slice none 0 0] 30)).alloc (.cells #[] 9) := ⟨_, rfl⟩
  obtain ⟨g, hg⟩ : ∃ g, w.heap.size = g := ⟨_, rfl⟩
  rw [hz1] at BS
  rw [hz2] at own0
  have HG := Lib.hid hg
  rw [← hWW] at al3 BO BS own0 ⊢
  simp only [hg] at BO BS own0 ⊢
  clear hWW hg al1 al2 hz1 hz2
  have hWg : g + 2 < W.heap.size := by have := (own_lo own0 (g + 2) (by simp [blkL])).2; omega
  go_loopw [5, 6] (fun s i wr => ∃ (k : Nat) (Z : Option Addr) (cz : Nat) (xs : List Value) (B1 : Option Addr) (m1 d1 : Nat) (B2 : Option Addr) (m2 d2 : Nat) (f1 f2 : List Nat), k ≤ n ∧ i = .int .i64 k ∧ s = .slice Z k cz ∧ wr.ownsRow 0 9 1 (.slice Z k cz) k xs ∧ (∀ b ∈ blkL Z, g + 1 < b ∧ b < wr.heap.size ∧ b ∉ f1 ++ f2) ∧
      BoxL wr g [.slice none 0 0, .slice none 0 0] ∧ BoxL wr (g + 1) [.slice B1 m1 d1, .slice B2 m2 d2] ∧ RowO cstF 165 2 f1 wr B1 m1 d1 (stPlay staNew (l.take k)).cat.sets ∧ RowO saiF 114 3 f2 wr B2 m2 d2 (stPlay staNew (l.take k)).said ∧ (f1 ++ f2).Nodup ∧ (∀ b ∈ f1 ++ f2, g + 1 < b) ∧ Below g w wr ∧ W.heap.size ≤ wr.heap.size) (fun _ i _ => n - (intOf i).toNat)
  case atStart => exact ⟨0, _, _, [], none, 0, 0, none, 0, 0, [], [], Nat.zero_le _, rfl, rfl, own0, (fun b hb => by have hb2 : b = g + 2 := (by simpa [blkL] using hb); subst hb2; exact ⟨by omega, hWg, by simp⟩), BO, BS, (by rw [List.take_zero, stPlay]; exact RowO.nil), (by rw [List.take_zero, stPlay]; exact RowO.nil), List.nodup_nil, (fun b hb => by cases hb), (by rw [HG.out] at al3; exact al3), Nat.le_refl _⟩
  case round =>
    clear BO BS own0
    obtain ⟨k, Z, cz, xs, B1, m1, d1, B2, m2, d2, f1, f2, hk, rfl, rfl, own, hZ, BO, BS, R1, R2, hN, hF, hB, hz⟩ := hrel
    have hBw : Below w.heap.size w wr := by rw [HG.out]; exact hB
    have hR := h.keep cmK hBw
    have s0 := BS.cell 0 _ rfl
    have s1 := BS.cell 1 _ rfl
    have lg := BO.lt
    have lg1 := BS.lt
    by_cases hlt : k < n
    · obtain ⟨b, off, rfl⟩ := hR.head (by omega)
      obtain ⟨bl, m, C1, q1, e1, hm, hmc, hcr⟩ := cm_el hR hlt
      have HT := Lib.hid (stPlay_take staNew hm)
      have hmB := hb m (List.mem_of_getElem? hm)
      have r0 : wr.cell? ⟨b, off + k * 8, none⟩ = some (.int .i64 m.kd) := hcr 0 _ rfl
      have r1 : wr.cell? ⟨b, off + k * 8 + 1, none⟩ = some (.int .i64 m.cl) := hcr 1 _ rfl
      have r2 : wr.cell? ⟨b, off + k * 8 + 2, none⟩ = some (.int .i64 m.no) := hcr 2 _ rfl
      have r3 : wr.cell? ⟨b, off + k * 8 + 3, none⟩ = some (.string m.s) := hcr 3 _ rfl
      have r4 : wr.cell? ⟨b, off + k * 8 + 4, none⟩ = some (.string m.nm) := hcr 4 _ rfl
      have r5 : wr.cell? ⟨b, off + k * 8 + 5, none⟩ = some (.string m.tg) := hcr 5 _ rfl
      have r6 : wr.cell? ⟨b, off + k * 8 + 6, none⟩ = some (.int .i64 m.n) := hcr 6 _ rfl
      have r7 : wr.cell? ⟨b, off + k * 8 + 7, none⟩ = some (.slice C1 q1 e1) := hcr 7 _ rfl
      have s1_ := s1
      have RR0 : StaBd (stPlay staNew (l.take k)) := stPlay_bd _ staBd_nil
      have hbd := RR0
      have hki : (k : Int) < (n : Int) := by omega
      clear hm hcr
      go_wp2_with fail
      refine wp_region_dagb [18, 19, 20, 21, 22, 23, 17, 24, 25, 7, 8] (by kernel_rfl) (by kernel_rfl) (fun D vs w' => ∃ v18 v19 v20 v21 v22 v23 v17 v24 v25 v7 v8 : Value, vs = [v18, v19, v20, v21, v22, v23, v17, v24, v25, v7, v8] ∧ Below wr.heap.size wr w' ∧ (D 10 = false → ∃ s1 s2 : List Nat, (∀ b ∈ s1, b ∈ s2 → False) ∧ (∀ b ∈ s1 ++ s2, wr.heap.size ≤ b ∧ b < w'.heap.size) ∧ (D 5 = true → ∃ (E1 : Option Addr) (j1 e1_ : Nat) (E2 : Option Addr) (j2 e2_ : Nat) (h1 h2 : List Nat), s1 = h1 ++ h2 ∧ v23 = .tuple #[.agg #[.slice E1 j1 e1_, .slice E2 j2 e2_], .string (stDo (stPlay staNew (l.take k)) m).2] ∧ RowO cstF 165 2 h1 w' E1 j1 e1_ (stDo (stPlay staNew (l.take k)) m).1.cat.sets ∧ RowO saiF 114 3 h2 w' E2 j2 e2_ (stDo (stPlay staNew (l.take k)) m).1.said ∧ (h1 ++ h2).Nodup ∧ (D 6 = true → v17 = .tuple #[.agg #[.slice E1 j1 e1_, .slice E2 j2 e2_], .string (stDo (stPlay staNew (l.take k)) m).2]) ∧ (D 7 = true → v24 = .agg #[.slice E1 j1 e1_, .slice E2 j2 e2_])) ∧ (D 9 = true → ∃ ga : Nat, v7 = .pointer (some ⟨ga, 0, none⟩) ∧ BoxL w' ga [.slice none 0 0, .slice none 0 0] ∧ s2 = [ga])) ∧ (D 0 = true → v18 = .agg #[.slice B1 m1 d1, .slice B2 m2 d2]) ∧ (D 1 = true → v19 = .slice (some ⟨b, off, none⟩) n c) ∧ (D 2 = true → v20 = .int .i64 (k : Int)) ∧ (D 3 = true → v21 = .pointer (some ⟨b, off + k * 8, none⟩)) ∧ (D 4 = true → v22 = .agg #[.int .i64 m.kd, .int .i64 m.cl, .int .i64 m.no, .string m.s, .string m.nm, .string m.tg, .int .i64 m.n, .slice C1 q1 e1]) ∧ (D 5 = true → True) ∧ (D 6 = true → ∃ (E1 : Option Addr) (j1 e1_ : Nat) (E2 : Option Addr) (j2 e2_ : Nat), v17 = .tuple #[.agg #[.slice E1 j1 e1_, .slice E2 j2 e2_], .string (stDo (stPlay staNew (l.take k)) m).2]) ∧ (D 7 = true → True) ∧ (D 8 = true → v25 = .string (stDo (stPlay staNew (l.take k)) m).2) ∧ (D 9 = true → True) ∧ (D 10 = true → ∃ (E1 : Option Addr) (j1 e1_ : Nat) (E2 : Option Addr) (j2 e2_ : Nat) (h1 h2 : List Nat) (ga : Nat), v7 = .pointer (some ⟨ga, 0, none⟩) ∧ BoxL w' ga [.slice E1 j1 e1_, .slice E2 j2 e2_] ∧ RowO cstF 165 2 h1 w' E1 j1 e1_ (stDo (stPlay staNew (l.take k)) m).1.cat.sets ∧ RowO saiF 114 3 h2 w' E2 j2 e2_ (stDo (stPlay staNew (l.take k)) m).1.said ∧ (h1 ++ h2).Nodup ∧ (∀ b ∈ h1 ++ h2, wr.heap.size ≤ b) ∧ wr.heap.size ≤ ga) ∧ (D 11 = true → v8 = .string (stDo (stPlay staNew (l.take k)) m).2))
        ⟨_, _, _, _, _, _, _, _, _, _, _, rfl, (Below.refl _ _).drew, (fun _ => ⟨[], [], (fun _ h => by cases h), (fun _ h => by cases h), (fun h => by cases h), (fun h => by cases h)⟩), (fun h => by cases h), (fun h => by cases h), (fun h => by cases h), (fun h => by cases h), (fun h => by cases h), (fun h => by cases h), (fun h => by cases h), (fun h => by cases h), (fun h => by cases h), (fun h => by cases h), (fun h => by cases h), (fun h => by cases h)⟩ ?_ ?_
      · intro i D vs w' hi hD hdep hcl hI
        have hi' : i < 12 := hi
        obtain ⟨v18, v19, v20, v21, v22, v23, v17, v24, v25, v7, v8, rfl, hb, hJ, k0, k1, k2, k3, k4, k5, k6, k7, k8, k9, k10, k11⟩ := hI
        simp only [putAll, List.setIfInBounds_toArray, List.set_cons_succ, List.set_cons_zero]
        rcases (show i = 0 ∨ i = 1 ∨ i = 2 ∨ i = 3 ∨ i = 4 ∨ i = 5 ∨ i = 6 ∨ i = 7 ∨ i = 8 ∨ i = 9 ∨ i = 10 ∨ i = 11 by omega) with rfl | rfl | rfl | rfl | rfl | rfl | rfl | rfl | rfl | rfl | rfl | rfl
        · have q7 := keep_cell hb s0
          have q8 := keep_cell hb s1_
          refine wpOp_step (by simp only [List.getElem?_toArray, List.getElem?_cons_zero]; rfl) (fun K hK => ?_)
          go_simp
          refine hK _ _ ⟨[.agg #[.slice B1 m1 d1, .slice B2 m2 d2], v19, v20, v21, v22, v23, v17, v24, v25, v7, v8], ?_, _, _, _, _, _, _, _, _, _, _, _, rfl, hb, hJ, (fun _ => rfl), k1, k2, k3, k4, k5, k6, k7, k8, k9, k10, k11⟩
          simp only [putAll, List.setIfInBounds_toArray, List.set_cons_succ, List.set_cons_zero] <;> rfl
        · refine wpOp_step (by simp only [List.getElem?_toArray, List.getElem?_cons_succ, List.getElem?_cons_zero]; rfl) (fun K hK => ?_)
          go_simp
          refine hK _ _ ⟨[v18, .slice (some ⟨b, off, none⟩) n c, v20, v21, v22, v23, v17, v24, v25, v7, v8], ?_, _, _, _, _, _, _, _, _, _, _, _, rfl, hb, hJ, k0, (fun _ => rfl), k2, k3, k4, k5, k6, k7, k8, k9, k10, k11⟩
          simp only [putAll, List.setIfInBounds_toArray, List.set_cons_succ, List.set_cons_zero] <;> rfl
        · refine wpOp_step (by simp only [List.getElem?_toArray, List.getElem?_cons_succ, List.getElem?_cons_zero]; rfl) (fun K hK => ?_)
          go_simp
          refine hK _ _ ⟨[v18, v19, .int .i64 (k : Int), v21, v22, v23, v17, v24, v25, v7, v8], ?_, _, _, _, _, _, _, _, _, _, _, _, rfl, hb, hJ, k0, k1, (fun _ => rfl), k3, k4, k5, k6, k7, k8, k9, k10, k11⟩
          simp only [putAll, List.setIfInBounds_toArray, List.set_cons_succ, List.set_cons_zero] <;> rfl
        · have e1 := k1 (hdep 1 (by kernel_rfl))
          subst e1
          have e2 := k2 (hdep 2 (by kernel_rfl))
          subst e2
          refine wpOp_step (by simp only [List.getElem?_toArray, List.getElem?_cons_succ, List.getElem?_cons_zero]; rfl) (fun K hK => ?_)
          go_simp
          refine hK _ _ ⟨[v18, .slice (some ⟨b, off, none⟩) n c, .int .i64 (k : Int), .pointer (some ⟨b, off + k * 8, none⟩), v22, v23, v17, v24, v25, v7, v8], ?_, _, _, _, _, _, _, _, _, _, _, _, rfl, hb, hJ, k0, (fun _ => rfl), (fun _ => rfl), (fun _ => rfl), k4, k5, k6, k7, k8, k9, k10, k11⟩
          simp only [putAll, List.setIfInBounds_toArray, List.set_cons_succ, List.set_cons_zero] <;> rfl
        · have e3 := k3 (hdep 3 (by kernel_rfl))
          subst e3
          have z0 := keep_cell hb r0
          have z1 := keep_cell hb r1
          have z2 := keep_cell hb r2
          have z3 := keep_cell hb r3
          have z4 := keep_cell hb r4
          have z5 := keep_cell hb r5
          have z6 := keep_cell hb r6
          have z7 := keep_cell hb r7
          refine wpOp_step (by simp only [List.getElem?_toArray, List.getElem?_cons_succ, List.getElem?_cons_zero]; rfl) (fun K hK => ?_)
          go_simp
          refine hK _ _ ⟨[v18, v19, v20, .pointer (some ⟨b, off + k * 8, none⟩), .agg #[.int .i64 m.kd, .int .i64 m.cl, .int .i64 m.no, .string m.s, .string m.nm, .string m.tg, .int .i64 m.n, .slice C1 q1 e1], v23, v17, v24, v25, v7, v8], ?_, _, _, _, _, _, _, _, _, _, _, _, rfl, hb, hJ, k0, k1, k2, (fun _ => rfl), (fun _ => rfl), k5, k6, k7, k8, k9, k10, k11⟩
          simp only [putAll, List.setIfInBounds_toArray, List.set_cons_succ, List.set_cons_zero] <;> rfl
        · have e0 := k0 (hdep 0 (by kernel_rfl))
          subst e0
          have e4 := k4 (hdep 4 (by kernel_rfl))
          subst e4
          have n6 : D 6 = false := Bool.eq_false_iff.2 (fun h => absurd (hcl 6 5 h (by kernel_rfl)) (by rw [hD]; simp))
          have n7 : D 7 = false := Bool.eq_false_iff.2 (fun h => absurd (hcl 6 5 (hcl 7 6 h (by kernel_rfl)) (by kernel_rfl)) (by rw [hD]; simp))
          have n10 : D 10 = false := Bool.eq_false_iff.2 (fun h => absurd (hcl 6 5 (hcl 7 6 (hcl 10 7 h (by kernel_rfl)) (by kernel_rfl)) (by kernel_rfl)) (by rw [hD]; simp))
          obtain ⟨s1, s2, hdj, hlt2, hc, ha⟩ := hJ n10
          have RR := staO_read (R1.keep cstK hb) (R2.keep saiK hb)
          have hdo := staDo_spec (stPlay staNew (l.take k)) m B1 m1 d1 B2 m2 d2 C1 q1 e1 w' RR.1 RR.2 hbd (hmc.keep hb) hmB
          unfold staV cmV at hdo
          refine wpOp_step (by simp only [List.getElem?_toArray, List.getElem?_cons_succ, List.getElem?_cons_zero]; rfl) (fun K hK => ?_)
          go_simp
          refine hdo.mono ?_
          intro e w5_ hout
          obtain ⟨E1, j1, e1_, E2, j2, e2_, h1, h2, rfl, RA, RB, NA, FA, hb5⟩ := hout.out
          have hz5 := hb5.size
          have hzb := hb.size
          have la1 := RA.lt cstK
          have la2 := RB.lt saiK
          have hl5 : ∀ b ∈ h1 ++ h2, w'.heap.size ≤ b ∧ b < w5_.heap.size := fun b hb' => ⟨FA b hb', by rcases List.mem_append.1 hb' with h | h; (exact la1 b h); (exact la2 b h)⟩
          unfold staV
          refine hK _ _ ⟨[.agg #[.slice B1 m1 d1, .slice B2 m2 d2], v19, v20, v21, .agg #[.int .i64 m.kd, .int .i64 m.cl, .int .i64 m.no, .string m.s, .string m.nm, .string m.tg, .int .i64 m.n, .slice C1 q1 e1], .tuple #[.agg #[.slice E1 j1 e1_, .slice E2 j2 e2_], .string (stDo (stPlay staNew (l.take k)) m).2], v17, v24, v25, v7, v8], ?_, _, _, _, _, _, _, _, _, _, _, _, rfl, (bthen hb hb5), (fun _ => ⟨h1 ++ h2, s2, (fun b a1 a2 => by have h3 := hl5 b a1; have h4 := hlt2 b (List.mem_append_right _ a2); omega), (fun b hb' => by rcases List.mem_append.1 hb' with h | h; (have h3 := hl5 b h; exact ⟨by omega, h3.2⟩); (have h3 := hlt2 b (List.mem_append_right _ h); exact ⟨h3.1, by omega⟩)), (fun _ => ⟨E1, j1, e1_, E2, j2, e2_, h1, h2, rfl, rfl, RA, RB, NA, (fun h => by rw [show D 6 = true from by simpa using h] at n6; cases n6), (fun h => by rw [show D 7 = true from by simpa using h] at n7; cases n7)⟩), (fun a1 => by obtain ⟨ga, e1, X, e2⟩ := ha a1; exact ⟨ga, e1, X.keep hb5, e2⟩)⟩), (fun _ => rfl), k1, k2, k3, (fun _ => rfl), (fun _ => trivial), (fun h => by rw [show D 6 = true from by simpa using h] at n6; cases n6), k7, k8, k9, (fun h => by rw [show D 10 = true from by simpa using h] at n10; cases n10), k11⟩
          simp only [putAll, List.setIfInBounds_toArray, List.set_cons_succ, List.set_cons_zero] <;> rfl
        · obtain - := k5 (hdep 5 (by kernel_rfl))
          have n10 : D 10 = false := Bool.eq_false_iff.2 (fun h => absurd (hcl 7 6 (hcl 10 7 h (by kernel_rfl)) (by kernel_rfl)) (by rw [hD]; simp))
          obtain ⟨s1, s2, hdj, hlt2, hc, ha⟩ := hJ n10
          obtain ⟨E1, j1, e1_, E2, j2, e2_, h1, h2, es, rfl, RA, RB, NA, h6, h7⟩ := hc (hdep 5 (by kernel_rfl))
          refine wpOp_step (by simp only [List.getElem?_toArray, List.getElem?_cons_succ, List.getElem?_cons_zero]; rfl) (fun K hK => ?_)
          go_simp
          refine hK _ _ ⟨[v18, v19, v20, v21, v22, .tuple #[.agg #[.slice E1 j1 e1_, .slice E2 j2 e2_], .string (stDo (stPlay staNew (l.take k)) m).2], .tuple #[.agg #[.slice E1 j1 e1_, .slice E2 j2 e2_], .string (stDo (stPlay staNew (l.take k)) m).2], v24, v25, v7, v8], ?_, _, _, _, _, _, _, _, _, _, _, _, rfl, hb, (fun _ => ⟨s1, s2, hdj, hlt2, (fun _ => ⟨E1, j1, e1_, E2, j2, e2_, h1, h2, es, rfl, RA, RB, NA, (fun _ => rfl), h7⟩), ha⟩), k0, k1, k2, k3, k4, (fun _ => trivial), (fun _ => ⟨E1, j1, e1_, E2, j2, e2_, rfl⟩), k7, k8, k9, k10, k11⟩
          simp only [putAll, List.setIfInBounds_toArray, List.set_cons_succ, List.set_cons_zero] <;> rfl
        · have n10 : D 10 = false := Bool.eq_false_iff.2 (fun h => absurd (hcl 10 7 h (by kernel_rfl)) (by rw [hD]; simp))
          obtain ⟨s1, s2, hdj, hlt2, hc, ha⟩ := hJ n10
          have d6 : D 6 = true := hdep 6 (by kernel_rfl)
          have d5 : D 5 = true := hcl 6 5 d6 (by kernel_rfl)
          obtain ⟨E1, j1, e1_, E2, j2, e2_, h1, h2, es, rfl, RA, RB, NA, h6, h7⟩ := hc d5
          obtain rfl := h6 d6
          refine wpOp_step (by simp only [List.getElem?_toArray, List.getElem?_cons_succ, List.getElem?_cons_zero]; rfl) (fun K hK => ?_)
          go_simp
          refine hK _ _ ⟨[v18, v19, v20, v21, v22, .tuple #[.agg #[.slice E1 j1 e1_, .slice E2 j2 e2_], .string (stDo (stPlay staNew (l.take k)) m).2], .tuple #[.agg #[.slice E1 j1 e1_, .slice E2 j2 e2_], .string (stDo (stPlay staNew (l.take k)) m).2], .agg #[.slice E1 j1 e1_, .slice E2 j2 e2_], v25, v7, v8], ?_, _, _, _, _, _, _, _, _, _, _, _, rfl, hb, (fun _ => ⟨s1, s2, hdj, hlt2, (fun _ => ⟨E1, j1, e1_, E2, j2, e2_, h1, h2, es, rfl, RA, RB, NA, (fun _ => rfl), (fun _ => rfl)⟩), ha⟩), k0, k1, k2, k3, k4, k5, (fun _ => ⟨E1, j1, e1_, E2, j2, e2_, rfl⟩), (fun _ => trivial), k8, k9, k10, k11⟩
          simp only [putAll, List.setIfInBounds_toArray, List.set_cons_succ, List.set_cons_zero] <;> rfl
        · obtain ⟨E1, j1, e1_, E2, j2, e2_, rfl⟩ := k6 (hdep 6 (by kernel_rfl))
          refine wpOp_step (by simp only [List.getElem?_toArray, List.getElem?_cons_succ, List.getElem?_cons_zero]; rfl) (fun K hK => ?_)
          go_simp
          refine hK _ _ ⟨[v18, v19, v20, v21, v22, v23, .tuple #[.agg #[.slice E1 j1 e1_, .slice E2 j2 e2_], .string (stDo (stPlay staNew (l.take k)) m).2], v24, .string (stDo (stPlay staNew (l.take k)) m).2, v7, v8], ?_, _, _, _, _, _, _, _, _, _, _, _, rfl, hb, hJ, k0, k1, k2, k3, k4, k5, (fun _ => ⟨E1, j1, e1_, E2, j2, e2_, rfl⟩), k7, (fun _ => rfl), k9, k10, k11⟩
          simp only [putAll, List.setIfInBounds_toArray, List.set_cons_succ, List.set_cons_zero] <;> rfl
        · have n10 : D 10 = false := Bool.eq_false_iff.2 (fun h => absurd (hcl 10 9 h (by kernel_rfl)) (by rw [hD]; simp))
          obtain ⟨s1, s2, hdj, hlt2, hc, ha⟩ := hJ n10
          have hal := (Below.refl w'.heap.size w').alloc (Nat.le_refl _) (.cells #[.slice none 0 0, .slice none 0 0] 30)
          have hzl : (w'.alloc (.cells #[.slice none 0 0, .slice none 0 0] 30)).heap.size = w'.heap.size + 1 := Array.size_push _
          have hzb := hb.size
          refine wpOp_step (by simp only [List.getElem?_toArray, List.getElem?_cons_succ, List.getElem?_cons_zero]; rfl) (fun K hK => ?_)
          go_simp
          refine hK _ _ ⟨[v18, v19, v20, v21, v22, v23, v17, v24, v25, .pointer (some ⟨w'.heap.size, 0, none⟩), v8], ?_, _, _, _, _, _, _, _, _, _, _, _, rfl, (bthen hb hal), (fun _ => ⟨s1, [w'.heap.size], (fun b a1 a2 => by have h3 := hlt2 b (List.mem_append_left _ a1); have h4 := List.mem_singleton.1 a2; omega), (fun b hb' => by rcases List.mem_append.1 hb' with h | h; (have h3 := hlt2 b (List.mem_append_left _ h); exact ⟨h3.1, by omega⟩); (have h4 := List.mem_singleton.1 h; exact ⟨by omega, by omega⟩)), (fun a1 => by obtain ⟨E1, j1, e1_, E2, j2, e2_, h1, h2, es, e1, RA, RB, NA, h6, h7⟩ := hc a1; exact ⟨E1, j1, e1_, E2, j2, e2_, h1, h2, es, e1, RA.keep cstK hal, RB.keep saiK hal, NA, h6, h7⟩), (fun _ => ⟨w'.heap.size, rfl, BoxL.new w' [.slice none 0 0, .slice none 0 0] 30, rfl⟩)⟩), k0, k1, k2, k3, k4, k5, k6, k7, k8, (fun _ => trivial), (fun h => by rw [show D 10 = true from by simpa using h] at n10; cases n10), k11⟩
          simp only [putAll, List.setIfInBounds_toArray, List.set_cons_succ, List.set_cons_zero] <;> rfl
        · obtain ⟨s1, s2, hdj, hlt2, hc, ha⟩ := hJ hD
          have d7 : D 7 = true := hdep 7 (by kernel_rfl)
          have d9 : D 9 = true := hdep 9 (by kernel_rfl)
          have d6 : D 6 = true := hcl 7 6 d7 (by kernel_rfl)
          have d5 : D 5 = true := hcl 6 5 d6 (by kernel_rfl)
          obtain ⟨E1, j1, e1_, E2, j2, e2_, h1, h2, rfl, rfl, RA, RB, NA, h6, h7⟩ := hc d5
          obtain rfl := h6 d6
          obtain rfl := h7 d7
          obtain ⟨ga, rfl, X, rfl⟩ := ha d9
          have hga := hlt2 ga (by simp)
          have hne : ∀ b ∈ h1 ++ h2, ¬ b = ga := fun b hb' e => hdj b hb' (by rw [e]; simp)
          have o7 := X.cell 0 _ rfl
          have o8 := X.cell 1 _ rfl
          have y7 := X.fz 0 (by simp)
          have y8 := X.fz 1 (by simp)
          have X2 := X.setCells (vs := [.slice E1 j1 e1_, .slice E2 j2 e2_]) rfl
          have one := ch_setCells (g := ga) [.slice E1 j1 e1_, .slice E2 j2 e2_] 0 w'
          refine wpOp_step (by simp only [List.getElem?_toArray, List.getElem?_cons_succ, List.getElem?_cons_zero]; rfl) (fun K hK => ?_)
          go_simp
          refine hK _ _ ⟨[v18, v19, v20, v21, v22, .tuple #[.agg #[.slice E1 j1 e1_, .slice E2 j2 e2_], .string (stDo (stPlay staNew (l.take k)) m).2], .tuple #[.agg #[.slice E1 j1 e1_, .slice E2 j2 e2_], .string (stDo (stPlay staNew (l.take k)) m).2], .agg #[.slice E1 j1 e1_, .slice E2 j2 e2_], v25, .pointer (some ⟨ga, 0, none⟩), v8], ?_, _, _, _, _, _, _, _, _, _, _, _, rfl, (one.belowB hb hb.size (fun b hb' => by have hb' : b = ga := hb'; omega)), (fun h => absurd h (by simp)), k0, k1, k2, k3, k4, k5, (fun _ => ⟨E1, j1, e1_, E2, j2, e2_, rfl⟩), k7, k8, k9, (fun _ => ⟨E1, j1, e1_, E2, j2, e2_, h1, h2, ga, rfl, X2, RA.ch cstK one (fun b hb' => hne b (List.mem_append_left _ hb')), RB.ch saiK one (fun b hb' => hne b (List.mem_append_right _ hb')), NA, (fun b hb' => (hlt2 b (List.mem_append_left _ hb')).1), hga.1⟩), k11⟩
          simp only [putAll, List.setIfInBounds_toArray, List.set_cons_succ, List.set_cons_zero] <;> rfl
        · have e8 := k8 (hdep 8 (by kernel_rfl))
          subst e8
          refine wpOp_step (by simp only [List.getElem?_toArray, List.getElem?_cons_succ, List.getElem?_cons_zero]; rfl) (fun K hK => ?_)
          go_simp
          refine hK _ _ ⟨[v18, v19, v20, v21, v22, v23, v17, v24, .string (stDo (stPlay staNew (l.take k)) m).2, v7, .string (stDo (stPlay staNew (l.take k)) m).2], ?_, _, _, _, _, _, _, _, _, _, _, _, rfl, hb, hJ, k0, k1, k2, k3, k4, k5, k6, k7, (fun _ => rfl), k9, k10, (fun _ => rfl)⟩
          simp only [putAll, List.setIfInBounds_toArray, List.set_cons_succ, List.set_cons_zero] <;> rfl
      · intro D vs w' hD hI
        obtain ⟨v18, v19, v20, v21, v22, v23, v17, v24, v25, v7, v8, rfl, hb, hJ, k0, k1, k2, k3, k4, k5, k6, k7, k8, k9, k10, k11⟩ := hI
        simp only [putAll, List.setIfInBounds_toArray, List.set_cons_succ, List.set_cons_zero]
        have h8 := k11 (hD 11 (show 11 < 12 by decide))
        subst h8
        obtain ⟨E1, j1, k1, E2, j2, k2, h1', h2', ga, rfl, XG, R1', R2', N', F', hga⟩ := k10 (hD 10 (show 10 < 12 by decide))
        obtain ⟨w5, hw5⟩ := Below.nam hb; subst hw5
        have hb6 := hb
        have hz5 := hb6.size
        clear r0 r1 r2 r3 r4 r5 r6 r7 s0 s1 s1_ hJ
        have BO5 := BO.keep hb6; have BS5 := BS.keep hb6
        have own5 := own_chL own (Ch.of_below (S := fun _ => False) hb6) (fun _ _ h => h)
        have hB5 : Below g w w5 := hB.trans (hb6.mono (show g ≤ wr.heap.size by omega))
        have hZ5 : ∀ b ∈ blkL Z, g + 1 < b ∧ b < w5.heap.size ∧ b ∉ h1' ++ h2' := fun b hb => by have h5 := hZ b hb; exact ⟨h5.1, by omega, fun h6 => by have h7 := F' b h6; omega⟩
        have FF : ∀ b ∈ h1' ++ h2', g + 1 < b := fun b hb => by have h5 := F' b hb; omega
        clear own hZ BO BS R1 R2 hN hF hB hR hb hb6 F' hmc
        have cs := ch_setCells (g := g + 1) [.slice E1 j1 k1, .slice E2 j2 k2] 0 w5
        have hne : ∀ b ∈ h1' ++ h2', ¬ b = g + 1 := fun b hb => by have h5 := FF b hb; omega
        have BO6 := BO5.ch cs (by omega)
        have BS6 := BS5.setCells (vs := [.slice E1 j1 k1, .slice E2 j2 k2]) rfl
        have R16 := R1'.ch cstK cs (fun b hb => hne b (List.mem_append_left _ hb))
        have R26 := R2'.ch saiK cs (fun b hb => hne b (List.mem_append_right _ hb))
        have own6 : ((w5.setCell ⟨g + 1, 0, none⟩ (.slice E1 j1 k1)).setCell ⟨g + 1, 1, none⟩ (.slice E2 j2 k2)).ownsRow 0 9 1 (.slice Z k cz) k xs :=
          own_chL own5 cs (fun b hb e => by have h5 := hZ5 b hb; have e : b = g + 1 := e; omega)
        have hB6 : Below g w _ := cs.belowB hB5 (by omega) (fun b hb => by have hb : b = g + 1 := hb; omega)
        have hzs := cs.size
        have s0 := BS5.cell 0 _ rfl
        have s1 := BS5.cell 1 _ rfl
        have sf := BS5.fz 0 (by simp)
        have sg := BS5.fz 1 (by simp)
        have g0 := XG.cell 0 _ rfl
        have g1 := XG.cell 1 _ rfl
        have gl := XG.lt
        have lg := BS5.lt
        clear bl
        go_wp2_with (first | (at_builtin; refine wpList_app1g (P := Tryz.prog) _ rfl (.tmp 27) (.tmp 29) 46 rfl 0 9 _ 1 16 Tryz.underlying46 txtInfo rfl (by omega) (.slice Z k cz) _ _ rfl own6 _ _ rfl (by simp) rfl (by simp [Value.oneCell']) (by unfold maxLen; omega) (by omega) (Nat.zero_le _) ?_; intro Z' cz' w7 own7 hg7 hb7 hob7; refine stop_of ?_) | fail)
        unfold Stop
        have C7 : Ch (fun b => b ∈ blkL Z) _ w7 := (Ch.of_grow hg7).mono (fun b hb => mem_blkL.2 (blk_of hb))
        have hz7 := C7.size
        have BO7 := BO6.ch C7 (fun h6 => by have h5 := hZ5 _ h6; omega)
        have BS7 := BS6.ch C7 (fun h6 => by have h5 := hZ5 _ h6; omega)
        have R17 := R16.ch cstK C7 (fun b hb h6 => (hZ5 b h6).2.2 (List.mem_append_left _ hb))
        have R27 := R26.ch saiK C7 (fun b hb h6 => (hZ5 b h6).2.2 (List.mem_append_right _ hb))
        have hza' : w5.heap.size ≤ ((w5.setCell ⟨g + 1, 0, none⟩ (.slice E1 j1 k1)).setCell ⟨g + 1, 1, none⟩ (.slice E2 j2 k2)).heap.size := hzs
        have hbk := blk_or hob7
        have hB7 : Below g w w7 := C7.belowB hB6 (by omega) (fun b hb => by have h5 := hZ5 b hb; omega)
        have hl1 := R1'.lt cstK
        have hl2 := R2'.lt saiK
        have hZ7 : ∀ b ∈ blkL Z', g + 1 < b ∧ b < w7.heap.size ∧ b ∉ h1' ++ h2' := fun b hb => by
          have h6 := (own_lo own7 b hb).2
          rcases hbk b hb with h7 | h7
          · have h5 := hZ5 b h7; exact ⟨h5.1, h6, h5.2.2⟩
          · refine ⟨by omega, h6, fun h8 => ?_⟩
            rcases List.mem_append.1 h8 with h9 | h9
            · have := hl1 b h9; omega
            · have := hl2 b h9; omega
        rw [← HT.out] at R17 R27
        clear s0 s1 sf sg g0 g1 gl lg lg1 own5 own6 BO5 BS5 BO6 BS6 R16 R26 R1' R2' C7 hg7 hb7 hob7 hbk hl1 hl2
        go_wp2
        exact ⟨⟨k + 1, Z', cz', _, E1, j1, k1, E2, j2, k2, h1', h2', by omega, by go_num, rfl, own7, hZ7, BO7, BS7, R17, R27, N', FF, hB7, by omega⟩, by simp [intOf]; omega⟩
    · have hkn : k = n := by omega
      subst hkn
      have e1 : l.take k = l := by rw [List.take_of_length_le (by have := HL.out; omega)]
      rw [e1] at R1 R2
      have o0 := BO.cell 0 _ rfl
      have o1 := BO.cell 1 _ rfl
      have of := BO.fz 0 (by simp)
      have og := BO.fz 1 (by simp)
      have hWr := (BO.setCells (vs := [.slice B1 m1 d1, .slice B2 m2 d2]) rfl).range
      go_wp2
      refine bodyPost_ret (results_cell_tmp Tryz.results34 rfl hWr Tryz.underlying30 rfl sizeState0) rfl ?_
      exact play_out (g := g) (p := g) R1 R2 hN (fun b hb => by have h5 := hF b hb; omega) hB HG.out (Nat.le_refl _) lg
end Go.Proofs.YtdphdnllhmnelaaGreat
