/- Contracts and lemmas: CopySta, InsSaid, SaiRow. -/
import Derived.Test.YtdphdnllhmnelaaJ29
import Derived.Test.YtdphdnllhmnelaaJ32
import Derived.Test.YtdphdnllhmnelaaJ23
import Derived.Test.YtdphdnllhmnelaaJ27
/- The copies of a state: both sides. -/
namespace Go.Proofs.Ytdphdnllhmnelaa
open Go.RowKit
attribute [local go_sem] Grow.cell Grow.frozen
theorem saidInfo : (Try.prog.info? 153).map (fun i => (i.zero, i.size, i.bytes)) = some (some (.agg #[.int .i64 0, .int .i64 0, .string ByteArray.empty]), 3, 32) := by kernel_rfl
theorem sizeState0 : (Try.prog.info? 87).map (·.size) = some 2 := by kernel_rfl
/-- said, owned -/
theorem saiO_of {w : World} {n c : Nat} {A : Option Addr} {css : List (List Value)} {l : List Sai} (ho : w.ownsRow 0 153 3 (.slice A n c) n css.flatten) (hl : n = l.length) (hE : ElsR saiR w css l) : RowO saiF 153 3 (blkL A) w A n c l := by
  have h := RowO.intro (F := saiF) (sz := 3) ho hl (hE.els (fun cs x h => ⟨h, rfl⟩))
  rw [flat_nils, List.append_nil] at h
  exact h
theorem sai_still {w w' : World} {css : List (List Value)} {l : List Sai} (h : ElsR saiR w css l) : ElsR saiR w' css l := h
theorem RowR.nc {α : Type} {R : World → List Value → α → Prop} {sz n c : Nat} {w : World} {A : Option Addr} {l : List α} (h : RowR R sz w A n c l) : A = none → c = 0 := h.2
theorem blk_at {A : Option Addr} {n c m : Nat} (h : (Value.slice A n c).ownBlock = none ∨ (Value.slice A n c).ownBlock = some m) : ∀ b ∈ blkL A, b = m := fun b hb => by
  have h1 := blk_own (n := n) (c := c) (mem_blkL.1 hb)
  rcases h with h | h
  · rw [h] at h1; cases h1
  · rw [h] at h1; exact (Option.some.inj h1).symm
theorem below_nil {w w' : World} (h : w.grownBy w' (Value.slice none 0 0).ownBlock) : Below w.heap.size w w' := (Below.refl _ _).grown h (Nat.le_refl _) (fun k hk => by cases hk)
attribute [local irreducible] RowR RowO ElsR
set_option maxRecDepth 8000 in
set_option maxHeartbeats 8000000 in
theorem copySta_impl (x : Sta) (A1 : Option Addr) (n1 c1 : Nat) (A2 : Option Addr) (n2 c2 : Nat) (w : World) (h1 : RowR cstR 2 w A1 n1 c1 x.cat.sets) (h2 : RowR saiR 3 w A2 n2 c2 x.said) (hW : ctlW x.cat) (hn : n2 ≤ 1000) :
    Calls Try.prog 171 #[staV x (.slice A1 n1 c1) (.slice A2 n2 c2)] w fun e w' => ∃ B1 m1 d1 B2 m2 d2 f1 f2, e = .returned (staV x (.slice B1 m1 d1) (.slice B2 m2 d2)) ∧ RowO cstF 148 2 f1 w' B1 m1 d1 x.cat.sets ∧ RowO saiF 153 3 f2 w' B2 m2 d2 x.said ∧ (f1 ++ f2).Nodup ∧ (∀ b ∈ f1 ++ f2, w.heap.size ≤ b ∧ b < w'.heap.size) ∧ Below w.heap.size w w' := by
  have HL := Lib.hid h2.len
  have al1 := (Below.refl w.heap.size w).alloc (Nat.le_refl _) (.cells #[.slice A1 n1 c1, .slice A2 n2 c2] 87)
  have al2 := al1.alloc al1.size (.cells #[.slice none 0 0, .slice none 0 0] 87)
  have BX := (BoxL.new w [.slice A1 n1 c1, .slice A2 n2 c2] 87).keep ((Below.refl _ _).alloc (Nat.le_refl _) (.cells #[.slice none 0 0, .slice none 0 0] 87))
  have BO := BoxL.new (w.alloc (.cells #[.slice A1 n1 c1, .slice A2 n2 c2] 87)) [.slice none 0 0, .slice none 0 0] 87
  have hz1 : (w.alloc (.cells #[.slice A1 n1 c1, .slice A2 n2 c2] 87)).heap.size = w.heap.size + 1 := Array.size_push _
  unfold staV
  go_enter Try.func171, Try.ntmps171
  go_wp2_with fail
  obtain ⟨W, hWW⟩ : ∃ W, W = (w.alloc (.cells #[.slice A1 n1 c1, .slice A2 n2 c2] 87)).alloc (.cells #[.slice none 0 0, .slice none 0 0] 87) := ⟨_, rfl⟩
  obtain ⟨g, hg⟩ : ∃ g, w.heap.size = g := ⟨_, rfl⟩
  rw [hz1] at BO
  have HG := Lib.hid hg
  rw [← hWW] at al2 BX BO ⊢
  simp only [hg] at BX BO ⊢
  clear hWW hg al1 hz1
  have hR := h1.keep cstK al2
  have hS := h2.keep saiK al2
  obtain ⟨css, hCA, hEA⟩ := hS.cells saiK (by omega)
  have hnil : A2 = none → c2 = 0 := hS.nc
  have hgl := BX.lt
  have hgo := BO.lt
  refine wp_region_dagb [3, 4, 5, 6, 7, 8, 9] (by kernel_rfl) (by kernel_rfl) (fun D vs w' => ∃ v3 v4 v5 v6 v7 v8 v9 : Value, vs = [v3, v4, v5, v6, v7, v8, v9] ∧ (D 7 = false → Below W.heap.size W w') ∧ (D 7 = false → BoxL w' g [.slice A1 n1 c1, .slice A2 n2 c2]) ∧ (D 7 = false → BoxL w' (g + 1) [.slice none 0 0, .slice none 0 0]) ∧ (D 6 = false → ∃ s1 s2 : List Nat, (∀ b ∈ s1, b ∈ s2 → False) ∧ (∀ b ∈ s1 ++ s2, W.heap.size ≤ b ∧ b < w'.heap.size) ∧ (D 2 = true → D 6 = false → ∃ (B1 : Option Addr) (m1 d1 : Nat), v5 = .agg #[.slice B1 m1 d1] ∧ RowO cstF 148 2 s1 w' B1 m1 d1 x.cat.sets ∧ s1.Nodup) ∧ (D 5 = true → D 6 = false → ∃ (B2 : Option Addr) (d2 : Nat), v8 = .slice B2 n2 d2 ∧ w'.ownsRow 0 153 3 (.slice B2 n2 d2) n2 css.flatten ∧ s2 = blkL B2)) ∧ (D 0 = true → v3 = .pointer (some ⟨g, 0, none⟩)) ∧ (D 1 = true → v4 = .agg #[.slice A1 n1 c1]) ∧ (D 2 = true → True) ∧ (D 3 = true → v6 = .pointer (some ⟨g, 1, none⟩)) ∧ (D 4 = true → v7 = .slice A2 n2 c2) ∧ (D 5 = true → True) ∧ (D 6 = true → (D 7 = false → ∃ (B1 : Option Addr) (m1 d1 : Nat) (B2 : Option Addr) (d2 : Nat) (f1 f2 : List Nat), v9 = .agg #[.slice B1 m1 d1, .slice B2 n2 d2] ∧ RowO cstF 148 2 f1 w' B1 m1 d1 x.cat.sets ∧ RowO saiF 153 3 f2 w' B2 n2 d2 x.said ∧ (f1 ++ f2).Nodup ∧ (∀ b ∈ f1 ++ f2, W.heap.size ≤ b ∧ b < w'.heap.size))) ∧ (D 7 = true → ∃ (w1 : World) (B1 : Option Addr) (m1 d1 : Nat) (B2 : Option Addr) (d2 : Nat) (f1 f2 : List Nat), Below W.heap.size W w1 ∧ BoxL w1 (g + 1) [.slice none 0 0, .slice none 0 0] ∧ w' = w1.setCells (g + 1) 0 [.slice B1 m1 d1, .slice B2 n2 d2] ∧ RowO cstF 148 2 f1 w1 B1 m1 d1 x.cat.sets ∧ RowO saiF 153 3 f2 w1 B2 n2 d2 x.said ∧ (f1 ++ f2).Nodup ∧ (∀ b ∈ f1 ++ f2, W.heap.size ≤ b ∧ b < w1.heap.size)))
    ⟨_, _, _, _, _, _, _, rfl, (fun _ => (Below.refl _ _).drew), (fun _ => BX.keep (Below.refl _ _).drew), (fun _ => BO.keep (Below.refl _ _).drew), (fun _ => ⟨[], [], (fun _ h => by cases h), (fun _ h => by cases h), (fun h => by cases h), (fun h => by cases h)⟩), (fun h => by cases h), (fun h => by cases h), (fun h => by cases h), (fun h => by cases h), (fun h => by cases h), (fun h => by cases h), (fun h => by cases h), (fun h => by cases h)⟩ ?_ ?_
  · intro i D vs w' hi hD hdep hcl hI
    have hi' : i < 8 := hi
    obtain ⟨v3, v4, v5, v6, v7, v8, v9, rfl, hb, hX, hO, hJ, k0, k1, k2, k3, k4, k5, k6, k7⟩ := hI
    simp only [putAll, List.setIfInBounds_toArray, List.set_cons_succ, List.set_cons_zero]
    rcases (show i = 0 ∨ i = 1 ∨ i = 2 ∨ i = 3 ∨ i = 4 ∨ i = 5 ∨ i = 6 ∨ i = 7 by omega) with rfl | rfl | rfl | rfl | rfl | rfl | rfl | rfl
    · refine wpOp_step (by simp only [List.getElem?_toArray, List.getElem?_cons_zero]; rfl) (fun K hK => ?_)
      go_simp
      refine hK _ _ ⟨[.pointer (some ⟨g, 0, none⟩), v4, v5, v6, v7, v8, v9], ?_, _, _, _, _, _, _, _, rfl, hb, hX, hO, hJ, (fun _ => rfl), k1, k2, k3, k4, k5, k6, k7⟩
      simp only [putAll, List.setIfInBounds_toArray, List.set_cons_succ, List.set_cons_zero] <;> rfl
    · have e0 := k0 (hdep 0 (by kernel_rfl))
      subst e0
      have n7 : D 7 = false := Bool.eq_false_iff.2 (fun h => absurd (hcl 2 1 (hcl 6 2 (hcl 7 6 h (by kernel_rfl)) (by kernel_rfl)) (by kernel_rfl)) (by rw [hD]; simp))
      have q7 := (hX n7).cell 0 _ rfl
      refine wpOp_step (by simp only [List.getElem?_toArray, List.getElem?_cons_succ, List.getElem?_cons_zero]; rfl) (fun K hK => ?_)
      go_simp
      refine hK _ _ ⟨[.pointer (some ⟨g, 0, none⟩), .agg #[.slice A1 n1 c1], v5, v6, v7, v8, v9], ?_, _, _, _, _, _, _, _, rfl, hb, hX, hO, hJ, (fun _ => rfl), (fun _ => rfl), k2, k3, k4, k5, k6, k7⟩
      simp only [putAll, List.setIfInBounds_toArray, List.set_cons_succ, List.set_cons_zero] <;> rfl
    · have e1 := k1 (hdep 1 (by kernel_rfl))
      subst e1
      have n6 : D 6 = false := Bool.eq_false_iff.2 (fun h => absurd (hcl 6 2 h (by kernel_rfl)) (by rw [hD]; simp))
      have n7 : D 7 = false := Bool.eq_false_iff.2 (fun h => absurd (hcl 6 2 (hcl 7 6 h (by kernel_rfl)) (by kernel_rfl)) (by rw [hD]; simp))
      obtain ⟨s1, s2, hdj, hlt, hc, ha⟩ := hJ n6
      have hcc := copyCat_impl x.cat A1 n1 c1 w' (hR.keep cstK (hb n7)) hW
      unfold ctlV at hcc
      refine wpOp_step (by simp only [List.getElem?_toArray, List.getElem?_cons_succ, List.getElem?_cons_zero]; rfl) (fun K hK => ?_)
      go_simp
      refine hcc.mono ?_
      rintro e w4_ ⟨⟨B1, m1, d1, f1, rfl, R1, N1, F1⟩, hb4⟩
      refine hK _ _ ⟨[v3, .agg #[.slice A1 n1 c1], .agg #[.slice B1 m1 d1], v6, v7, v8, v9], ?_, _, _, _, _, _, _, _, rfl, (fun h' => bthen (hb h') hb4), (fun h' => (hX h').keep hb4), (fun h' => (hO h').keep hb4), (fun _ => ⟨f1, s2, (fun b a1 a2 => by have h3 := F1 b a1; have h4 := hlt b (List.mem_append_right _ a2); omega), (fun b hb' => by rcases List.mem_append.1 hb' with h | h; (have h3 := F1 b h; have h4 := (hb n7).size; exact ⟨by omega, h3.2⟩); (exact (by have h3 := hlt b (List.mem_append_right _ h); exact ⟨h3.1, Nat.lt_of_lt_of_le h3.2 hb4.size⟩))), (fun _ _ => ⟨B1, m1, d1, rfl, R1, N1⟩), (fun a1 a2 => by obtain ⟨B2, d2, e2, O2, E2⟩ := ha a1 a2; exact ⟨B2, d2, e2, own_chL O2 (Ch.of_below (S := fun _ => False) hb4) (fun _ _ h => h), E2⟩)⟩), k0, (fun _ => rfl), (fun _ => trivial), k3, k4, k5, (fun h => by rw [show D 6 = true from by simpa using h] at n6; cases n6), (fun h => by rw [show D 7 = true from by simpa using h] at n7; cases n7)⟩
      simp only [putAll, List.setIfInBounds_toArray, List.set_cons_succ, List.set_cons_zero] <;> rfl
    · refine wpOp_step (by simp only [List.getElem?_toArray, List.getElem?_cons_succ, List.getElem?_cons_zero]; rfl) (fun K hK => ?_)
      go_simp
      refine hK _ _ ⟨[v3, v4, v5, .pointer (some ⟨g, 1, none⟩), v7, v8, v9], ?_, _, _, _, _, _, _, _, rfl, hb, hX, hO, hJ, k0, k1, k2, (fun _ => rfl), k4, k5, k6, k7⟩
      simp only [putAll, List.setIfInBounds_toArray, List.set_cons_succ, List.set_cons_zero] <;> rfl
    · have e3 := k3 (hdep 3 (by kernel_rfl))
      subst e3
      have n7 : D 7 = false := Bool.eq_false_iff.2 (fun h => absurd (hcl 5 4 (hcl 6 5 (hcl 7 6 h (by kernel_rfl)) (by kernel_rfl)) (by kernel_rfl)) (by rw [hD]; simp))
      have q7 := (hX n7).cell 1 _ rfl
      refine wpOp_step (by simp only [List.getElem?_toArray, List.getElem?_cons_succ, List.getElem?_cons_zero]; rfl) (fun K hK => ?_)
      go_simp
      refine hK _ _ ⟨[v3, v4, v5, .pointer (some ⟨g, 1, none⟩), .slice A2 n2 c2, v8, v9], ?_, _, _, _, _, _, _, _, rfl, hb, hX, hO, hJ, k0, k1, k2, (fun _ => rfl), (fun _ => rfl), k5, k6, k7⟩
      simp only [putAll, List.setIfInBounds_toArray, List.set_cons_succ, List.set_cons_zero] <;> rfl
    · have e4 := k4 (hdep 4 (by kernel_rfl))
      subst e4
      have n6 : D 6 = false := Bool.eq_false_iff.2 (fun h => absurd (hcl 6 5 h (by kernel_rfl)) (by rw [hD]; simp))
      have n7 : D 7 = false := Bool.eq_false_iff.2 (fun h => absurd (hcl 6 5 (hcl 7 6 h (by kernel_rfl)) (by kernel_rfl)) (by rw [hD]; simp))
      obtain ⟨s1, s2, hdj, hlt, hc, ha⟩ := hJ n6
      refine wpOp_step (by simp only [List.getElem?_toArray, List.getElem?_cons_succ, List.getElem?_cons_zero]; rfl) (fun K hK => ?_)
      refine step_app (by rfl) (.const (.slice none 0 0)) (.tmp 7) 85 (by rfl) 0 153 _ 3 32 Try.underlying85 saidInfo rfl (by omega) (.slice none 0 0) 0 [] (by rfl) (World.ownsRow_nil _ 0 _ 3) A2 n2 c2 css.flatten (by rfl) (hCA.keep (hb n7)) (hEA.ones saiK) hnil (by unfold maxLen; omega) (by omega) (Nat.zero_le _) ?_
      intro B2 d2 wq2 own5 hg5 hb5 hob5
      rw [List.nil_append] at own5
      simp only [Nat.zero_add] at own5 hob5 ⊢
      have hch5 : Below w'.heap.size w' wq2 := below_nil hg5
      have hbk := blk_at hob5
      refine hK _ _ ⟨[v3, v4, v5, v6, .slice A2 n2 c2, .slice B2 n2 d2, v9], ?_, _, _, _, _, _, _, _, rfl, (fun h' => bthen (hb h') hch5), (fun h' => (hX h').keep hch5), (fun h' => (hO h').keep hch5), (fun _ => ⟨s1, blkL B2, (fun b a1 a2 => by have h3 := hlt b (List.mem_append_left _ a1); have h4 := hbk b a2; omega), (fun b hb' => by rcases List.mem_append.1 hb' with h | h; (exact (by have h3 := hlt b (List.mem_append_left _ h); exact ⟨h3.1, Nat.lt_of_lt_of_le h3.2 hch5.size⟩)); (have h3 := hbk b h; have h4 := (own_lo own5 b h).2; have h5 := (hb n7).size; exact ⟨by omega, h4⟩)), (fun a1 a2 => by obtain ⟨B1, m1, d1, e1, R1, N1⟩ := hc a1 a2; exact ⟨B1, m1, d1, e1, R1.keep cstK hch5, N1⟩), (fun _ _ => ⟨B2, d2, rfl, own5, rfl⟩)⟩), k0, k1, k2, k3, (fun _ => rfl), (fun _ => trivial), (fun h => by rw [show D 6 = true from by simpa using h] at n6; cases n6), (fun h => by rw [show D 7 = true from by simpa using h] at n7; cases n7)⟩
      simp only [Act.put, putAll, List.setIfInBounds_toArray, List.set_cons_succ, List.set_cons_zero] <;> rfl
    · obtain - := k2 (hdep 2 (by kernel_rfl))
      obtain - := k5 (hdep 5 (by kernel_rfl))
      obtain ⟨s1, s2, hdj, hlt, hc, ha⟩ := hJ hD
      obtain ⟨B1, m1, d1, rfl, R1, N1⟩ := hc (hdep 2 (by kernel_rfl)) hD
      obtain ⟨B2, d2, rfl, O2, rfl⟩ := ha (hdep 5 (by kernel_rfl)) hD
      refine wpOp_step (by simp only [List.getElem?_toArray, List.getElem?_cons_succ, List.getElem?_cons_zero]; rfl) (fun K hK => ?_)
      go_simp
      refine hK _ _ ⟨[v3, v4, .agg #[.slice B1 m1 d1], v6, v7, .slice B2 n2 d2, .agg #[.slice B1 m1 d1, .slice B2 n2 d2]], ?_, _, _, _, _, _, _, _, rfl, hb, hX, hO, (fun h => absurd h (by simp)), k0, k1, (fun _ => trivial), k3, k4, (fun _ => trivial), (fun _ _ => ⟨B1, m1, d1, B2, d2, s1, blkL B2, rfl, R1, saiO_of O2 HL.out (sai_still hEA), List.nodup_append.2 ⟨N1, (by cases B2 <;> simp [blkL]), fun a ha b hb e => hdj a ha (e ▸ hb)⟩, hlt⟩), k7⟩
      simp only [putAll, List.setIfInBounds_toArray, List.set_cons_succ, List.set_cons_zero] <;> rfl
    · obtain z6 := k6 (hdep 6 (by kernel_rfl))
      obtain ⟨B1, m1, d1, B2, d2, f1, f2, rfl, R1, R2, N1, F1⟩ := z6 hD
      have o7 := (hO hD).cell 0 _ rfl
      have o8 := (hO hD).cell 1 _ rfl
      have y7 := (hO hD).fz 0 (by simp)
      have y8 := (hO hD).fz 1 (by simp)
      refine wpOp_step (by simp only [List.getElem?_toArray, List.getElem?_cons_succ, List.getElem?_cons_zero]; rfl) (fun K hK => ?_)
      go_simp
      refine hK _ _ ⟨[v3, v4, v5, v6, v7, v8, .agg #[.slice B1 m1 d1, .slice B2 n2 d2]], ?_, _, _, _, _, _, _, _, rfl, (fun h => absurd h (by simp)), (fun h => absurd h (by simp)), (fun h => absurd h (by simp)), (fun h' => by have d1 := hdep 6 (by kernel_rfl); rw [show D 6 = false from by simpa using h'] at d1; cases d1), k0, k1, k2, k3, k4, k5, (fun _ h => absurd h (by simp)), (fun _ => ⟨w', B1, m1, d1, B2, d2, f1, f2, hb hD, hO hD, rfl, R1, R2, N1, F1⟩)⟩
      simp only [putAll, List.setIfInBounds_toArray, List.set_cons_succ, List.set_cons_zero] <;> rfl
  · intro D vs w' hD hI
    obtain ⟨v3, v4, v5, v6, v7, v8, v9, rfl, hb, hX, hO, hJ, k0, k1, k2, k3, k4, k5, k6, k7⟩ := hI
    simp only [putAll, List.setIfInBounds_toArray, List.set_cons_succ, List.set_cons_zero]
    obtain ⟨w1, B1, m1, d1, B2, d2, f1, f2, hbW, hBO, rfl, R1, R2, N1, F1⟩ := k7 (hD 7 (show 7 < 8 by decide))
    clear hD hb hX hO hJ
    have hBo := hBO.setCells (vs := [.slice B1 m1 d1, .slice B2 n2 d2]) rfl
    have hWr := hBo.range
    have hgs := al2.size
    have hgl2 := hbW.size
    have hB1 : Below w.heap.size w w1 := bthen al2 hbW
    have hch := ch_setCells (g := g + 1) [.slice B1 m1 d1, .slice B2 n2 d2] 0 w1
    have hne : ∀ b ∈ f1 ++ f2, ¬ (b = g + 1) := fun b hb => by have := F1 b hb; omega
    have RR1 := R1.ch cstK hch (fun b hb => hne b (List.mem_append_left _ hb))
    have RR2 := R2.ch saiK hch (fun b hb => hne b (List.mem_append_right _ hb))
    have hBF := hch.belowB hB1 hB1.size (fun k hk => by have hk : k = g + 1 := hk; have := HG.out; omega)
    have F2 : ∀ b ∈ f1 ++ f2, w.heap.size ≤ b ∧ b < (w1.setCells (g + 1) 0 [.slice B1 m1 d1, .slice B2 n2 d2]).heap.size := fun b hb => by have h3 := F1 b hb; have h4 := hch.size; exact ⟨by omega, by omega⟩
    obtain ⟨V, hV⟩ : ∃ V, V = w1.setCells (g + 1) 0 [.slice B1 m1 d1, .slice B2 n2 d2] := ⟨_, rfl⟩
    rw [← hV] at hWr RR1 RR2 hBF F2 ⊢
    clear hV hch R1 R2 F1 hne hBo
    go_wp2
    refine bodyPost_ret (results_cell1 Try.results171 rfl hWr Try.underlying87 rfl sizeState0) rfl ?_
    exact ⟨B1, m1, d1, B2, n2, d2, f1, f2, rfl, RR1, RR2, N1, F2, hBF⟩
end Go.Proofs.Ytdphdnllhmnelaa
/- slices.Insert of one Said into a row of the call's own (printed by inserts.py). -/
namespace Go.Proofs.Ytdphdnllhmnelaa
open Go.Shelf Go.RowKit Go.Lib
theorem sadInfo : (Try.prog.info? 153).map (fun i => (i.zero, i.size, i.bytes)) = some (some (.agg #[.int .i64 0, .int .i64 0, .string ByteArray.empty]), 3, 32) := by kernel_rfl
theorem sizeEntry_sad (w : World) : (Go.sizeOf 153).run Try.prog w = .ok 3 w := by
  first | (unfold Go.sizeOf; kernel_rfl) | kernel_rfl | rfl
theorem infoSize_sad : (Try.prog.info? 153).map (·.size) = some 3 := by kernel_rfl

set_option maxHeartbeats 4000000 in
set_option maxRecDepth 100000 in
/-- there is room, i < len(s): in place -/
theorem ins_shift_sad (b n c i vb : Nat) (cs : List Value) (v0 v1 v2 : Value) (w : World) (hi : i < n) (hroom : n + 1 ≤ c) (hc63 : c ≤ 9223372036854775807) (hvb : vb ≠ b) (hcl : cs.length = n * 3)
    (hcs : ∀ j v, cs[j]? = some v → w.cell? ⟨b, j, none⟩ = some v) (hsp : ∀ j, j < (n + 1) * 3 → (w.cell? ⟨b, j, none⟩).isSome = true) (hfz : ∀ j, w.frozen? ⟨b, j, none⟩ = false)
    (hv0 : w.cell? ⟨vb, 0, none⟩ = some v0) (hv1 : w.cell? ⟨vb, 1, none⟩ = some v1) (hv2 : w.cell? ⟨vb, 2, none⟩ = some v2) (h1c : ∀ v ∈ cs, v.oneCell' = true) (h10 : v0.oneCell' = true) (h11 : v1.oneCell' = true) (h12 : v2.oneCell' = true) (hfv : ∀ j, w.frozen? ⟨vb, j, none⟩ = false) :
    Calls Try.prog 176 #[.slice (some ⟨b, 0, none⟩) n c, .int .i64 i, .slice (some ⟨vb, 0, none⟩) 1 1] w fun e w' =>
      e = .returned (.slice (some ⟨b, 0, none⟩) (n + 1) c) ∧ w' = (w.drew.setCells b ((i + 1) * 3) (cs.drop (i * 3))).setCells b (i * 3) [v0, v1, v2] := by
  obtain ⟨tA, kA, hsa, _, _⟩ := World.shape?_of_cell? hv0
  obtain ⟨u, hu⟩ := Option.isSome_iff_exists.1 (hsp 0 (by omega))
  obtain ⟨tB, kB, hsb, hkB, _⟩ := World.shape?_of_cell? hu
  have hkB : kB ≠ 0 := by omega
  have hz2 : ¬ ((i : Int) = (n : Int)) := by omega
  have hov : ∀ lb cb, (callFunc 194 #[.slice (some ⟨vb, 0, none⟩) 1 1, .slice (some ⟨b, (i + 1) * 3, none⟩) lb cb]).run Try.prog w = .ok (.value (.bool false)) w := fun lb cb => by
    rw [run_callFunc_extern Try.func194 (by kernel_rfl) (by kernel_rfl) (by kernel_rfl) (e := Extern.SlicesOverlaps.overlaps #[85, 85] #[4]) (by kernel_rfl),
      Lib.run_overlaps_apart w 85 4 153 Try.underlying85 3 sizeEntry_sad ⟨vb, 0, none⟩ ⟨b, (i + 1) * 3, none⟩ 1 1 lb cb hvb tA tB kA kB hsa hsb hkB (hfv 0) (hfv kA)]
    rfl
  have hdl : (cs.drop (i * 3)).length = (n - i) * 3 := by rw [List.length_drop, hcl]; omega
  have mixed : Try.prog.follows Departure.mixedOrders = true := by kernel_rfl
  have hw1 : IntKind.i64.wrap ((i : Int) + 1) = (i : Int) + 1 := by rw [IntKind.wrap_i64]; omega
  have hb1 : (0 : Int) ≤ (i : Int) + 1 := by omega
  have htn : ((i : Int) + 1).toNat = i + 1 := by omega
  have hb3 : (i : Int) ≤ (n : Int) + 1 := by omega
  have hin : i ≤ n := by omega
  have hb2 : ¬ (c = i + 1) := by omega
  have hb4 : ¬ (c = i) := by omega
  have hcp1 : ∀ ty dc sc, (Builtin.copy_ #[85, 85] ty #[.slice (some ⟨b, (i + 1) * 3, none⟩) (n - i) dc, .slice (some ⟨b, i * 3, none⟩) (n + 1 - i) sc]).run Try.prog w.drew = .ok (goInt ((n - i : Nat) : Int)) (w.drew.setCells b ((i + 1) * 3) (cs.drop (i * 3))) := fun ty dc sc => by
    have hmin : Nat.min (n + 1 - i) (n - i) = n - i := by simp only [Nat.min_def]; split <;> omega
    have := run_copyN (P := Try.prog) w.drew 85 85 ty 153 3 b ((i + 1) * 3) (n - i) dc ⟨b, i * 3, none⟩ (n + 1 - i) sc (cs.drop (i * 3)) Try.underlying85 infoSize_sad (by rw [hdl, hmin])
      (fun j v hj => by rw [Addr.add_lit]; exact hcs (i * 3 + j) v (by rwa [List.getElem?_drop] at hj))
      (fun j hj => hsp _ (by omega)) (fun j hj => hfz _) (fun v hv => h1c v (List.mem_of_mem_drop hv))
    rwa [hmin] at this
  obtain ⟨W1, hW1⟩ : ∃ W1, W1 = w.drew.setCells b ((i + 1) * 3) (cs.drop (i * 3)) := ⟨_, rfl⟩
  have hsp1 : ∀ k, k < (n + 1) * 3 → (W1.cell? ⟨b, k, none⟩).isSome = true := fun k hk => by
    rw [hW1]
    exact some_setCells b (cs.drop (i * 3)) ((i + 1) * 3) w.drew (fun j hj => hsp ((i + 1) * 3 + j) (by rw [hdl] at hj; omega)) k (hsp k hk)
  have hcp2 : ∀ (W : World), (∀ x, W.cell? x = W1.cell? x) → (∀ x, W.frozen? x = W1.frozen? x) → ∀ ty dc, (Builtin.copy_ #[85, 85] ty #[.slice (some ⟨b, i * 3, none⟩) (n + 1 - i) dc, .slice (some ⟨vb, 0, none⟩) 1 1]).run Try.prog W = .ok (goInt 1) (W.setCells b (i * 3) [v0, v1, v2]) := fun W hWc hWf ty dc => by
    have hmin : Nat.min 1 (n + 1 - i) = 1 := by simp only [Nat.min_def]; split <;> omega
    have := run_copyN (P := Try.prog) W 85 85 ty 153 3 b (i * 3) (n + 1 - i) dc ⟨vb, 0, none⟩ 1 1 [v0, v1, v2] Try.underlying85 infoSize_sad (by rw [hmin]; rfl)
      (fun j v hj => by
        rw [Addr.add_lit, hWc, hW1, World.cell?_setCells_out b _ _ _ _ (fun h _ => absurd h hvb), Nat.zero_add]
        rcases j with _ | _ | _ | j
        · injection hj with hj; subst hj; exact hv0
        · injection hj with hj; subst hj; exact hv1
        · injection hj with hj; subst hj; exact hv2
        · cases hj)
      (fun j hj => by rw [hWc]; exact hsp1 _ (by simp at hj; omega)) (fun j hj => by rw [hWf, hW1, World.frozen?_setCells]; exact hfz _) (fun v hv => by
        simp at hv; rcases hv with rfl | rfl | rfl
        · exact h10
        · exact h11
        · exact h12)
    rwa [hmin] at this
  rw [← hW1] at hcp1
  clear hsp1
  go_enter Try.func176, Try.ntmps176
  go_wp2_with (simp only [hov])
  go_region_law_o (refine step_copyN rfl _ _ 85 85 rfl _ _ (by simp [Act.eval, Act.put]) (by simp [Act.eval, Act.put]) (hcp1 _ _ _) ?_)
  go_wp2_with (at_builtin; refine wpList_copyN _ rfl _ _ 85 85 rfl _ _ rfl rfl (hcp2 _ (fun _ => rfl) (fun _ => rfl) _ _) ?_)
  go_returns
  first | exact ⟨rfl, rfl⟩ | exact ⟨rfl, by rw [hW1]⟩

theorem zeroE_size_sad (k : Nat) : (Builtin.zeroCells (Value.agg #[.int .i64 0, .int .i64 0, .string ByteArray.empty]).cells k).size = k * 3 := by
  simp [Builtin.zeroCells, Value.cells]
set_option maxHeartbeats 4000000 in
set_option maxRecDepth 100000 in
/-- i < len(s), no room: a new row -/
theorem ins_grow_sad (b n c i vb : Nat) (cs : List Value) (v0 v1 v2 : Value) (w : World) (hi : i < n) (hnc : n ≤ c) (hroom : c < n + 1) (hbig : (n + 1) * 32 ≤ 140737488355328) (hcl : cs.length = n * 3)
    (hcs : ∀ j v, cs[j]? = some v → w.cell? ⟨b, j, none⟩ = some v)
    (hv0 : w.cell? ⟨vb, 0, none⟩ = some v0) (hv1 : w.cell? ⟨vb, 1, none⟩ = some v1) (hv2 : w.cell? ⟨vb, 2, none⟩ = some v2) (h1c : ∀ v ∈ cs, v.oneCell' = true) (h10 : v0.oneCell' = true) (h11 : v1.oneCell' = true) (h12 : v2.oneCell' = true) :
    Calls Try.prog 176 #[.slice (some ⟨b, 0, none⟩) n c, .int .i64 i, .slice (some ⟨vb, 0, none⟩) 1 1] w fun e w' =>
      ∃ G ROW, n + 1 ≤ G ∧ G ≤ maxLen ∧ ROW.size = G * 3 ∧ (∀ j, j < i * 3 → ROW[j]? = cs[j]?) ∧ e = .returned (.slice (some ⟨w.heap.size, 0, none⟩) (n + 1) G) ∧
      w' = (((w.alloc (.cells ROW 153)).drew.setCells w.heap.size (i * 3) [v0, v1, v2]).drew).setCells w.heap.size ((i + 1) * 3) (cs.drop (i * 3)) := by
  have mixed : Try.prog.follows Departure.mixedOrders = true := by kernel_rfl
  obtain ⟨i0, hi0, hz0, hzs, hzb⟩ := info_parts sadInfo
  have hz2 : ¬ ((i : Int) = (n : Int)) := by omega
  have hz3 : (c : Int) < (n : Int) + 1 := by omega
  have hbw : b < w.heap.size := cell_lt (hcs 0 _ (List.getElem?_eq_getElem (by omega)))
  have hvw : vb < w.heap.size := cell_lt hv0
  have hkk : (n : Int) + 1 - (i : Int) = ((n + 1 - i : Nat) : Int) := by omega
  have hik : i + (n + 1 - i) = n + 1 := by omega
  have hold : (Builtin.firstCells i0.size i (.slice (some ⟨b, 0, none⟩) i c)).run Try.prog w.drew = .ok (cs.take (i * 3)).toArray w.drew := by
    rw [hzs]
    exact run_firstCells_some w.drew 3 i ⟨b, 0, none⟩ i c (cs.take (i * 3)) (by rw [List.length_take]; omega) (fun j v hj => by
      rw [Addr.add_lit, Nat.zero_add]
      rw [List.getElem?_take] at hj
      split at hj
      · exact hcs j v hj
      · cases hj)
  obtain ⟨G, hG⟩ : ∃ G, G = grownCap w (n + 1) c 153 := ⟨_, rfl⟩
  obtain ⟨ROW, hROW⟩ : ∃ ROW : Array Value, ROW = (cs.take (i * 3)).toArray ++ Builtin.zeroCells (Value.agg #[.int .i64 0, .int .i64 0, .string ByteArray.empty]).cells (n + 1 - i) ++ Builtin.zeroCells (Value.agg #[.int .i64 0, .int .i64 0, .string ByteArray.empty]).cells (G - (n + 1)) := ⟨_, rfl⟩
  have hrz : ∀ ty, (Builtin.append_ #[85, 3] ty #[.slice (some ⟨b, 0, none⟩) i c, .int .i64 ((n : Int) + 1 - (i : Int))]).run Try.prog w =
      .ok (.slice (some ⟨w.heap.size, 0, none⟩) (n + 1) G) (w.drew.alloc (.cells ROW 153)) := fun ty => by
    have h := Lib.run_append_grow_zeros w 85 3 ty 153 i0 _ .i64 .i64 Try.underlying85 Try.underlying3 hi0 hz0 (some ⟨b, 0, none⟩) i c (cs.take (i * 3)) hold (n + 1 - i) (by omega) (by omega) (by omega) (by omega) (by rw [hzb]; omega) (by rw [hzb, hik]; exact growslice_fits hroom hbig)
    rw [hik, ← hG, ← hROW] at h
    rw [hkk]
    exact h
  have hGn : n + 1 ≤ G := by rw [hG]; exact grownCap_ge w _ _ _
  have hGm : G ≤ maxLen := by rw [hG]; exact grownCap_le_maxLen w (n + 1) c 153 (by unfold maxLen; omega)
  have hG63 : G ≤ 9223372036854775807 := by unfold maxLen at hGm; omega
  have hRl : ROW.size = G * 3 := by
    rw [hROW, Array.size_append, Array.size_append, zeroE_size_sad, zeroE_size_sad]
    simp [hcl]
    omega
  have hRc : ∀ j, j < i * 3 → ROW[j]? = cs[j]? := fun j hj => by
    have hl : (cs.take (i * 3)).length = i * 3 := by rw [List.length_take]; omega
    rw [hROW, Array.getElem?_append, if_pos (by simp [hcl, zeroE_size_sad]; omega), Array.getElem?_append, if_pos (by simp [hcl]; omega)]
    simp [hj]
  obtain ⟨W1, hW1⟩ : ∃ W1, W1 = w.drew.alloc (.cells ROW 153) := ⟨_, rfl⟩
  rw [← hW1] at hrz
  have hN : ∀ j, j < (n + 1) * 3 → (W1.cell? ⟨w.heap.size, j, none⟩).isSome = true := fun j hj => by
    rw [hW1, World.cell?_alloc_at (w := w.drew) ROW _ w.heap.size j rfl, Array.getElem?_eq_getElem (by omega)]; rfl
  have hNf : ∀ j, W1.frozen? ⟨w.heap.size, j, none⟩ = false := fun j => by rw [hW1]; exact World.frozen?_alloc_at (w := w.drew) ROW _ w.heap.size j rfl
  have hOb : ∀ j v, w.cell? ⟨b, j, none⟩ = some v → W1.cell? ⟨b, j, none⟩ = some v := fun j v h => by rw [hW1, World.cell?_alloc_past (w := w.drew) _ b j hbw]; exact h
  have hOv : ∀ j v, w.cell? ⟨vb, j, none⟩ = some v → W1.cell? ⟨vb, j, none⟩ = some v := fun j v h => by rw [hW1, World.cell?_alloc_past (w := w.drew) _ vb j hvw]; exact h
  have hcpA : ∀ (W : World), (∀ x, W.cell? x = W1.cell? x) → (∀ x, W.frozen? x = W1.frozen? x) → ∀ ty dc, (Builtin.copy_ #[85, 85] ty #[.slice (some ⟨w.heap.size, i * 3, none⟩) (n + 1 - i) dc, .slice (some ⟨vb, 0, none⟩) 1 1]).run Try.prog W = .ok (goInt 1) (W.setCells w.heap.size (i * 3) [v0, v1, v2]) := fun W hWc hWf ty dc => by
    have hmin : Nat.min 1 (n + 1 - i) = 1 := by simp only [Nat.min_def]; split <;> omega
    have := run_copyN (P := Try.prog) W 85 85 ty 153 3 w.heap.size (i * 3) (n + 1 - i) dc ⟨vb, 0, none⟩ 1 1 [v0, v1, v2] Try.underlying85 infoSize_sad (by rw [hmin]; rfl)
      (fun j v hj => by
        rw [Addr.add_lit, hWc, Nat.zero_add]
        rcases j with _ | _ | _ | j
        · injection hj with hj; subst hj; exact hOv _ _ hv0
        · injection hj with hj; subst hj; exact hOv _ _ hv1
        · injection hj with hj; subst hj; exact hOv _ _ hv2
        · cases hj)
      (fun j hj => by rw [hWc]; exact hN _ (by simp at hj; omega)) (fun j hj => by rw [hWf]; exact hNf _) (fun v hv => by
        simp at hv; rcases hv with rfl | rfl | rfl
        · exact h10
        · exact h11
        · exact h12)
    rwa [hmin] at this
  have hGi : ¬ (G = i) := by omega
  have hGim : ¬ (G = i + 1) := by omega
  have hci : ¬ (c = i) := by omega
  have hbN : b ≠ w.heap.size := by omega
  have hdl : (cs.drop (i * 3)).length = (n - i) * 3 := by rw [List.length_drop, hcl]; omega
  have hcpB : ∀ (W : World), (∀ x, W.cell? x = (W1.setCells w.heap.size (i * 3) [v0, v1, v2]).cell? x) → (∀ x, W.frozen? x = (W1.setCells w.heap.size (i * 3) [v0, v1, v2]).frozen? x) → ∀ ty dc sc, (Builtin.copy_ #[85, 85] ty #[.slice (some ⟨w.heap.size, (i + 1) * 3, none⟩) (n - i) dc, .slice (some ⟨b, i * 3, none⟩) (n - i) sc]).run Try.prog W = .ok (goInt ((n - i : Nat) : Int)) (W.setCells w.heap.size ((i + 1) * 3) (cs.drop (i * 3))) := fun W hWc hWf ty dc sc => by
    have hmin : Nat.min (n - i) (n - i) = n - i := by simp only [Nat.min_def]; split <;> omega
    have := run_copyN (P := Try.prog) W 85 85 ty 153 3 w.heap.size ((i + 1) * 3) (n - i) dc ⟨b, i * 3, none⟩ (n - i) sc (cs.drop (i * 3)) Try.underlying85 infoSize_sad (by rw [hdl, hmin])
      (fun j v hj => by
        rw [Addr.add_lit, hWc, World.cell?_setCells_out _ _ _ _ _ (fun h _ => absurd h hbN)]
        exact hOb _ v (hcs (i * 3 + j) v (by rwa [List.getElem?_drop] at hj)))
      (fun j hj => by rw [hWc]; exact some_setCells _ _ _ _ (fun t ht => hN _ (by simp at ht; omega)) _ (hN _ (by omega)))
      (fun j hj => by rw [hWf, World.frozen?_setCells]; exact hNf _) (fun v hv => h1c v (List.mem_of_mem_drop hv))
    rwa [hmin] at this
  subst hW1
  have hE1 : ∀ x, ((w.alloc (.cells ROW 153)).drew).cell? x = (w.drew.alloc (.cells ROW 153)).cell? x := fun x => rfl
  have hE2 : ∀ x, ((w.alloc (.cells ROW 153)).drew).frozen? x = (w.drew.alloc (.cells ROW 153)).frozen? x := fun x => rfl
  have hF1 : ∀ x, (((w.alloc (.cells ROW 153)).drew.setCells w.heap.size (i * 3) [v0, v1, v2]).drew).cell? x = ((w.drew.alloc (.cells ROW 153)).setCells w.heap.size (i * 3) [v0, v1, v2]).cell? x := fun x => rfl
  have hF2 : ∀ x, (((w.alloc (.cells ROW 153)).drew.setCells w.heap.size (i * 3) [v0, v1, v2]).drew).frozen? x = ((w.drew.alloc (.cells ROW 153)).setCells w.heap.size (i * 3) [v0, v1, v2]).frozen? x := fun x => rfl
  have hw1 : IntKind.i64.wrap ((i : Int) + 1) = (i : Int) + 1 := by rw [IntKind.wrap_i64]; omega
  have hb1 : (0 : Int) ≤ (i : Int) + 1 := by omega
  have hin : i ≤ n := by omega
  have htn : ((i : Int) + 1).toNat = i + 1 := by omega
  have hb3 : (i : Int) ≤ (n : Int) := by omega
  clear hkk hik hold hROW hG hN hNf hOb hOv
  go_enter Try.func176, Try.ntmps176
  go_wp2_with (first
    | (at_builtin; refine Lib.wpList_append_run _ rfl _ _ _ _ rfl _ _ rfl rfl _ _ (hrz _) ?_)
    | (at_builtin; refine wpList_copyN _ rfl _ _ 85 85 rfl _ _ rfl rfl (hcpA _ hE1 hE2 _ _) ?_)
    | (at_builtin; refine wpList_copyN _ rfl _ _ 85 85 rfl _ _ rfl rfl (hcpB _ (fun _ => rfl) (fun _ => rfl) _ _ _) ?_))
  go_region_law_o (refine step_copyN rfl _ _ 85 85 rfl (.slice (some ⟨w.heap.size, (i + 1) * 3, none⟩) (n - i) (G - (i + 1))) (.slice (some ⟨b, i * 3, none⟩) (n - i) (c - i)) (by simp [Act.eval, Act.put]) (by simp [Act.eval, Act.put]) (hcpB _ hF1 hF2 3 (G - (i + 1)) (c - i)) ?_)
  go_wp2
  go_returns
  exact ⟨G, ROW, hGn, hGm, hRl, hRc, rfl, rfl⟩

set_option maxRecDepth 100000 in
/-- at the end: as an append -/
theorem ins_end_sad (lo vb n c : Nat) (A : Option Addr) (xs : List Value) (v0 v1 v2 : Value) (w : World) (hown : w.ownsRow lo 153 3 (.slice A n c) n xs) (hlo : lo ≤ w.heap.size) (hn : n ≤ 1048576)
    (hv0 : w.cell? ⟨vb, 0, none⟩ = some v0) (hv1 : w.cell? ⟨vb, 1, none⟩ = some v1) (hv2 : w.cell? ⟨vb, 2, none⟩ = some v2) (h10 : v0.oneCell' = true) (h11 : v1.oneCell' = true) (h12 : v2.oneCell' = true) :
    Calls Try.prog 176 #[.slice A n c, .int .i64 n, .slice (some ⟨vb, 0, none⟩) 1 1] w fun e w' =>
      ∃ A' c', e = .returned (.slice A' (n + 1) c') ∧ w'.ownsRow lo 153 3 (.slice A' (n + 1) c') (n + 1) (xs ++ [v0, v1, v2]) ∧ w.grownBy w' (Value.slice A n c).ownBlock ∧
      ((Value.slice A' (n + 1) c').ownBlock = (Value.slice A n c).ownBlock ∨ (Value.slice A' (n + 1) c').ownBlock = some w.heap.size) := by
  have mixed : Try.prog.follows Departure.mixedOrders = true := by kernel_rfl
  have hsrc : CellsAt w (some ⟨vb, 0, none⟩) 1 3 [v0, v1, v2] := by
    refine ⟨rfl, fun _ => ⟨vb, 0, rfl, fun j u hu => ?_⟩⟩
    rcases j with _ | _ | _ | j
    · injection hu with hu; subst hu; exact hv0
    · injection hu with hu; subst hu; exact hv1
    · injection hu with hu; subst hu; exact hv2
    · cases hu
  have hle := own_le hown
  have hle1 := hle.1
  have hle2 := hle.2
  rcases own_form hown with ⟨rfl, rfl, rfl, rfl⟩ | ⟨g, rfl, _, _⟩
  · go_enter Try.func176, Try.ntmps176
    go_wp2_with (at_builtin; refine wpList_app (P := Try.prog) w rfl _ _ 85 rfl lo 153 _ 3 32 Try.underlying85 sadInfo rfl (by omega) (.slice none 0 0) 0 [] rfl hown (some ⟨vb, 0, none⟩) 1 1 [v0, v1, v2] rfl hsrc (by simp [h10, h11, h12]) (fun h => by cases h) (by unfold maxLen; omega) (by omega) hlo ?_; intro A' c' w1 hown1 hg1 hb1 hob1)
    go_returns
    exact ⟨A', c', rfl, hown1, hg1, hob1⟩
  · go_enter Try.func176, Try.ntmps176
    go_wp2_with (at_builtin; refine wpList_app (P := Try.prog) w rfl _ _ 85 rfl lo 153 _ 3 32 Try.underlying85 sadInfo rfl (by omega) (.slice (some ⟨g, 0, none⟩) n c) n xs rfl hown (some ⟨vb, 0, none⟩) 1 1 [v0, v1, v2] rfl hsrc (by simp [h10, h11, h12]) (fun h => by cases h) (by unfold maxLen; omega) (by omega) hlo ?_; intro A' c' w1 hown1 hg1 hb1 hob1)
    all_goals (go_returns; exact ⟨A', c', rfl, hown1, hg1, hob1⟩)

/-- the cells with an element inserted -/
theorem ins_ext_sad {ys xs : List Value} {v0 v1 v2 : Value} {n i : Nat} (hi : i ≤ n) (hx : xs.length = n * 3) (hy : ys.length = (n + 1) * 3) (h0 : ∀ t, t < i * 3 → ys[t]? = xs[t]?) (h1 : ∀ j, j < 3 → ys[i * 3 + j]? = [v0, v1, v2][j]?)
    (h2 : ∀ j, j < (n - i) * 3 → ys[(i + 1) * 3 + j]? = (xs.drop (i * 3))[j]?) : ys = xs.take (i * 3) ++ [v0, v1, v2] ++ xs.drop (i * 3) := by
  have hl : (xs.take (i * 3)).length = i * 3 := by rw [List.length_take]; omega
  apply List.ext_getElem?
  intro t
  rw [List.append_assoc, List.getElem?_append, hl]
  by_cases c1 : t < i * 3
  · rw [if_pos c1, h0 t c1, List.getElem?_take_of_lt c1]
  · rw [if_neg c1]
    by_cases c2 : t < (i + 1) * 3
    · rw [List.getElem?_append, if_pos (by simp; omega), ← h1 (t - i * 3) (by omega), show i * 3 + (t - i * 3) = t by omega]
    · rw [List.getElem?_append, if_neg (by simp; omega)]
      by_cases c3 : t < (n + 1) * 3
      · rw [show t - i * 3 - [v0, v1, v2].length = t - (i + 1) * 3 by simp; omega, ← h2 (t - (i + 1) * 3) (by omega), show (i + 1) * 3 + (t - (i + 1) * 3) = t by omega]
      · rw [List.getElem?_eq_none (by omega), List.getElem?_eq_none (by simp; omega)]

theorem insert_own_sad (lo vb n c i : Nat) (A : Option Addr) (xs : List Value) (v0 v1 v2 : Value) (w : World) (hown : w.ownsRow lo 153 3 (.slice A n c) n xs) (hlo : lo ≤ w.heap.size) (hn : n ≤ 1048576) (hi : i ≤ n)
    (hvb : ∀ g, BlkOf A g → vb ≠ g) (hfv : ∀ j, w.frozen? ⟨vb, j, none⟩ = false) (hv0 : w.cell? ⟨vb, 0, none⟩ = some v0) (hv1 : w.cell? ⟨vb, 1, none⟩ = some v1) (hv2 : w.cell? ⟨vb, 2, none⟩ = some v2)
    (h1c : ∀ v ∈ xs, v.oneCell' = true) (h10 : v0.oneCell' = true) (h11 : v1.oneCell' = true) (h12 : v2.oneCell' = true) :
    Calls Try.prog 176 #[.slice A n c, .int .i64 i, .slice (some ⟨vb, 0, none⟩) 1 1] w fun e w' =>
      ∃ A' c', e = .returned (.slice A' (n + 1) c') ∧ w'.ownsRow lo 153 3 (.slice A' (n + 1) c') (n + 1) (xs.take (i * 3) ++ [v0, v1, v2] ++ xs.drop (i * 3)) ∧ Ch (fun k => (Value.slice A n c).ownBlock = some k) w w' ∧
      ((Value.slice A' (n + 1) c').ownBlock = (Value.slice A n c).ownBlock ∨ (Value.slice A' (n + 1) c').ownBlock = some w.heap.size) := by
  have hxl := hown.1
  by_cases hin : i = n
  · subst hin
    refine (ins_end_sad lo vb i c A xs v0 v1 v2 w hown hlo hn hv0 hv1 hv2 h10 h11 h12).mono ?_
    rintro e w' ⟨A', c', rfl, h1, h2, h3⟩
    refine ⟨A', c', rfl, ?_, Ch.of_grow h2, h3⟩
    rwa [List.take_of_length_le (by omega), List.drop_eq_nil_of_le (by omega), List.append_nil]
  · have hle := own_le hown
    obtain ⟨g, rfl, hlg, hgh⟩ : ∃ g, A = some ⟨g, 0, none⟩ ∧ lo ≤ g ∧ g < w.heap.size := by
      rcases own_form hown with ⟨_, h0, _⟩ | h
      · omega
      · exact h
    have hcell : ∀ j v, xs[j]? = some v → w.cell? ⟨g, j, none⟩ = some v := fun j v hj => by
      exact (hown.cellAt j (by have := (List.getElem?_eq_some_iff.1 hj).1; omega)).trans hj
    have hdl : (xs.drop (i * 3)).length = (n - i) * 3 := by rw [List.length_drop, hxl]; omega
    by_cases hroom : n + 1 ≤ c
    · obtain ⟨ys, hy, hyx⟩ := own_more hown (Nat.le_succ n) hroom
      refine (ins_shift_sad g n c i vb xs v0 v1 v2 w (by omega) hroom hle.2 (hvb g (by simp [BlkOf])) hxl hcell (fun j hj => ?_) (fun j => hown.frozenAt j) hv0 hv1 hv2 h1c h10 h11 h12 hfv).mono ?_
      · obtain ⟨u, hu⟩ := own_cell hy (j := j) (by omega)
        rw [hu]; rfl
      rintro e w' ⟨rfl, rfl⟩
      obtain ⟨y1, a1, a2, a3, a4⟩ := own_sets (xs.drop (i * 3)) ((i + 1) * 3) w.drew ys hy
      obtain ⟨y2, b1, b2, b3, b4⟩ := own_sets [v0, v1, v2] (i * 3) _ y1 a1
      have hE : y2 = xs.take (i * 3) ++ [v0, v1, v2] ++ xs.drop (i * 3) := by
        refine ins_ext_sad (by omega) hxl b1.1 (fun t ht => ?_) (fun j hj => ?_) (fun j hj => ?_)
        · rw [b2 t (.inl ht), a2 t (.inl (by omega)), hyx t (by omega)]
        · exact b3 j hj (by omega)
        · rw [b2 _ (.inr (by simp; omega)), a3 j (by omega) (by omega)]
      rw [hE] at b1
      refine ⟨_, _, rfl, b1, ?_, .inl rfl⟩
      have h0 : Ch (fun k => k = g) w w.drew := (Ch.refl w).drew
      exact ((h0.trans a4).trans b4).mono (fun k hk => by subst hk; rfl)
    · refine (ins_grow_sad g n c i vb xs v0 v1 v2 w (by omega) hle.1 (by omega) (by omega) hxl hcell hv0 hv1 hv2 h1c h10 h11 h12).mono ?_
      rintro e w' ⟨G, ROW, hG1, hG2, hR, hRc, rfl, rfl⟩
      have h0 : Ch (fun k => k = w.heap.size) w ((w.alloc (.cells ROW 153)).drew) := ((Ch.refl w).alloc _).drew
      have ho : ((w.alloc (.cells ROW 153)).drew).ownsRow lo 153 3 (.slice (some ⟨w.heap.size, 0, none⟩) (n + 1) G) (n + 1) (ROW.toList.take ((n + 1) * 3)) :=
        ⟨by simp [hR]; omega, .inr ⟨w.heap.size, G, ROW, rfl, hlo, by show (w.heap.push _)[w.heap.size]? = _; simp, hG1, hG2, hR, rfl⟩⟩
      obtain ⟨y1, a1, a2, a3, a4⟩ := own_sets [v0, v1, v2] (i * 3) _ _ ho
      have a1' : (((w.alloc (.cells ROW 153)).drew.setCells w.heap.size (i * 3) [v0, v1, v2]).drew).ownsRow lo 153 3 (.slice (some ⟨w.heap.size, 0, none⟩) (n + 1) G) (n + 1) y1 := a1
      obtain ⟨y2, b1, b2, b3, b4⟩ := own_sets (xs.drop (i * 3)) ((i + 1) * 3) _ y1 a1'
      have hE : y2 = xs.take (i * 3) ++ [v0, v1, v2] ++ xs.drop (i * 3) := by
        refine ins_ext_sad (by omega) hxl b1.1 (fun t ht => ?_) (fun j hj => ?_) (fun j hj => ?_)
        · rw [b2 t (.inl (by omega)), a2 t (.inl ht), List.getElem?_take_of_lt (by omega), Array.getElem?_toList, hRc t ht]
        · rw [b2 _ (.inl (by omega)), a3 j hj (by omega)]
        · rw [b3 j (by omega) (by omega)]
      rw [hE] at b1
      refine ⟨_, _, rfl, b1, ?_, .inr rfl⟩
      have hC := ((h0.trans a4).drew).trans b4
      exact ⟨hC.os, hC.tape, hC.output, hC.size, fun k hk _ => hC.block k hk (by omega)⟩
end Go.Proofs.Ytdphdnllhmnelaa
/- Rows of what was said, of the call's own: one put in, one changed, one behind the others. -/
namespace Go.Proofs.Ytdphdnllhmnelaa
open Go.RowKit
theorem saiO_ins (y : Sai) (vb : Nat) (l : List Sai) (A : Option Addr) (n c i : Nat) (fp : List Nat) (w : World) (h : RowO saiF 153 3 fp w A n c l) (hN : fp.Nodup) (hn : n ≤ 1000) (hi : i ≤ n) (hvb : vb ∉ fp) (B : BoxL w vb [.int .i64 y.cl, .int .i64 y.no, .string y.tx])
    (hfv : ∀ j, w.frozen? ⟨vb, j, none⟩ = false) :
    Calls Try.prog 176 #[.slice A n c, .int .i64 i, .slice (some ⟨vb, 0, none⟩) 1 1] w fun e w' => ∃ A' c' fp', e = .returned (.slice A' (n + 1) c') ∧ RowO saiF 153 3 fp' w' A' (n + 1) c' (l.take i ++ y :: l.drop i) ∧ fp'.Nodup ∧
      (∀ t ∈ fp', t ∈ fp ∨ w.heap.size ≤ t) ∧ Ch (fun t => t ∈ fp) w w' := by
  obtain ⟨css, fps, rfl, own, hl, E⟩ := h.ex
  refine (insert_own_sad 0 vb n c i A css.flatten _ _ _ w own (Nat.zero_le _) (by omega) hi (fun g hg e => hvb (by rw [e]; exact List.mem_append_left _ (mem_blkL.2 hg))) hfv (B.cell 0 _ rfl) (B.cell 1 _ rfl) (B.cell 2 _ rfl) (E.ones saiK) rfl rfl rfl).mono ?_
  rintro e w4 ⟨A', c', rfl, own4, hch4, hob4⟩
  obtain ⟨fp', R4, N4, F4, C4⟩ := row_ins1 (x := y) saiK hi hl E (show saiF [] w4 [.int .i64 y.cl, .int .i64 y.no, .string y.tx] y from ⟨rfl, rfl⟩) hN own4 hch4 hob4 (Nat.le_refl _)
  exact ⟨A', c', fp', rfl, R4, N4, fun t ht => by rcases F4 t ht with h | h; (exact .inl h); (exact .inr (by omega)), C4.mono (fun t ht => List.mem_append_left _ ht)⟩
theorem saiO_set (y : Sai) {l : List Sai} {qb n c k : Nat} {fp : List Nat} {w : World} (h : RowO saiF 153 3 fp w (some ⟨qb, 0, none⟩) n c l) (hN : fp.Nodup) (hk : k < n) :
    ∃ fp', RowO saiF 153 3 fp' (w.setCells qb (k * 3) [.int .i64 y.cl, .int .i64 y.no, .string y.tx]) (some ⟨qb, 0, none⟩) n c (l.set k y) ∧ fp'.Nodup ∧ (∀ t ∈ fp', t ∈ fp) ∧ Ch (fun b => b = qb) w (w.setCells qb (k * 3) [.int .i64 y.cl, .int .i64 y.no, .string y.tx]) ∧ qb ∈ fp ∧ w.there qb (k * 3) 3 := by
  obtain ⟨css, fps, rfl, own, hl, E⟩ := h.ex
  obtain ⟨x, hx⟩ : ∃ x, l[k]? = some x := ⟨_, List.getElem?_eq_getElem (by omega)⟩
  obtain ⟨d1, d2, f1, f2, cs, f, rfl, rfl, E1, hF, E2⟩ := els_cut E hx
  obtain ⟨rfl, rfl⟩ := hF
  have hlen : (l.take k).length = k := by rw [List.length_take]; omega
  have own2 : w.ownsRow 0 153 3 (.slice (some ⟨qb, 0, none⟩) n c) n (d1.flatten ++ (saiL x ++ d2.flatten)) := by simpa using own
  have hd1 : d1.flatten.length = k * 3 := by rw [E1.flat saiK, hlen]
  have hsw : w.setCells qb (k * 3) [.int .i64 y.cl, .int .i64 y.no, .string y.tx] = setsW w qb ((l.take k).length * 3) [.int .i64 y.cl, .int .i64 y.no, .string y.tx] := by rw [hlen]; rfl
  obtain ⟨hR, hN', hC⟩ := upd_els (f := []) (f' := []) (x' := y) (cs' := [.int .i64 y.cl, .int .i64 y.no, .string y.tx]) saiK own2 E1 E2 rfl (by rw [hlen, List.length_drop]; omega) (by simpa [blkL] using hN) (Ch.refl w) (show saiF [] w _ y from ⟨rfl, rfl⟩) (fun b hb => by cases hb) List.nodup_nil hsw
  rw [← set_split hx] at hR
  refine ⟨_, hR, by simpa [blkL] using hN', fun t ht => by simpa [blkL] using ht, hC.mono (fun b hb => by rcases hb with h | h; (exact h); (cases h)), by simp [blkL], fun j hj => ⟨?_, own.frozenAt _⟩⟩
  have hxl : (saiL x).length = 3 := rfl
  have := own_mid (r := j) own2 hd1 (List.getElem?_eq_getElem (by omega))
  rw [this]; rfl
theorem saiO_app (y : Sai) {l : List Sai} {A A' : Option Addr} {n c c' m : Nat} {fp : List Nat} {css : List (List Value)} {fps : List (List Nat)} {w w' : World} (hfp : fp = blkL A ++ fps.flatten) (hl : n = l.length) (E : Els saiF w css fps l) (hN : fp.Nodup)
    (own' : w'.ownsRow 0 153 3 (.slice A' (n + 1) c') (n + 1) (css.flatten ++ [.int .i64 y.cl, .int .i64 y.no, .string y.tx])) (hg : w.grownBy w' (Value.slice A n c).ownBlock)
    (hob : (Value.slice A' (n + 1) c').ownBlock = (Value.slice A n c).ownBlock ∨ (Value.slice A' (n + 1) c').ownBlock = some m) (hm : w.heap.size ≤ m) :
    ∃ fp', RowO saiF 153 3 fp' w' A' (n + 1) c' (l ++ [y]) ∧ fp'.Nodup ∧ (∀ b ∈ fp', b ∈ fp ∨ w.heap.size ≤ b) ∧ Ch (fun b => b ∈ fp) w w' := by
  subst hfp
  obtain ⟨fp', h1, h2, h3, h4⟩ := row_app1 (x := y) (f := []) saiK hl E (show saiF [] w [.int .i64 y.cl, .int .i64 y.no, .string y.tx] y from ⟨rfl, rfl⟩) (by simpa using hN) own' hg hob hm
  exact ⟨fp', h1, h2, fun b hb => by rcases h3 b hb with h | h | h; (exact .inl h); (cases h); (exact .inr (by omega)), h4.mono (fun b hb => List.mem_append_left _ hb)⟩
end Go.Proofs.Ytdphdnllhmnelaa
