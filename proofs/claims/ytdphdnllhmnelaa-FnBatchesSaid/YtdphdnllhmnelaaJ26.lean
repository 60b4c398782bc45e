/- Contracts and lemmas: CatOps. -/
import Derived.Test.YtdphdnllhmnelaaJ25
import Derived.Test.YtdphdnllhmnelaaJ17
/- What the program does to a set of its own: commit. -/
namespace Go.Proofs.Ytdphdnllhmnelaa
open Go.RowKit
attribute [local go_sem] Grow.cell Grow.frozen
def exT : ByteArray := ⟨#[101, 120, 105, 115, 116, 115]⟩
def fuT : ByteArray := ⟨#[102, 117, 108, 108]⟩
def okT : ByteArray := ⟨#[111, 107]⟩
def noT : ByteArray := ⟨#[110, 111, 110, 101]⟩
/-- a set with a snapshot more -/
def comS (s : Cst) (m : Cm) : Cst := ⟨s.nm, s.snaps ++ [⟨m.nm, ByteArray.empty, m.ch⟩]⟩
attribute [local irreducible] StrsAt StrR StrO RowR RowO snpFnd
set_option maxRecDepth 8000 in
set_option maxHeartbeats 8000000 in
theorem commit_impl (s : Cst) (m : Cm) (b oo : Nat) (Q : Option Addr) (n c : Nat) (fq : List Nat) (A1 : Option Addr) (n1 c1 : Nat) (w : World) (hc0 : w.cell? ⟨b, oo, none⟩ = some (.string s.nm)) (hc1 : w.cell? ⟨b, oo + 1, none⟩ = some (.slice Q n c)) (hfz : w.frozen? ⟨b, oo + 1, none⟩ = false)
    (hQ : RowO snpF 150 3 fq w Q n c s.snaps) (hN : fq.Nodup) (hbq : b ∉ fq) (hm : StrR w A1 n1 c1 m.ch) (hn1 : n1 ≤ 1000) (hn : n ≤ 1000) :
    Calls Try.prog 190 #[.pointer (some ⟨b, oo, none⟩), cmV m (.slice A1 n1 c1)] w fun e w' => (e = .returned (.string exT) ∧ 0 ≤ snpFnd s.snaps 0 m.nm ∧ Below w.heap.size w w') ∨ (e = .returned (.string fuT) ∧ snpFnd s.snaps 0 m.nm < 0 ∧ n = 5 ∧ Below w.heap.size w w') ∨
      (e = .returned (.string okT) ∧ snpFnd s.snaps 0 m.nm < 0 ∧ n ≠ 5 ∧ ∃ w1 Q' c' fq', w' = w1.setCell ⟨b, oo + 1, none⟩ (.slice Q' (n + 1) c') ∧ Ch (fun t => t ∈ fq) w w1 ∧ RowO snpF 150 3 fq' w1 Q' (n + 1) c' (comS s m).snaps ∧ fq'.Nodup ∧ ∀ t ∈ fq', t ∈ fq ∨ w.heap.size ≤ t) := by
  have hbl := cell_lt hc1
  have hnq : ∀ t ∈ fq, t < w.heap.size := hQ.lt snpK
  have al := (Below.refl w.heap.size w).alloc (Nat.le_refl _) (.cells #[.int .i64 m.kd, .int .i64 m.cl, .int .i64 m.no, .string m.s, .string m.nm, .string m.tg, .int .i64 m.n, .slice A1 n1 c1] 47)
  have BM := BoxL.new w [.int .i64 m.kd, .int .i64 m.cl, .int .i64 m.no, .string m.s, .string m.nm, .string m.tg, .int .i64 m.n, .slice A1 n1 c1] 47
  unfold cmV
  go_enter Try.func190, Try.ntmps190
  go_wp2_with fail
  obtain ⟨W, hW⟩ : ∃ W, W = w.alloc (.cells #[.int .i64 m.kd, .int .i64 m.cl, .int .i64 m.no, .string m.s, .string m.nm, .string m.tg, .int .i64 m.n, .slice A1 n1 c1] 47) := ⟨_, rfl⟩
  obtain ⟨g, hg⟩ : ∃ g, w.heap.size = g := ⟨_, rfl⟩
  have HG := Lib.hid hg
  rw [← hW] at BM al ⊢
  simp only [hg] at BM ⊢
  have hbg : b < g := by omega
  have hqg : ∀ t ∈ fq, t < g := fun t ht => by have := hnq t ht; omega
  clear hW hg
  have k0 := keep_cell al hc0; have k1 := keep_cell al hc1
  have kf : W.frozen? ⟨b, oo + 1, none⟩ = false := (al.frozen (p := ⟨b, oo + 1, none⟩) hbl).trans hfz
  have QW := hQ.keep snpK al; have mW := hm.keep al
  have m4 := BM.cell 4 _ rfl; have hgl := BM.lt; have hbW := cell_lt k1
  obtain ⟨t, ht⟩ : ∃ t, snpFnd s.snaps 0 m.nm = t := ⟨_, rfl⟩
  have T := Lib.hid ht
  clear ht
  refine wp_region_grow (by kernel_rfl) (by kernel_rfl) ?_
  repeat (first | go_big_quiet_step ((go_at_call 204; exact grow_of (toldN T.out (snpFnd_impl s m.nm _ _ _ _ ((QW.keep snpK (Grow.below _)).at_ snpK (by omega)) (by omega))))))
  refine wpQuiet_nil ?_
  intro _ hw'
  obtain ⟨⟨w2, hb2⟩, hw''⟩ := hw'
  change _ = w2 at hw''
  subst hw''
  obtain ⟨V, hV⟩ := Below.nam hb2; subst hV
  have u0 := keep_cell hb2 k0; have u1 := keep_cell hb2 k1
  have uf : V.frozen? ⟨b, oo + 1, none⟩ = false := (hb2.frozen (p := ⟨b, oo + 1, none⟩) hbW).trans kf
  have QV := QW.keep snpK hb2; have mV := mW.keep hb2; have BV := BM.keep hb2
  have hBV := bthen al hb2
  have hzV := hBV.size
  have hbV := cell_lt u1
  clear k0 k1 kf QW mW BM m4 hgl hbW
  by_cases ht0 : 0 ≤ t
  · have gd : decide (t ≥ 0) = true := decide_eq_true ht0
    have HT0 := Lib.hid ht0; have hnl : ¬ t < 0 := by omega
    go_wp2
    go_returns
    exact .inl ⟨rfl, by rw [T.out]; exact HT0.out, hBV⟩
  have gd : decide (t ≥ 0) = false := decide_eq_false ht0
  have HT0 := Lib.hid ht0; have hlt0 : t < 0 := (by omega); clear ht0
  by_cases h5 : n = 5
  · have g5 : ((n : Int) == 5) = true := beq_iff_eq.2 (by omega)
    have H5 := Lib.hid h5; clear h5
    go_wp2
    go_returns
    exact .inr (.inl ⟨rfl, by rw [T.out]; have := HT0.out; omega, H5.out, hBV⟩)
  have g5 : ((n : Int) == 5) = false := beq_eq_false_iff_ne.2 (by omega)
  have H5 := Lib.hid h5; clear h5
  go_wp2
  obtain ⟨css, fps, rfl, own, hlQ, EQ⟩ := QV.ex
  have HLQ := Lib.hid hlQ; clear hlQ
  have hgl := BV.lt
  have hlt2 : ∀ t ∈ blkL Q ++ fps.flatten, t < g := hqg
  have hbQ : b ∉ blkL Q := fun h => hbq (List.mem_append_left _ h)
  have hgQ : g ∉ blkL Q := fun h => by have := hlt2 g (List.mem_append_left _ h); omega
  refine wp_region_dagb [20, 21, 22, 23, 24, 25, 26, 27, 28, 29, 30, 31, 32, 33, 34] (by kernel_rfl) (by kernel_rfl) (fun D vs w' => ∃ v20 v21 v22 v23 v24 v25 v26 v27 v28 v29 v30 v31 v32 v33 v34 : Value, vs = [v20, v21, v22, v23, v24, v25, v26, v27, v28, v29, v30, v31, v32, v33, v34] ∧ (D 12 = false → Below V.heap.size V w') ∧ (D 15 = false → Ch (fun t => t ∈ blkL Q) V w') ∧ V.heap.size ≤ w'.heap.size ∧ BoxL w' g [.int .i64 m.kd, .int .i64 m.cl, .int .i64 m.no, .string m.s, .string m.nm, .string m.tg, .int .i64 m.n, .slice A1 n1 c1] ∧ (D 12 = false → w'.ownsRow 0 150 3 (.slice Q n c) n css.flatten) ∧ (D 12 = false → Els snpF w' css fps s.snaps) ∧ (D 0 = true → v20 = .pointer (some ⟨b, oo, none⟩)) ∧ (D 1 = true → v21 = .pointer (some ⟨b, oo, none⟩)) ∧ (D 2 = true → v22 = .pointer (some ⟨b, oo, none⟩)) ∧ (D 3 = true → v23 = .pointer (some ⟨b, oo + 1, none⟩)) ∧ (D 4 = true → v24 = .slice Q n c) ∧ (D 5 = true → v25 = .pointer (some ⟨g, 4, none⟩)) ∧ (D 6 = true → v26 = .string m.nm) ∧ (D 7 = true → v27 = .pointer (some ⟨g, 7, none⟩)) ∧ (D 8 = true → v28 = .slice A1 n1 c1) ∧ (D 9 = true → (D 10 = false → ∃ (E2 : Option Addr) (ed2 : Nat) (f2 : List Nat), v29 = .slice E2 n1 ed2 ∧ f2.Nodup ∧ (∀ b ∈ f2, V.heap.size ≤ b ∧ b < w'.heap.size) ∧ StrO f2 w' E2 n1 ed2 m.ch)) ∧ (D 10 = true → (D 11 = false → ∃ (E2 : Option Addr) (ed2 : Nat) (f2 : List Nat), v30 = .agg #[.string m.nm, .string ByteArray.empty, .slice E2 n1 ed2] ∧ f2.Nodup ∧ (∀ b ∈ f2, V.heap.size ≤ b ∧ b < w'.heap.size) ∧ StrO f2 w' E2 n1 ed2 m.ch)) ∧ (D 11 = true → (D 12 = false → ∃ (gb : Nat) (E2 : Option Addr) (ed2 : Nat) (f2 : List Nat), v31 = .slice (some ⟨gb, 0, none⟩) 1 1 ∧ CellsAt w' (some ⟨gb, 0, none⟩) 1 3 [.string m.nm, .string ByteArray.empty, .slice E2 n1 ed2] ∧ f2.Nodup ∧ (∀ b ∈ f2, V.heap.size ≤ b ∧ b < w'.heap.size) ∧ StrO f2 w' E2 n1 ed2 m.ch)) ∧ (D 12 = true → (D 15 = false → ∃ (A' : Option Addr) (c' : Nat) (fp' : List Nat), v32 = .slice A' (n + 1) c' ∧ RowO snpF 150 3 fp' w' A' (n + 1) c' (s.snaps ++ [⟨m.nm, ByteArray.empty, m.ch⟩]) ∧ fp'.Nodup ∧ (∀ t ∈ fp', t ∈ blkL Q ++ fps.flatten ∨ V.heap.size ≤ t))) ∧ (D 13 = true → v33 = .pointer (some ⟨b, oo, none⟩)) ∧ (D 14 = true → v34 = .pointer (some ⟨b, oo + 1, none⟩)) ∧ (D 15 = true → ∃ (w1 : World) (A' : Option Addr) (c' : Nat) (fp' : List Nat), w' = w1.setCell ⟨b, oo + 1, none⟩ (.slice A' (n + 1) c') ∧ Ch (fun t => t ∈ blkL Q) V w1 ∧ RowO snpF 150 3 fp' w1 A' (n + 1) c' (s.snaps ++ [⟨m.nm, ByteArray.empty, m.ch⟩]) ∧ fp'.Nodup ∧ (∀ t ∈ fp', t ∈ blkL Q ++ fps.flatten ∨ V.heap.size ≤ t)))
    ⟨_, _, _, _, _, _, _, _, _, _, _, _, _, _, _, rfl, (fun _ => (Below.refl _ _).drew), (fun _ => Ch.of_below (S := fun t => t ∈ blkL Q) (Below.refl _ _).drew), (by simp), (BV.keep (Below.refl _ _).drew), (fun _ => own_chL own (Ch.of_below (S := fun _ => False) (Below.refl _ _).drew) (fun _ _ h => h)), (fun _ => EQ.keep snpK (Below.refl _ _).drew), (fun h => by cases h), (fun h => by cases h), (fun h => by cases h), (fun h => by cases h), (fun h => by cases h), (fun h => by cases h), (fun h => by cases h), (fun h => by cases h), (fun h => by cases h), (fun h => by cases h), (fun h => by cases h), (fun h => by cases h), (fun h => by cases h), (fun h => by cases h), (fun h => by cases h), (fun h => by cases h)⟩ ?_ ?_
  · intro i D vs w' hi hD hdep hcl hI
    have hi' : i < 16 := hi
    obtain ⟨v20, v21, v22, v23, v24, v25, v26, v27, v28, v29, v30, v31, v32, v33, v34, rfl, hb, hC, hzz, hM, hown, hE, k0, k1, k2, k3, k4, k5, k6, k7, k8, k9, k10, k11, k12, k13, k14, k15⟩ := hI
    simp only [putAll, List.setIfInBounds_toArray, List.set_cons_succ, List.set_cons_zero]
    rcases (show i = 0 ∨ i = 1 ∨ i = 2 ∨ i = 3 ∨ i = 4 ∨ i = 5 ∨ i = 6 ∨ i = 7 ∨ i = 8 ∨ i = 9 ∨ i = 10 ∨ i = 11 ∨ i = 12 ∨ i = 13 ∨ i = 14 ∨ i = 15 by omega) with rfl | rfl | rfl | rfl | rfl | rfl | rfl | rfl | rfl | rfl | rfl | rfl | rfl | rfl | rfl | rfl
    · refine wpOp_step (by simp only [List.getElem?_toArray, List.getElem?_cons_zero]; rfl) (fun K hK => ?_)
      go_simp
      refine hK _ _ ⟨[.pointer (some ⟨b, oo, none⟩), v21, v22, v23, v24, v25, v26, v27, v28, v29, v30, v31, v32, v33, v34], ?_, _, _, _, _, _, _, _, _, _, _, _, _, _, _, _, rfl, hb, hC, hzz, hM, hown, hE, (fun _ => rfl), k1, k2, k3, k4, k5, k6, k7, k8, k9, k10, k11, k12, k13, k14, k15⟩
      simp only [putAll, List.setIfInBounds_toArray, List.set_cons_succ, List.set_cons_zero] <;> rfl
    · refine wpOp_step (by simp only [List.getElem?_toArray, List.getElem?_cons_succ, List.getElem?_cons_zero]; rfl) (fun K hK => ?_)
      go_simp
      refine hK _ _ ⟨[v20, .pointer (some ⟨b, oo, none⟩), v22, v23, v24, v25, v26, v27, v28, v29, v30, v31, v32, v33, v34], ?_, _, _, _, _, _, _, _, _, _, _, _, _, _, _, _, rfl, hb, hC, hzz, hM, hown, hE, k0, (fun _ => rfl), k2, k3, k4, k5, k6, k7, k8, k9, k10, k11, k12, k13, k14, k15⟩
      simp only [putAll, List.setIfInBounds_toArray, List.set_cons_succ, List.set_cons_zero] <;> rfl
    · have e1 := k1 (hdep 1 (by kernel_rfl))
      subst e1
      refine wpOp_step (by simp only [List.getElem?_toArray, List.getElem?_cons_succ, List.getElem?_cons_zero]; rfl) (fun K hK => ?_)
      go_simp
      refine hK _ _ ⟨[v20, .pointer (some ⟨b, oo, none⟩), .pointer (some ⟨b, oo, none⟩), v23, v24, v25, v26, v27, v28, v29, v30, v31, v32, v33, v34], ?_, _, _, _, _, _, _, _, _, _, _, _, _, _, _, _, rfl, hb, hC, hzz, hM, hown, hE, k0, (fun _ => rfl), (fun _ => rfl), k3, k4, k5, k6, k7, k8, k9, k10, k11, k12, k13, k14, k15⟩
      simp only [putAll, List.setIfInBounds_toArray, List.set_cons_succ, List.set_cons_zero] <;> rfl
    · have e2 := k2 (hdep 2 (by kernel_rfl))
      subst e2
      refine wpOp_step (by simp only [List.getElem?_toArray, List.getElem?_cons_succ, List.getElem?_cons_zero]; rfl) (fun K hK => ?_)
      go_simp
      refine hK _ _ ⟨[v20, v21, .pointer (some ⟨b, oo, none⟩), .pointer (some ⟨b, oo + 1, none⟩), v24, v25, v26, v27, v28, v29, v30, v31, v32, v33, v34], ?_, _, _, _, _, _, _, _, _, _, _, _, _, _, _, _, rfl, hb, hC, hzz, hM, hown, hE, k0, k1, (fun _ => rfl), (fun _ => rfl), k4, k5, k6, k7, k8, k9, k10, k11, k12, k13, k14, k15⟩
      simp only [putAll, List.setIfInBounds_toArray, List.set_cons_succ, List.set_cons_zero] <;> rfl
    · have e3 := k3 (hdep 3 (by kernel_rfl))
      subst e3
      have n15 : D 15 = false := Bool.eq_false_iff.2 (fun h => absurd (hcl 12 4 (hcl 15 12 h (by kernel_rfl)) (by kernel_rfl)) (by rw [hD]; simp))
      have q7 := (hC n15).cell u1 hbQ
      refine wpOp_step (by simp only [List.getElem?_toArray, List.getElem?_cons_succ, List.getElem?_cons_zero]; rfl) (fun K hK => ?_)
      go_simp
      refine hK _ _ ⟨[v20, v21, v22, .pointer (some ⟨b, oo + 1, none⟩), .slice Q n c, v25, v26, v27, v28, v29, v30, v31, v32, v33, v34], ?_, _, _, _, _, _, _, _, _, _, _, _, _, _, _, _, rfl, hb, hC, hzz, hM, hown, hE, k0, k1, k2, (fun _ => rfl), (fun _ => rfl), k5, k6, k7, k8, k9, k10, k11, k12, k13, k14, k15⟩
      simp only [putAll, List.setIfInBounds_toArray, List.set_cons_succ, List.set_cons_zero] <;> rfl
    · refine wpOp_step (by simp only [List.getElem?_toArray, List.getElem?_cons_succ, List.getElem?_cons_zero]; rfl) (fun K hK => ?_)
      go_simp
      refine hK _ _ ⟨[v20, v21, v22, v23, v24, .pointer (some ⟨g, 4, none⟩), v26, v27, v28, v29, v30, v31, v32, v33, v34], ?_, _, _, _, _, _, _, _, _, _, _, _, _, _, _, _, rfl, hb, hC, hzz, hM, hown, hE, k0, k1, k2, k3, k4, (fun _ => rfl), k6, k7, k8, k9, k10, k11, k12, k13, k14, k15⟩
      simp only [putAll, List.setIfInBounds_toArray, List.set_cons_succ, List.set_cons_zero] <;> rfl
    · have e5 := k5 (hdep 5 (by kernel_rfl))
      subst e5
      have q7 := hM.cell 4 _ rfl
      refine wpOp_step (by simp only [List.getElem?_toArray, List.getElem?_cons_succ, List.getElem?_cons_zero]; rfl) (fun K hK => ?_)
      go_simp
      refine hK _ _ ⟨[v20, v21, v22, v23, v24, .pointer (some ⟨g, 4, none⟩), .string m.nm, v27, v28, v29, v30, v31, v32, v33, v34], ?_, _, _, _, _, _, _, _, _, _, _, _, _, _, _, _, rfl, hb, hC, hzz, hM, hown, hE, k0, k1, k2, k3, k4, (fun _ => rfl), (fun _ => rfl), k7, k8, k9, k10, k11, k12, k13, k14, k15⟩
      simp only [putAll, List.setIfInBounds_toArray, List.set_cons_succ, List.set_cons_zero] <;> rfl
    · refine wpOp_step (by simp only [List.getElem?_toArray, List.getElem?_cons_succ, List.getElem?_cons_zero]; rfl) (fun K hK => ?_)
      go_simp
      refine hK _ _ ⟨[v20, v21, v22, v23, v24, v25, v26, .pointer (some ⟨g, 7, none⟩), v28, v29, v30, v31, v32, v33, v34], ?_, _, _, _, _, _, _, _, _, _, _, _, _, _, _, _, rfl, hb, hC, hzz, hM, hown, hE, k0, k1, k2, k3, k4, k5, k6, (fun _ => rfl), k8, k9, k10, k11, k12, k13, k14, k15⟩
      simp only [putAll, List.setIfInBounds_toArray, List.set_cons_succ, List.set_cons_zero] <;> rfl
    · have e7 := k7 (hdep 7 (by kernel_rfl))
      subst e7
      have q7 := hM.cell 7 _ rfl
      refine wpOp_step (by simp only [List.getElem?_toArray, List.getElem?_cons_succ, List.getElem?_cons_zero]; rfl) (fun K hK => ?_)
      go_simp
      refine hK _ _ ⟨[v20, v21, v22, v23, v24, v25, v26, .pointer (some ⟨g, 7, none⟩), .slice A1 n1 c1, v29, v30, v31, v32, v33, v34], ?_, _, _, _, _, _, _, _, _, _, _, _, _, _, _, _, rfl, hb, hC, hzz, hM, hown, hE, k0, k1, k2, k3, k4, k5, k6, (fun _ => rfl), (fun _ => rfl), k9, k10, k11, k12, k13, k14, k15⟩
      simp only [putAll, List.setIfInBounds_toArray, List.set_cons_succ, List.set_cons_zero] <;> rfl
    · have e8 := k8 (hdep 8 (by kernel_rfl))
      subst e8
      have n10 : D 10 = false := Bool.eq_false_iff.2 (fun h => absurd (hcl 10 9 h (by kernel_rfl)) (by rw [hD]; simp))
      have n11 : D 11 = false := Bool.eq_false_iff.2 (fun h => absurd (hcl 10 9 (hcl 11 10 h (by kernel_rfl)) (by kernel_rfl)) (by rw [hD]; simp))
      have n12 : D 12 = false := Bool.eq_false_iff.2 (fun h => absurd (hcl 10 9 (hcl 11 10 (hcl 12 11 h (by kernel_rfl)) (by kernel_rfl)) (by kernel_rfl)) (by rw [hD]; simp))
      have n15 : D 15 = false := Bool.eq_false_iff.2 (fun h => absurd (hcl 10 9 (hcl 11 10 (hcl 12 11 (hcl 15 12 h (by kernel_rfl)) (by kernel_rfl)) (by kernel_rfl)) (by kernel_rfl)) (by rw [hD]; simp))
      refine wpOp_step (by simp only [List.getElem?_toArray, List.getElem?_cons_succ, List.getElem?_cons_zero]; rfl) (fun K hK => ?_)
      go_simp
      refine (copyTextsT A1 n1 c1 m.ch _ (mV.keep (hb n12)).at_r' mV.nilcap (by omega)).mono ?_
      rintro e w4_ ⟨E2, ed2, rfl, hin, hb4⟩
      obtain ⟨f2, hn2, hf2, so2⟩ := strO_in hin
      refine hK _ _ ⟨[v20, v21, v22, v23, v24, v25, v26, v27, .slice A1 n1 c1, .slice E2 n1 ed2, v30, v31, v32, v33, v34], ?_, _, _, _, _, _, _, _, _, _, _, _, _, _, _, _, rfl, (fun h' => bthen (hb h') hb4), (fun h' => (hC h').trans (Ch.of_below hb4)), (Nat.le_trans hzz hb4.size), (hM.keep hb4), (fun h' => own_chL (hown h') (Ch.of_below (S := fun _ => False) hb4) (fun _ _ h => h)), (fun h' => (hE h').keep snpK hb4), k0, k1, k2, k3, k4, k5, k6, k7, (fun _ => rfl), (fun _ _ => ⟨E2, ed2, f2, rfl, hn2, fun b hb => ⟨by have := (hf2 b hb).1; omega, (hf2 b hb).2⟩, so2⟩), (fun h => by rw [show D 10 = true from by simpa using h] at n10; cases n10), (fun h => by rw [show D 11 = true from by simpa using h] at n11; cases n11), (fun h => by rw [show D 12 = true from by simpa using h] at n12; cases n12), k13, k14, (fun h => by rw [show D 15 = true from by simpa using h] at n15; cases n15)⟩
      simp only [putAll, List.setIfInBounds_toArray, List.set_cons_succ, List.set_cons_zero] <;> rfl
    · have e6 := k6 (hdep 6 (by kernel_rfl))
      subst e6
      obtain z9 := k9 (hdep 9 (by kernel_rfl))
      obtain ⟨E2, ed2, f2, rfl, hn2, hf2, so2⟩ := z9 hD
      refine wpOp_step (by simp only [List.getElem?_toArray, List.getElem?_cons_succ, List.getElem?_cons_zero]; rfl) (fun K hK => ?_)
      go_simp
      refine hK _ _ ⟨[v20, v21, v22, v23, v24, v25, .string m.nm, v27, v28, .slice E2 n1 ed2, .agg #[.string m.nm, .string ByteArray.empty, .slice E2 n1 ed2], v31, v32, v33, v34], ?_, _, _, _, _, _, _, _, _, _, _, _, _, _, _, _, rfl, hb, hC, hzz, hM, hown, hE, k0, k1, k2, k3, k4, k5, (fun _ => rfl), k7, k8, (fun _ h => absurd h (by simp)), (fun _ _ => ⟨E2, ed2, f2, rfl, hn2, hf2, so2⟩), k11, k12, k13, k14, k15⟩
      simp only [putAll, List.setIfInBounds_toArray, List.set_cons_succ, List.set_cons_zero] <;> rfl
    · obtain z10 := k10 (hdep 10 (by kernel_rfl))
      have n12 : D 12 = false := Bool.eq_false_iff.2 (fun h => absurd (hcl 12 11 h (by kernel_rfl)) (by rw [hD]; simp))
      have n15 : D 15 = false := Bool.eq_false_iff.2 (fun h => absurd (hcl 12 11 (hcl 15 12 h (by kernel_rfl)) (by kernel_rfl)) (by rw [hD]; simp))
      obtain ⟨E2, ed2, f2, rfl, hn2, hf2, so2⟩ := z10 hD
      have hal := (Below.refl w'.heap.size w').alloc (Nat.le_refl _) (.cells #[.string m.nm, .string ByteArray.empty, .slice E2 n1 ed2] 150)
      refine wpOp_step (by simp only [List.getElem?_toArray, List.getElem?_cons_succ, List.getElem?_cons_zero]; rfl) (fun K hK => ?_)
      go_simp
      refine hK _ _ ⟨[v20, v21, v22, v23, v24, v25, v26, v27, v28, v29, .agg #[.string m.nm, .string ByteArray.empty, .slice E2 n1 ed2], .slice (some ⟨w'.heap.size, 0, none⟩) 1 1, v32, v33, v34], ?_, _, _, _, _, _, _, _, _, _, _, _, _, _, _, _, rfl, (fun h' => bthen (hb h') hal), (fun h' => (hC h').trans (Ch.of_below hal)), (Nat.le_trans hzz hal.size), (hM.keep hal), (fun h' => own_chL (hown h') (Ch.of_below (S := fun _ => False) hal) (fun _ _ h => h)), (fun h' => (hE h').keep snpK hal), k0, k1, k2, k3, k4, k5, k6, k7, k8, (fun _ h => by have d9 := hdep 10 (by kernel_rfl); rw [show D 10 = false from by simpa using h] at d9; cases d9), (fun _ h => absurd h (by simp)), (fun _ _ => ⟨_, E2, ed2, f2, rfl, new1c _ [.string m.nm, .string ByteArray.empty, .slice E2 n1 ed2] 3 rfl _, hn2, fun b hb => ⟨(hf2 b hb).1, Nat.lt_of_lt_of_le (hf2 b hb).2 hal.size⟩, so2.keep hal⟩), (fun h => by rw [show D 12 = true from by simpa using h] at n12; cases n12), k13, k14, (fun h => by rw [show D 15 = true from by simpa using h] at n15; cases n15)⟩
      simp only [putAll, List.setIfInBounds_toArray, List.set_cons_succ, List.set_cons_zero] <;> rfl
    · have e4 := k4 (hdep 4 (by kernel_rfl))
      subst e4
      obtain z11 := k11 (hdep 11 (by kernel_rfl))
      have n15 : D 15 = false := Bool.eq_false_iff.2 (fun h => absurd (hcl 15 12 h (by kernel_rfl)) (by rw [hD]; simp))
      obtain ⟨gb, E2, ed2, f2, rfl, hcl4, hn2, hf2, so2⟩ := z11 hD
      refine wpOp_step (by simp only [List.getElem?_toArray, List.getElem?_cons_succ, List.getElem?_cons_zero]; rfl) (fun K hK => ?_)
      refine step_app (by rfl) (.tmp 24) (.tmp 31) 146 (by rfl) 0 150 _ 3 56 Try.underlying146 snpInfo rfl (by omega) (.slice Q n c) n css.flatten (by rfl) (hown hD) (some ⟨gb, 0, none⟩) 1 1 [.string m.nm, .string ByteArray.empty, .slice E2 n1 ed2] (by rfl) hcl4 (by simp [Value.oneCell']) (fun h => by cases h) (by unfold maxLen; omega) (by omega) (Nat.zero_le _) ?_
      intro A' c' wq2 own5 hg5 hb5 hob5
      have hNN : ((blkL Q ++ fps.flatten) ++ f2).Nodup := nodup_new (m := V.heap.size) hN hn2 (fun x hx => by have := hlt2 x hx; omega) (fun x hx => (hf2 x hx).1)
      obtain ⟨fp', RO5, hN5, hF5, hc5⟩ := row_app1 (x := (⟨m.nm, ByteArray.empty, m.ch⟩ : Snp)) snpK HLQ.out (hE hD) (snpF_of (y := (⟨m.nm, ByteArray.empty, m.ch⟩ : Snp)) so2) hNN own5 hg5 hob5 (Nat.le_refl _)
      refine hK _ _ ⟨[v20, v21, v22, v23, .slice Q n c, v25, v26, v27, v28, v29, v30, .slice (some ⟨gb, 0, none⟩) 1 1, .slice A' (n + 1) c', v33, v34], ?_, _, _, _, _, _, _, _, _, _, _, _, _, _, _, _, rfl, (fun h => absurd h (by simp)), (fun h' => (hC h').trans hc5), (Nat.le_trans hzz hc5.size), (hM.ch hc5 hgQ), (fun h => absurd h (by simp)), (fun h => absurd h (by simp)), k0, k1, k2, k3, (fun _ => rfl), k5, k6, k7, k8, (fun _ h => by have d9 := hcl 11 10 (hdep 11 (by kernel_rfl)) (by kernel_rfl); rw [show D 10 = false from by simpa using h] at d9; cases d9), (fun _ h => by have d10 := hdep 11 (by kernel_rfl); rw [show D 11 = false from by simpa using h] at d10; cases d10), (fun _ h => absurd h (by simp)), (fun _ _ => ⟨A', c', fp', rfl, RO5, hN5, fun b hb => by have h3 := hF5 b hb; have h5 := hf2 b; rcases h3 with h1 | h1 | h1; (exact .inl h1); (exact .inr (h5 h1).1); (exact .inr (by omega))⟩), k13, k14, (fun h => by rw [show D 15 = true from by simpa using h] at n15; cases n15)⟩
      simp only [Act.put, putAll, List.setIfInBounds_toArray, List.set_cons_succ, List.set_cons_zero] <;> rfl
    · have e0 := k0 (hdep 0 (by kernel_rfl))
      subst e0
      refine wpOp_step (by simp only [List.getElem?_toArray, List.getElem?_cons_succ, List.getElem?_cons_zero]; rfl) (fun K hK => ?_)
      go_simp
      refine hK _ _ ⟨[.pointer (some ⟨b, oo, none⟩), v21, v22, v23, v24, v25, v26, v27, v28, v29, v30, v31, v32, .pointer (some ⟨b, oo, none⟩), v34], ?_, _, _, _, _, _, _, _, _, _, _, _, _, _, _, _, rfl, hb, hC, hzz, hM, hown, hE, (fun _ => rfl), k1, k2, k3, k4, k5, k6, k7, k8, k9, k10, k11, k12, (fun _ => rfl), k14, k15⟩
      simp only [putAll, List.setIfInBounds_toArray, List.set_cons_succ, List.set_cons_zero] <;> rfl
    · have e13 := k13 (hdep 13 (by kernel_rfl))
      subst e13
      refine wpOp_step (by simp only [List.getElem?_toArray, List.getElem?_cons_succ, List.getElem?_cons_zero]; rfl) (fun K hK => ?_)
      go_simp
      refine hK _ _ ⟨[v20, v21, v22, v23, v24, v25, v26, v27, v28, v29, v30, v31, v32, .pointer (some ⟨b, oo, none⟩), .pointer (some ⟨b, oo + 1, none⟩)], ?_, _, _, _, _, _, _, _, _, _, _, _, _, _, _, _, rfl, hb, hC, hzz, hM, hown, hE, k0, k1, k2, k3, k4, k5, k6, k7, k8, k9, k10, k11, k12, (fun _ => rfl), (fun _ => rfl), k15⟩
      simp only [putAll, List.setIfInBounds_toArray, List.set_cons_succ, List.set_cons_zero] <;> rfl
    · obtain z12 := k12 (hdep 12 (by kernel_rfl))
      have e14 := k14 (hdep 14 (by kernel_rfl))
      subst e14
      obtain ⟨A', c', fp', rfl, RO5, hN5, hF5⟩ := z12 hD
      have q7 := (hC hD).cell u1 hbQ
      have y7 : w'.frozen? ⟨b, oo + 1, none⟩ = false := (World.frozen?_of_block ((hC hD).block b hbV hbQ)).trans uf
      have d12 : D 12 = true := hdep 12 (by kernel_rfl)
      have one : Ch (fun k => k = b) w' (w'.setCell ⟨b, oo + 1, none⟩ (.slice A' (n + 1) c')) := Ch.set
      refine wpOp_step (by simp only [List.getElem?_toArray, List.getElem?_cons_succ, List.getElem?_cons_zero]; rfl) (fun K hK => ?_)
      go_simp
      refine hK _ _ ⟨[v20, v21, v22, v23, v24, v25, v26, v27, v28, v29, v30, v31, .slice A' (n + 1) c', v33, .pointer (some ⟨b, oo + 1, none⟩)], ?_, _, _, _, _, _, _, _, _, _, _, _, _, _, _, _, rfl, (fun h' => by rw [show D 12 = false from by simpa using h'] at d12; cases d12), (fun h => absurd h (by simp)), (Nat.le_trans hzz one.size), (hM.ch one (ne_blk (by omega))), (fun h' => by rw [show D 12 = false from by simpa using h'] at d12; cases d12), (fun h' => by rw [show D 12 = false from by simpa using h'] at d12; cases d12), k0, k1, k2, k3, k4, k5, k6, k7, k8, (fun _ h => by have d9 := hcl 11 10 (hcl 12 11 d12 (by kernel_rfl)) (by kernel_rfl); rw [show D 10 = false from by simpa using h] at d9; cases d9), (fun _ h => by have d10 := hcl 12 11 d12 (by kernel_rfl); rw [show D 11 = false from by simpa using h] at d10; cases d10), (fun _ h => by rw [show D 12 = false from by simpa using h] at d12; cases d12), (fun _ h => absurd h (by simp)), k13, (fun _ => rfl), (fun _ => ⟨w', A', c', fp', rfl, hC hD, RO5, hN5, hF5⟩)⟩
      simp only [putAll, List.setIfInBounds_toArray, List.set_cons_succ, List.set_cons_zero] <;> rfl
  · intro D vs w' hD hI
    obtain ⟨v20, v21, v22, v23, v24, v25, v26, v27, v28, v29, v30, v31, v32, v33, v34, rfl, hb, hC, hzz, hM, hown, hE, k0, k1, k2, k3, k4, k5, k6, k7, k8, k9, k10, k11, k12, k13, k14, k15⟩ := hI
    simp only [putAll, List.setIfInBounds_toArray, List.set_cons_succ, List.set_cons_zero]
    obtain ⟨w1, A', c', fp', rfl, hC1, RO6, hN6, hF6⟩ := k15 (hD 15 (show 15 < 16 by decide))
    clear hD hb hC hown hE
    go_wp2
    go_returns
    exact .inr (.inr ⟨rfl, by rw [T.out]; have := HT0.out; omega, H5.out, w1, A', c', fp', rfl, ((Ch.of_below hBV).trans (hC1.mono (fun t ht => List.mem_append_left _ ht))), RO6, hN6, fun t ht => by rcases hF6 t ht with h1 | h1; (exact .inl h1); (exact .inr (by omega))⟩)
/-- a set with another tag at a snapshot -/
def tagS (s : Cst) (m : Cm) (k : Nat) : Cst := ⟨s.nm, s.snaps.set k ⟨(snpAt s.snaps k).nm, m.tg, (snpAt s.snaps k).ch⟩⟩
theorem set_split {α : Type} {l : List α} {k : Nat} {x y : α} (h : l[k]? = some x) : l.set k y = l.take k ++ y :: l.drop (k + 1) := by
  obtain ⟨hk, _⟩ := List.getElem?_eq_some_iff.1 h
  rw [List.set_eq_take_append_cons_drop, if_pos hk]
theorem own_off {w : World} {base e sz n c b o : Nat} {xs : List Value} (h : w.ownsRow base e sz (.slice (some ⟨b, o, none⟩) n c) n xs) (_ : 0 < n) : o = 0 := by
  rcases h.2 with ⟨hv, h0⟩ | ⟨g, cap, cur, hv, hb, hg, _⟩
  · cases hv
  · cases hv; rfl
theorem els_cut {α : Type} {F : List Nat → World → List Value → α → Prop} {w : World} {css : List (List Value)} {fps : List (List Nat)} {l : List α} {k : Nat} {x : α} (h : Els F w css fps l) (hx : l[k]? = some x) :
    ∃ c1 c2 f1 f2 cs f, css = c1 ++ cs :: c2 ∧ fps = f1 ++ f :: f2 ∧ Els F w c1 f1 (l.take k) ∧ F f w cs x ∧ Els F w c2 f2 (l.drop (k + 1)) := by
  obtain ⟨hk, rfl⟩ := List.getElem?_eq_some_iff.1 hx
  have e0 : l = l.take k ++ (l[k] :: l.drop (k + 1)) := by rw [← List.drop_eq_getElem_cons hk, List.take_append_drop]
  rw [e0] at h
  obtain ⟨c1, c2, f1, f2, rfl, rfl, h1, h2⟩ := h.split
  obtain ⟨cs, c3, f, f3, rfl, rfl, h3, h4⟩ := h2.cons
  exact ⟨c1, c3, f1, f3, cs, f, rfl, rfl, h1, h3, h4⟩
set_option maxRecDepth 8000 in
set_option maxHeartbeats 8000000 in
theorem tag_impl (s : Cst) (m : Cm) (b oo : Nat) (Q : Option Addr) (n c : Nat) (fq : List Nat) (A1 : Option Addr) (n1 c1 : Nat) (w : World) (hc0 : w.cell? ⟨b, oo, none⟩ = some (.string s.nm)) (hc1 : w.cell? ⟨b, oo + 1, none⟩ = some (.slice Q n c))
    (hQ : RowO snpF 150 3 fq w Q n c s.snaps) (hN : fq.Nodup) (hbq : b ∉ fq) (hn : n ≤ 1000) :
    Calls Try.prog 191 #[.pointer (some ⟨b, oo, none⟩), cmV m (.slice A1 n1 c1)] w fun e w' => (e = .returned (.string noT) ∧ snpFnd s.snaps 0 m.nm < 0 ∧ Below w.heap.size w w') ∨
      (e = .returned (.string okT) ∧ ∃ k : Nat, snpFnd s.snaps 0 m.nm = (k : Int) ∧ k < n ∧ RowO snpF 150 3 fq w' Q n c (tagS s m k).snaps ∧ Ch (fun t => t ∈ fq) w w') := by
  have hbl := cell_lt hc1
  have hnq : ∀ t ∈ fq, t < w.heap.size := hQ.lt snpK
  have al := (Below.refl w.heap.size w).alloc (Nat.le_refl _) (.cells #[.int .i64 m.kd, .int .i64 m.cl, .int .i64 m.no, .string m.s, .string m.nm, .string m.tg, .int .i64 m.n, .slice A1 n1 c1] 47)
  have BM := BoxL.new w [.int .i64 m.kd, .int .i64 m.cl, .int .i64 m.no, .string m.s, .string m.nm, .string m.tg, .int .i64 m.n, .slice A1 n1 c1] 47
  have HLN := Lib.hid hQ.len
  unfold cmV
  go_enter Try.func191, Try.ntmps191
  go_wp2_with fail
  obtain ⟨W, hW⟩ : ∃ W, W = w.alloc (.cells #[.int .i64 m.kd, .int .i64 m.cl, .int .i64 m.no, .string m.s, .string m.nm, .string m.tg, .int .i64 m.n, .slice A1 n1 c1] 47) := ⟨_, rfl⟩
  obtain ⟨g, hg⟩ : ∃ g, w.heap.size = g := ⟨_, rfl⟩
  have HG := Lib.hid hg
  rw [← hW] at BM al ⊢
  simp only [hg] at BM ⊢
  have hbg : b < g := by omega
  have hqg : ∀ t ∈ fq, t < g := fun t ht => by have := hnq t ht; omega
  clear hW hg
  have k0 := keep_cell al hc0; have k1 := keep_cell al hc1
  have QW := hQ.keep snpK al
  have m4 := BM.cell 4 _ rfl; have hgl := BM.lt; have hbW := cell_lt k1
  have hin := snpFnd_in m.nm s.snaps 0
  obtain ⟨t, ht⟩ : ∃ t, snpFnd s.snaps 0 m.nm = t := ⟨_, rfl⟩
  have T := Lib.hid ht
  rw [ht] at hin; clear ht
  refine wp_region_grow (by kernel_rfl) (by kernel_rfl) ?_
  repeat (first | go_big_quiet_step ((go_at_call 204; exact grow_of (toldN T.out (snpFnd_impl s m.nm _ _ _ _ ((QW.keep snpK (Grow.below _)).at_ snpK (by omega)) (by omega))))))
  refine wpQuiet_nil ?_
  intro _ hw'
  obtain ⟨⟨w2, hb2⟩, hw''⟩ := hw'
  change _ = w2 at hw''
  subst hw''
  obtain ⟨V, hV⟩ := Below.nam hb2; subst hV
  have u1 := keep_cell hb2 k1
  have QV := QW.keep snpK hb2; have BV := BM.keep hb2
  have hBV := bthen al hb2
  have hzV := hBV.size
  have hbV := cell_lt u1
  clear k0 k1 QW BM m4 hgl hbW
  rcases hin with ⟨ht1, _⟩ | ⟨k, hk, htk, _, _⟩
  · have hlt0 : t < 0 := by omega
    have HT0 := Lib.hid hlt0; clear ht1
    go_wp2
    go_returns
    exact .inl ⟨rfl, by rw [T.out]; exact HT0.out, hBV⟩
  have htk2 : t = (k : Int) := by rw [htk]; congr 1; omega
  subst htk2
  have hkn : k < n := by have := HLN.out; omega
  have hnl : ¬ ((k : Int) < 0) := by omega
  have hil : (k : Int) < (n : Int) := by omega
  clear htk
  go_wp2
  obtain ⟨css, fps, rfl, own, hlQ, EQ⟩ := QV.ex
  have HLQ := Lib.hid hlQ; clear hlQ
  obtain ⟨qb, qo, hQe, hqc⟩ := (own_cells own).2 (by omega)
  subst hQe
  obtain ⟨x, hx⟩ : ∃ x, s.snaps[k]? = some x := ⟨_, List.getElem?_eq_getElem hk⟩
  obtain ⟨d1, d2, f1, f2, cs, f, rfl, rfl, E1, hF, E2⟩ := els_cut EQ hx
  have hq0 : qo = 0 := own_off own (by omega)
  subst hq0
  obtain ⟨X1, xn, xc, fx, rfl, rfl, hSx⟩ := hF
  have hfr := own.frozenAt (k * 3 + 1)
  have hcell : V.cell? ⟨qb, k * 3 + 1, none⟩ = some (.string x.tg) := by
    have h1 : (d1.flatten).length = k * 3 := by rw [E1.flat snpK, List.length_take]; congr 1; omega
    have := hqc (k * 3 + 1) (.string x.tg) (by rw [List.flatten_append, List.getElem?_append_right (by omega), h1]; simp [snpL])
    simpa using this
  have hgl := BV.lt
  have hqbV := cell_lt hcell
  have hbq2 : b ≠ qb := fun h => hbq (by rw [h]; simp [blkL])
  have hqbg : qb < g := hqg qb (by simp [blkL])
  refine wp_region_dagb [14, 15, 16, 17, 18, 19, 20, 21, 22] (by kernel_rfl) (by kernel_rfl) (fun D vs w' => ∃ v14 v15 v16 v17 v18 v19 v20 v21 v22 : Value, vs = [v14, v15, v16, v17, v18, v19, v20, v21, v22] ∧ (D 9 = false → Below V.heap.size V w') ∧ (D 0 = true → v14 = .pointer (some ⟨b, oo, none⟩)) ∧ (D 1 = true → v15 = .pointer (some ⟨b, oo, none⟩)) ∧ (D 2 = true → v16 = .pointer (some ⟨b, oo + 1, none⟩)) ∧ (D 3 = true → v17 = .slice (some ⟨qb, 0, none⟩) n c) ∧ (D 4 = true → v18 = .int .i64 (k : Int)) ∧ (D 5 = true → v19 = .pointer (some ⟨g, 5, none⟩)) ∧ (D 6 = true → v20 = .string m.tg) ∧ (D 7 = true → v21 = .pointer (some ⟨qb, k * 3, none⟩)) ∧ (D 8 = true → v22 = .pointer (some ⟨qb, k * 3 + 1, none⟩)) ∧ (D 9 = true → ∃ (w1 : World), w' = w1.setCell ⟨qb, k * 3 + 1, none⟩ (.string m.tg) ∧ Below V.heap.size V w1))
    ⟨_, _, _, _, _, _, _, _, _, rfl, (fun _ => (Below.refl _ _).drew), (fun h => by cases h), (fun h => by cases h), (fun h => by cases h), (fun h => by cases h), (fun h => by cases h), (fun h => by cases h), (fun h => by cases h), (fun h => by cases h), (fun h => by cases h), (fun h => by cases h)⟩ ?_ ?_
  · intro i D vs w' hi hD hdep hcl hI
    have hi' : i < 10 := hi
    obtain ⟨v14, v15, v16, v17, v18, v19, v20, v21, v22, rfl, hb, k0, k1, k2, k3, k4, k5, k6, k7, k8, k9⟩ := hI
    simp only [putAll, List.setIfInBounds_toArray, List.set_cons_succ, List.set_cons_zero]
    rcases (show i = 0 ∨ i = 1 ∨ i = 2 ∨ i = 3 ∨ i = 4 ∨ i = 5 ∨ i = 6 ∨ i = 7 ∨ i = 8 ∨ i = 9 by omega) with rfl | rfl | rfl | rfl | rfl | rfl | rfl | rfl | rfl | rfl
    · refine wpOp_step (by simp only [List.getElem?_toArray, List.getElem?_cons_zero]; rfl) (fun K hK => ?_)
      go_simp
      refine hK _ _ ⟨[.pointer (some ⟨b, oo, none⟩), v15, v16, v17, v18, v19, v20, v21, v22], ?_, _, _, _, _, _, _, _, _, _, rfl, hb, (fun _ => rfl), k1, k2, k3, k4, k5, k6, k7, k8, k9⟩
      simp only [putAll, List.setIfInBounds_toArray, List.set_cons_succ, List.set_cons_zero] <;> rfl
    · have e0 := k0 (hdep 0 (by kernel_rfl))
      subst e0
      refine wpOp_step (by simp only [List.getElem?_toArray, List.getElem?_cons_succ, List.getElem?_cons_zero]; rfl) (fun K hK => ?_)
      go_simp
      refine hK _ _ ⟨[.pointer (some ⟨b, oo, none⟩), .pointer (some ⟨b, oo, none⟩), v16, v17, v18, v19, v20, v21, v22], ?_, _, _, _, _, _, _, _, _, _, rfl, hb, (fun _ => rfl), (fun _ => rfl), k2, k3, k4, k5, k6, k7, k8, k9⟩
      simp only [putAll, List.setIfInBounds_toArray, List.set_cons_succ, List.set_cons_zero] <;> rfl
    · have e1 := k1 (hdep 1 (by kernel_rfl))
      subst e1
      refine wpOp_step (by simp only [List.getElem?_toArray, List.getElem?_cons_succ, List.getElem?_cons_zero]; rfl) (fun K hK => ?_)
      go_simp
      refine hK _ _ ⟨[v14, .pointer (some ⟨b, oo, none⟩), .pointer (some ⟨b, oo + 1, none⟩), v17, v18, v19, v20, v21, v22], ?_, _, _, _, _, _, _, _, _, _, rfl, hb, k0, (fun _ => rfl), (fun _ => rfl), k3, k4, k5, k6, k7, k8, k9⟩
      simp only [putAll, List.setIfInBounds_toArray, List.set_cons_succ, List.set_cons_zero] <;> rfl
    · have e2 := k2 (hdep 2 (by kernel_rfl))
      subst e2
      have n9 : D 9 = false := Bool.eq_false_iff.2 (fun h => absurd (hcl 7 3 (hcl 8 7 (hcl 9 8 h (by kernel_rfl)) (by kernel_rfl)) (by kernel_rfl)) (by rw [hD]; simp))
      have q7 := keep_cell (hb n9) u1
      refine wpOp_step (by simp only [List.getElem?_toArray, List.getElem?_cons_succ, List.getElem?_cons_zero]; rfl) (fun K hK => ?_)
      go_simp
      refine hK _ _ ⟨[v14, v15, .pointer (some ⟨b, oo + 1, none⟩), .slice (some ⟨qb, 0, none⟩) n c, v18, v19, v20, v21, v22], ?_, _, _, _, _, _, _, _, _, _, rfl, hb, k0, k1, (fun _ => rfl), (fun _ => rfl), k4, k5, k6, k7, k8, k9⟩
      simp only [putAll, List.setIfInBounds_toArray, List.set_cons_succ, List.set_cons_zero] <;> rfl
    · refine wpOp_step (by simp only [List.getElem?_toArray, List.getElem?_cons_succ, List.getElem?_cons_zero]; rfl) (fun K hK => ?_)
      go_simp
      refine hK _ _ ⟨[v14, v15, v16, v17, .int .i64 (k : Int), v19, v20, v21, v22], ?_, _, _, _, _, _, _, _, _, _, rfl, hb, k0, k1, k2, k3, (fun _ => rfl), k5, k6, k7, k8, k9⟩
      simp only [putAll, List.setIfInBounds_toArray, List.set_cons_succ, List.set_cons_zero] <;> rfl
    · refine wpOp_step (by simp only [List.getElem?_toArray, List.getElem?_cons_succ, List.getElem?_cons_zero]; rfl) (fun K hK => ?_)
      go_simp
      refine hK _ _ ⟨[v14, v15, v16, v17, v18, .pointer (some ⟨g, 5, none⟩), v20, v21, v22], ?_, _, _, _, _, _, _, _, _, _, rfl, hb, k0, k1, k2, k3, k4, (fun _ => rfl), k6, k7, k8, k9⟩
      simp only [putAll, List.setIfInBounds_toArray, List.set_cons_succ, List.set_cons_zero] <;> rfl
    · have e5 := k5 (hdep 5 (by kernel_rfl))
      subst e5
      have n9 : D 9 = false := Bool.eq_false_iff.2 (fun h => absurd (hcl 9 6 h (by kernel_rfl)) (by rw [hD]; simp))
      have q7 := keep_cell (hb n9) (BV.cell 5 _ rfl)
      refine wpOp_step (by simp only [List.getElem?_toArray, List.getElem?_cons_succ, List.getElem?_cons_zero]; rfl) (fun K hK => ?_)
      go_simp
      refine hK _ _ ⟨[v14, v15, v16, v17, v18, .pointer (some ⟨g, 5, none⟩), .string m.tg, v21, v22], ?_, _, _, _, _, _, _, _, _, _, rfl, hb, k0, k1, k2, k3, k4, (fun _ => rfl), (fun _ => rfl), k7, k8, k9⟩
      simp only [putAll, List.setIfInBounds_toArray, List.set_cons_succ, List.set_cons_zero] <;> rfl
    · have e3 := k3 (hdep 3 (by kernel_rfl))
      subst e3
      have e4 := k4 (hdep 4 (by kernel_rfl))
      subst e4
      refine wpOp_step (by simp only [List.getElem?_toArray, List.getElem?_cons_succ, List.getElem?_cons_zero]; rfl) (fun K hK => ?_)
      go_simp
      refine hK _ _ ⟨[v14, v15, v16, .slice (some ⟨qb, 0, none⟩) n c, .int .i64 (k : Int), v19, v20, .pointer (some ⟨qb, k * 3, none⟩), v22], ?_, _, _, _, _, _, _, _, _, _, rfl, hb, k0, k1, k2, (fun _ => rfl), (fun _ => rfl), k5, k6, (fun _ => rfl), k8, k9⟩
      simp only [putAll, List.setIfInBounds_toArray, List.set_cons_succ, List.set_cons_zero] <;> rfl
    · have e7 := k7 (hdep 7 (by kernel_rfl))
      subst e7
      refine wpOp_step (by simp only [List.getElem?_toArray, List.getElem?_cons_succ, List.getElem?_cons_zero]; rfl) (fun K hK => ?_)
      go_simp
      refine hK _ _ ⟨[v14, v15, v16, v17, v18, v19, v20, .pointer (some ⟨qb, k * 3, none⟩), .pointer (some ⟨qb, k * 3 + 1, none⟩)], ?_, _, _, _, _, _, _, _, _, _, rfl, hb, k0, k1, k2, k3, k4, k5, k6, (fun _ => rfl), (fun _ => rfl), k9⟩
      simp only [putAll, List.setIfInBounds_toArray, List.set_cons_succ, List.set_cons_zero] <;> rfl
    · have e6 := k6 (hdep 6 (by kernel_rfl))
      subst e6
      have e8 := k8 (hdep 8 (by kernel_rfl))
      subst e8
      have q7 := keep_cell (hb hD) hcell
      have y7 : w'.frozen? ⟨qb, k * 3 + 1, none⟩ = false := ((hb hD).frozen (p := ⟨qb, k * 3 + 1, none⟩) hqbV).trans (by simpa using hfr)
      refine wpOp_step (by simp only [List.getElem?_toArray, List.getElem?_cons_succ, List.getElem?_cons_zero]; rfl) (fun K hK => ?_)
      go_simp
      refine hK _ _ ⟨[v14, v15, v16, v17, v18, v19, .string m.tg, v21, .pointer (some ⟨qb, k * 3 + 1, none⟩)], ?_, _, _, _, _, _, _, _, _, _, rfl, (fun h => absurd h (by simp)), k0, k1, k2, k3, k4, k5, (fun _ => rfl), k7, (fun _ => rfl), (fun _ => ⟨w', rfl, hb hD⟩)⟩
      simp only [putAll, List.setIfInBounds_toArray, List.set_cons_succ, List.set_cons_zero] <;> rfl
  · intro D vs w' hD hI
    obtain ⟨v14, v15, v16, v17, v18, v19, v20, v21, v22, rfl, hb, k0, k1, k2, k3, k4, k5, k6, k7, k8, k9⟩ := hI
    simp only [putAll, List.setIfInBounds_toArray, List.set_cons_succ, List.set_cons_zero]
    obtain ⟨w1, rfl, hC1⟩ := k9 (hD 9 (show 9 < 10 by decide))
    clear hD hb
    go_wp2
    go_returns
    have hax := snpAt_of hx
    have own1 := own_chL own (Ch.of_below (S := fun _ => False) hC1) (fun _ _ h => h)
    have S1 := hSx.keep hC1
    obtain ⟨hR, _, hCC⟩ := upd_els1 (j := 1) (v := .string m.tg) (f' := f) (x' := (⟨x.nm, m.tg, x.ch⟩ : Snp)) (w7 := w1) (w8 := w1.setCell ⟨qb, k * 3 + 1, none⟩ (.string m.tg)) snpK (by simpa using own1) (E1.keep snpK hC1) (E2.keep snpK hC1) (by simp [snpL]) (by omega) (by rw [List.length_take, List.length_drop]; have := HLQ.out; omega) (by simpa [blkL] using hN) (Ch.refl _) ⟨X1, xn, xc, f, rfl, rfl, S1⟩ (fun b hb => .inl hb) (by have := List.nodup_append.1 hN; have := List.nodup_append.1 (by simpa using this.2.1 : (f1.flatten ++ (f ++ f2.flatten)).Nodup); exact (List.nodup_append.1 this.2.1).1) (by rw [List.length_take, Nat.min_eq_left (by omega)])
    refine .inr ⟨rfl, k, T.out, hkn, ?_, (Ch.of_below hBV).trans ((Ch.of_below hC1).trans ((Ch.set (g := qb)).mono (fun t ht => by have ht : t = qb := ht; subst ht; simp [blkL])))⟩
    unfold tagS
    rw [set_split hx, hax]
    exact hR
end Go.Proofs.Ytdphdnllhmnelaa
