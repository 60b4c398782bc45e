/- Contracts and lemmas: CatOps, InsB, InsCSet, RowIns, Create. -/
import Derived.Test.YtdphdnllhmnelaaGreatJ4
import Derived.Test.YtdphdnllhmnelaaGreatJ3
import Derived.Test.YtdphdnllhmnelaaGreatJ2
import Derived.Shelf.RegionOpenPlain
import Derived.Lib.Walk
import Derived.Lib.JoinLaws
import Derived.Lib.AppendZeros
import Derived.Lib.AppendZerosOnto
import Derived.Lib.Overlaps
import Derived.Laws.Externs
import Derived.Laws.NewBlocks
import Derived.Laws.LoneSync
import Derived.Laws.IdiomCopy
import Derived.Lib.SliceRun
import Derived.WalkKit
/- What the program does to a set of its own: commit. -/
namespace Go.Proofs.YtdphdnllhmnelaaGreat
open Go.RowKit
attribute [local go_sem] Grow.cell Grow.frozen
def exT : ByteArray := ⟨#[101, 120, 105, 115, 116, 115]⟩
def fuT : ByteArray := ⟨#[102, 117, 108, 108]⟩
def okT : ByteArray := ⟨#[111, 107]⟩
def noT : ByteArray := ⟨#[110, 111, 110, 101]⟩
/-- a set with a snapshot more -/
def comS (s : Cst) (m : Cm) : Cst := ⟨s.nm, s.snaps ++ [⟨m.nm, ByteArray.empty, m.ch⟩]⟩
attribute [local irreducible] StrsAt StrR StrO RowR RowO snpFnd
set_option maxRecDepth 8000 in
set_option maxHeartbeats 8000000 in
theorem commit_impl (s : Cst) (m : Cm) (b oo : Nat) (Q : Option Addr) (n c : Nat) (fq : List Nat) (A1 : Option Addr) (n1 c1 : Nat) (w : World) (hc0 : w.cell? ⟨b, oo, none⟩ = some (.string s.nm)) (hc1 : w.cell? ⟨b, oo + 1, none⟩ = some (.slice Q n c)) (hfz : w.frozen? ⟨b, oo + 1, none⟩ = false)
    (hQ : RowO snpF 195 3 fq w Q n c s.snaps) (hN : fq.Nodup) (hbq : b ∉ fq) (hm : StrR w A1 n1 c1 m.ch) (hn1 : n1 ≤ 1000) (hn : n ≤ 1000) :
    Calls Tryz.prog 174 #[.pointer (some ⟨b, oo, none⟩), cmV m (.slice A1 n1 c1)] w fun e w' => (e = .returned (.string exT) ∧ 0 ≤ snpFnd s.snaps 0 m.nm ∧ Below w.heap.size w w') ∨ (e = .returned (.string fuT) ∧ snpFnd s.snaps 0 m.nm < 0 ∧ n = 5 ∧ Below w.heap.size w w') ∨
      (e = .returned (.string okT) ∧ snpFnd s.snaps 0 m.nm < 0 ∧ n ≠ 5 ∧ ∃ w1 Q' c' fq', w' = w1.setCell ⟨b, oo + 1, none⟩ (.slice Q' (n + 1) c') ∧ Ch (fun t => t ∈ fq) w w1 ∧ RowO snpF 195 3 fq' w1 Q' (n + 1) c' (comS s m).snaps ∧ fq'.Nodup ∧ ∀ t ∈ fq', t ∈ fq ∨ w.heap.size ≤ t) := by
  have hbl := cell_lt hc1
  have hnq : ∀ t ∈ fq, t < w.heap.size := hQ.lt snpK
  have al := (Below.refl w.heap.size w).alloc (Nat.le_refl _) (.cells #[.int .i64 m.kd, .int .i64 m.cl, .int .i64 m.no, .string m.s, .string m.nm, .string m.tg, .int .i64 m.n, .slice A1 n1 c1] 48)
  have BM := BoxL.new w [.int .i64 m.kd, .int .i64 m.cl, .int .i64 m.no, .string m.s, .string m.nm, .string m.tg, .int .i64 m.n, .slice A1 n1 c1] 48
  unfold cmV
  go_enter Tryz.func174, Tryz.ntmps174
  go_wp2_with fail
  obtain ⟨W, hW⟩ : ∃ W, W = w.alloc (.cells #[.int .i64 m.kd, .int .i64 m.cl, .int .i64 m.no, .string m.s, .string m.nm, .string m.tg, .int .i64 m.n, .slice A1 n1 c1] 48) := ⟨_, rfl⟩
  obtain ⟨g, hg⟩ : ∃ g, w.heap.size = g := ⟨_, rfl⟩
  have HG := Lib.hid hg
  rw [← hW] at BM al ⊢
  simp only [hg] at BM ⊢
  have hbg : b < g := by omega
  have hqg : ∀ t ∈ fq, t < g := fun t ht => by have := hnq t ht; omega
  clear hW hg
  have k0 := keep_cell al hc0; have k1 := keep_cell al hc1
  have kf : W.frozen? ⟨b, oo + 1, none⟩ = false := (al.frozen (p := ⟨b, oo + 1, none⟩) hbl).trans hfz
  have QW := hQ.keep snpK al; have mW := hm.keep al
  have m4 := BM.cell 4 _ rfl; have hgl := BM.lt; have hbW := cell_lt k1
  obtain ⟨t, ht⟩ : ∃ t, snpFnd s.snaps 0 m.nm = t := ⟨_, rfl⟩
  have T := Lib.hid ht
  clear ht
  refine wp_region_grow (by kernel_rfl) (by kernel_rfl) ?_
  repeat (first | go_big_quiet_step ((go_at_call 205; exact grow_of (toldN T.out (snpFnd_impl s m.nm _ _ _ _ ((QW.keep snpK (Grow.below _)).at_ snpK (by omega)) (by omega))))))
  refine wpQuiet_nil ?_
  intro _ hw'
  obtain ⟨⟨w2, hb2⟩, hw''⟩ := hw'
  change _ = w2 at hw''
  subst hw''
  obtain ⟨V, hV⟩ := Below.nam hb2; subst hV
  have u0 := keep_cell hb2 k0; have u1 := keep_cell hb2 k1
  have uf : V.frozen? ⟨b, oo + 1, none⟩ = false := (hb2.frozen (p := ⟨b, oo + 1, none⟩) hbW).trans kf
  have QV := QW.keep snpK hb2; have mV := mW.keep hb2; have BV := BM.keep hb2
  have hBV := bthen al hb2
  have hzV := hBV.size
  have hbV := cell_lt u1
  clear k0 k1 kf QW mW BM m4 hgl hbW
  by_cases ht0 : 0 ≤ t
  · have gd : decide (t ≥ 0) = true := decide_eq_true ht0
    have HT0 := Lib.hid ht0; have hnl : ¬ t < 0 := by omega
    go_wp2
    go_returns
    exact .inl ⟨rfl, by rw [T.out]; exact HT0.out, hBV⟩
  have gd : decide (t ≥ 0) = false := decide_eq_false ht0
  have HT0 := Lib.hid ht0; have hlt0 : t < 0 := (by omega); clear ht0
  by_cases h5 : n = 5
  · have g5 : ((n : Int) == 5) = true := beq_iff_eq.2 (by omega)
    have H5 := Lib.hid h5; clear h5
    go_wp2
    go_returns
    exact .inr (.inl ⟨rfl, by rw [T.out]; have := HT0.out; omega, H5.out, hBV⟩)
  have g5 : ((n : Int) == 5) = false := beq_eq_false_iff_ne.2 (by omega)
  have H5 := Lib.hid h5; clear h5
  go_wp2
  obtain ⟨css, fps, rfl, own, hlQ, EQ⟩ := QV.ex
  have HLQ := Lib.hid hlQ; clear hlQ
  have hgl := BV.lt
  have hlt2 : ∀ t ∈ blkL Q ++ fps.flatten, t < g := hqg
  have hbQ : b ∉ blkL Q := fun h => hbq (List.mem_append_left _ h)
  have hgQ : g ∉ blkL Q := fun h => by have := hlt2 g (List.mem_append_left _ h); omega
  refine wp_region_dagb [20, 21, 22, 23, 24, 25, 26, 27, 28, 29, 30, 31, 32, 33, 34] (by kernel_rfl) (by kernel_rfl) (fun D vs w' => ∃ v20 v21 v22 v23 v24 v25 v26 v27 v28 v29 v30 v31 v32 v33 v34 : Value, vs = [v20, v21, v22, v23, v24, v25, v26, v27, v28, v29, v30, v31, v32, v33, v34] ∧ (D 12 = false → Below V.heap.size V w') ∧ (D 15 = false → Ch (fun t => t ∈ blkL Q) V w') ∧ V.heap.size ≤ w'.heap.size ∧ BoxL w' g [.int .i64 m.kd, .int .i64 m.cl, .int .i64 m.no, .string m.s, .string m.nm, .string m.tg, .int .i64 m.n, .slice A1 n1 c1] ∧ (D 12 = false → w'.ownsRow 0 195 3 (.slice Q n c) n css.flatten) ∧ (D 12 = false → Els snpF w' css fps s.snaps) ∧ (D 0 = true → v20 = .pointer (some ⟨b, oo, none⟩)) ∧ (D 1 = true → v21 = .pointer (some ⟨b, oo, none⟩)) ∧ (D 2 = true → v22 = .pointer (some ⟨b, oo, none⟩)) ∧ (D 3 = true → v23 = .pointer (some ⟨b, oo + 1, none⟩)) ∧ (D 4 = true → v24 = .slice Q n c) ∧ (D 5 = true → v25 = .pointer (some ⟨g, 4, none⟩)) ∧ (D 6 = true → v26 = .string m.nm) ∧ (D 7 = true → v27 = .pointer (some ⟨g, 7, none⟩)) ∧ (D 8 = true → v28 = .slice A1 n1 c1) ∧ (D 9 = true → (D 10 = false → ∃ (E2 : Option Addr) (ed2 : Nat) (f2 : List Nat), v29 = .slice E2 n1 ed2 ∧ f2.Nodup ∧ (∀ b ∈ f2, V.heap.size ≤ b ∧ b < w'.heap.size) ∧ StrO f2 w' E2 n1 ed2 m.ch)) ∧ (D 10 = true → (D 11 = false → ∃ (E2 : Option Addr) (ed2 : Nat) (f2 : List Nat), v30 = .agg #[.string m.nm, .string ByteArray.empty, .slice E2 n1 ed2] ∧ f2.Nodup ∧ (∀ b ∈ f2, V.heap.size ≤ b ∧ b < w'.heap.size) ∧ StrO f2 w' E2 n1 ed2 m.ch)) ∧ (D 11 = true → (D 12 = false → ∃ (gb : Nat) (E2 : Option Addr) (ed2 : Nat) (f2 : List Nat), v31 = .slice (some ⟨gb, 0, none⟩) 1 1 ∧ CellsAt w' (some ⟨gb, 0, none⟩) 1 3 [.string m.nm, .string ByteArray.empty, .slice E2 n1 ed2] ∧ f2.Nodup ∧ (∀ b ∈ f2, V.heap.size ≤ b ∧ b < w'.heap.size) ∧ StrO f2 w' E2 n1 ed2 m.ch)) ∧ (D 12 = true → (D 15 = false → ∃ (A' : Option Addr) (c' : Nat) (fp' : List Nat), v32 = .slice A' (n + 1) c' ∧ RowO snpF 195 3 fp' w' A' (n + 1) c' (s.snaps ++ [⟨m.nm, ByteArray.empty, m.ch⟩]) ∧ fp'.Nodup ∧ (∀ t ∈ fp', t ∈ blkL Q ++ fps.flatten ∨ V.heap.size ≤ t))) ∧ (D 13 = true → v33 = .pointer (some ⟨b, oo, none⟩)) ∧ (D 14 = true → v34 = .pointer (some ⟨b, oo + 1, none⟩)) ∧ (D 15 = true → ∃ (w1 : World) (A' : Option Addr) (c' : Nat) (fp' : List Nat), w' = w1.setCell ⟨b, oo + 1, none⟩ (.slice A' (n + 1) c') ∧ Ch (fun t => t ∈ blkL Q) V w1 ∧ RowO snpF 195 3 fp' w1 A' (n + 1) c' (s.snaps ++ [⟨m.nm, ByteArray.empty, m.ch⟩]) ∧ fp'.Nodup ∧ (∀ t ∈ fp', t ∈ blkL Q ++ fps.flatten ∨ V.heap.size ≤ t)))
    ⟨_, _, _, _, _, _, _, _, _, _, _, _, _, _, _, rfl, (fun _ => (Below.refl _ _).drew), (fun _ => Ch.of_below (S := fun t => t ∈ blkL Q) (Below.refl _ _).drew), (by simp), (BV.keep (Below.refl _ _).drew), (fun _ => own_chL own (Ch.of_below (S := fun _ => False) (Below.refl _ _).drew) (fun _ _ h => h)), (fun _ => EQ.keep snpK (Below.refl _ _).drew), (fun h => by cases h), (fun h => by cases h), (fun h => by cases h), (fun h => by cases h), (fun h => by cases h), (fun h => by cases h), (fun h => by cases h), (fun h => by cases h), (fun h => by cases h), (fun h => by cases h), (fun h => by cases h), (fun h => by cases h), (fun h => by cases h), (fun h => by cases h), (fun h => by cases h), (fun h => by cases h)⟩ ?_ ?_
  · intro i D vs w' hi hD hdep hcl hI
    have hi' : i < 16 := hi
    obtain ⟨v20, v21, v22, v23, v24, v25, v26, v27, v28, v29, v30, v31, v32, v33, v34, rfl, hb, hC, hzz, hM, hown, hE, k0, k1, k2, k3, k4, k5, k6, k7, k8, k9, k10, k11, k12, k13, k14, k15⟩ := hI
    simp only [putAll, List.setIfInBounds_toArray, List.set_cons_succ, List.set_cons_zero]
    rcases (show i = 0 ∨ i = 1 ∨ i = 2 ∨ i = 3 ∨ i = 4 ∨ i = 5 ∨ i = 6 ∨ i = 7 ∨ i = 8 ∨ i = 9 ∨ i = 10 ∨ i = 11 ∨ i = 12 ∨ i = 13 ∨ i = 14 ∨ i = 15 by omega) with rfl | rfl | rfl | rfl | rfl | rfl | rfl | rfl | rfl | rfl | rfl | rfl | rfl | rfl | rfl | rfl
    · refine wpOp_step (by simp only [List.getElem?_toArray, List.getElem?_cons_zero]; rfl) (fun K hK => ?_)
      go_simp
      refine hK _ _ ⟨[.pointer (some ⟨b, oo, none⟩), v21, v22, v23, v24, v25, v26, v27, v28, v29, v30, v31, v32, v33, v34], ?_, _, _, _, _, _, _, _, _, _, _, _, _, _, _, _, rfl, hb, hC, hzz, hM, hown, hE, (fun _ => rfl), k1, k2, k3, k4, k5, k6, k7, k8, k9, k10, k11, k12, k13, k14, k15⟩
      simp only [putAll, List.setIfInBounds_toArray, List.set_cons_succ, List.set_cons_zero] <;> rfl
    · refine wpOp_step (by simp only [List.getElem?_toArray, List.getElem?_cons_succ, List.getElem?_cons_zero]; rfl) (fun K hK => ?_)
      go_simp
      refine hK _ _ ⟨[v20, .pointer (some ⟨b, oo, none⟩), v22, v23, v24, v25, v26, v27, v28, v29, v30, v31, v32, v33, v34], ?_, _, _, _, _, _, _, _, _, _, _, _, _, _, _, _, rfl, hb, hC, hzz, hM, hown, hE, k0, (fun _ => rfl), k2, k3, k4, k5, k6, k7, k8, k9, k10, k11, k12, k13, k14, k15⟩
      simp only [putAll, List.setIfInBounds_toArray, List.set_cons_succ, List.set_cons_zero] <;> rfl
    · have e1 := k1 (hdep 1 (by kernel_rfl))
      subst e1
      refine wpOp_step (by simp only [List.getElem?_toArray, List.getElem?_cons_succ, List.getElem?_cons_zero]; rfl) (fun K hK => ?_)
      go_simp
      refine hK _ _ ⟨[v20, .pointer (some ⟨b, oo, none⟩), .pointer (some ⟨b, oo, none⟩), v23, v24, v25, v26, v27, v28, v29, v30, v31, v32, v33, v34], ?_, _, _, _, _, _, _, _, _, _, _, _, _, _, _, _, rfl, hb, hC, hzz, hM, hown, hE, k0, (fun _ => rfl), (fun _ => rfl), k3, k4, k5, k6, k7, k8, k9, k10, k11, k12, k13, k14, k15⟩
      simp only [putAll, List.setIfInBounds_toArray, List.set_cons_succ, List.set_cons_zero] <;> rfl
    · have e2 := k2 (hdep 2 (by kernel_rfl))
      subst e2
      refine wpOp_step (by simp only [List.getElem?_toArray, List.getElem?_cons_succ, List.getElem?_cons_zero]; rfl) (fun K hK => ?_)
      go_simp
      refine hK _ _ ⟨[v20, v21, .pointer (some ⟨b, oo, none⟩), .pointer (some ⟨b, oo + 1, none⟩), v24, v25, v26, v27, v28, v29, v30, v31, v32, v33, v34], ?_, _, _, _, _, _, _, _, _, _, _, _, _, _, _, _, rfl, hb, hC, hzz, hM, hown, hE, k0, k1, (fun _ => rfl), (fun _ => rfl), k4, k5, k6, k7, k8, k9, k10, k11, k12, k13, k14, k15⟩
      simp only [putAll, List.setIfInBounds_toArray, List.set_cons_succ, List.set_cons_zero] <;> rfl
    · have e3 := k3 (hdep 3 (by kernel_rfl))
      subst e3
      have n15 : D 15 = false := Bool.eq_false_iff.2 (fun h => absurd (hcl 12 4 (hcl 15 12 h (by kernel_rfl)) (by kernel_rfl)) (by rw [hD]; simp))
      have q7 := (hC n15).cell u1 hbQ
      refine wpOp_step (by simp only [List.getElem?_toArray, List.getElem?_cons_succ, List.getElem?_cons_zero]; rfl) (fun K hK => ?_)
      go_simp
      refine hK _ _ ⟨[v20, v21, v22, .pointer (some ⟨b, oo + 1, none⟩), .slice Q n c, v25, v26, v27, v28, v29, v30, v31, v32, v33, v34], ?_, _, _, _, _, _, _, _, _, _, _, _, _, _, _, _, rfl, hb, hC, hzz, hM, hown, hE, k0, k1, k2, (fun _ => rfl), (fun _ => rfl), k5, k6, k7, k8, k9, k10, k11, k12, k13, k14, k15⟩
      simp only [putAll, List.setIfInBounds_toArray, List.set_cons_succ, List.set_cons_zero] <;> rfl
    · refine wpOp_step (by simp only [List.getElem?_toArray, List.getElem?_cons_succ, List.getElem?_cons_zero]; rfl) (fun K hK => ?_)
      go_simp
      refine hK _ _ ⟨[v20, v21, v22, v23, v24, .pointer (some ⟨g, 4, none⟩), v26, v27, v28, v29, v30, v31, v32, v33, v34], ?_, _, _, _, _, _, _, _, _, _, _, _, _, _, _, _, rfl, hb, hC, hzz, hM, hown, hE, k0, k1, k2, k3, k4, (fun _ => rfl), k6, k7, k8, k9, k10, k11, k12, k13, k14, k15⟩
      simp only [putAll, List.setIfInBounds_toArray, List.set_cons_succ, List.set_cons_zero] <;> rfl
    · have e5 := k5 (hdep 5 (by kernel_rfl))
      subst e5
      have q7 := hM.cell 4 _ rfl
      refine wpOp_step (by simp only [List.getElem?_toArray, List.getElem?_cons_succ, List.getElem?_cons_zero]; rfl) (fun K hK => ?_)
      go_simp
      refine hK _ _ ⟨[v20, v21, v22, v23, v24, .pointer (some ⟨g, 4, none⟩), .string m.nm, v27, v28, v29, v30, v31, v32, v33, v34], ?_, _, _, _, _, _, _, _, _, _, _, _, _, _, _, _, rfl, hb, hC, hzz, hM, hown, hE, k0, k1, k2, k3, k4, (fun _ => rfl), (fun _ => rfl), k7, k8, k9, k10, k11, k12, k13, k14, k15⟩
      simp only [putAll, List.setIfInBounds_toArray, List.set_cons_succ, List.set_cons_zero] <;> rfl
    · refine wpOp_step (by simp only [List.getElem?_toArray, List.getElem?_cons_succ, List.getElem?_cons_zero]; rfl) (fun K hK => ?_)
      go_simp
      refine hK _ _ ⟨[v20, v21, v22, v23, v24, v25, v26, .pointer (some ⟨g, 7, none⟩), v28, v29, v30, v31, v32, v33, v34], ?_, _, _, _, _, _, _, _, _, _, _, _, _, _, _, _, rfl, hb, hC, hzz, hM, hown, hE, k0, k1, k2, k3, k4, k5, k6, (fun _ => rfl), k8, k9, k10, k11, k12, k13, k14, k15⟩
      simp only [putAll, List.setIfInBounds_toArray, List.set_cons_succ, List.set_cons_zero] <;> rfl
    · have e7 := k7 (hdep 7 (by kernel_rfl))
      subst e7
      have q7 := hM.cell 7 _ rfl
      refine wpOp_step (by simp only [List.getElem?_toArray, List.getElem?_cons_succ, List.getElem?_cons_zero]; rfl) (fun K hK => ?_)
      go_simp
      refine hK _ _ ⟨[v20, v21, v22, v23, v24, v25, v26, .pointer (some ⟨g, 7, none⟩), .slice A1 n1 c1, v29, v30, v31, v32, v33, v34], ?_, _, _, _, _, _, _, _, _, _, _, _, _, _, _, _, rfl, hb, hC, hzz, hM, hown, hE, k0, k1, k2, k3, k4, k5, k6, (fun _ => rfl), (fun _ => rfl), k9, k10, k11, k12, k13, k14, k15⟩
      simp only [putAll, List.setIfInBounds_toArray, List.set_cons_succ, List.set_cons_zero] <;> rfl
    · have e8 := k8 (hdep 8 (by kernel_rfl))
      subst e8
      have n10 : D 10 = false := Bool.eq_false_iff.2 (fun h => absurd (hcl 10 9 h (by kernel_rfl)) (by rw [hD]; simp))
      have n11 : D 11 = false := Bool.eq_false_iff.2 (fun h => absurd (hcl 10 9 (hcl 11 10 h (by kernel_rfl)) (by kernel_rfl)) (by rw [hD]; simp))
      have n12 : D 12 = false := Bool.eq_false_iff.2 (fun h => absurd (hcl 10 9 (hcl 11 10 (hcl 12 11 h (by kernel_rfl)) (by kernel_rfl)) (by kernel_rfl)) (by rw [hD]; simp))
      have n15 : D 15 = false := Bool.eq_false_iff.2 (fun h => absurd (hcl 10 9 (hcl 11 10 (hcl 12 11 (hcl 15 12 h (by kernel_rfl)) (by kernel_rfl)) (by kernel_rfl)) (by kernel_rfl)) (by rw [hD]; simp))
      refine wpOp_step (by simp only [List.getElem?_toArray, List.getElem?_cons_succ, List.getElem?_cons_zero]; rfl) (fun K hK => ?_)
      go_simp
      refine (copyTextsT A1 n1 c1 m.ch _ (mV.keep (hb n12)).at_r' mV.nilcap (by omega)).mono ?_
      rintro e w4_ ⟨E2, ed2, rfl, hin, hb4⟩
      obtain ⟨f2, hn2, hf2, so2⟩ := strO_in hin
      refine hK _ _ ⟨[v20, v21, v22, v23, v24, v25, v26, v27, .slice A1 n1 c1, .slice E2 n1 ed2, v30, v31, v32, v33, v34], ?_, _, _, _, _, _, _, _, _, _, _, _, _, _, _, _, rfl, (fun h' => bthen (hb h') hb4), (fun h' => (hC h').trans (Ch.of_below hb4)), (Nat.le_trans hzz hb4.size), (hM.keep hb4), (fun h' => own_chL (hown h') (Ch.of_below (S := fun _ => False) hb4) (fun _ _ h => h)), (fun h' => (hE h').keep snpK hb4), k0, k1, k2, k3, k4, k5, k6, k7, (fun _ => rfl), (fun _ _ => ⟨E2, ed2, f2, rfl, hn2, fun b hb => ⟨by have := (hf2 b hb).1; omega, (hf2 b hb).2⟩, so2⟩), (fun h => by rw [show D 10 = true from by simpa using h] at n10; cases n10), (fun h => by rw [show D 11 = true from by simpa using h] at n11; cases n11), (fun h => by rw [show D 12 = true from by simpa using h] at n12; cases n12), k13, k14, (fun h => by rw [show D 15 = true from by simpa using h] at n15; cases n15)⟩
      simp only [putAll, List.setIfInBounds_toArray, List.set_cons_succ, List.set_cons_zero] <;> rfl
    · have e6 := k6 (hdep 6 (by kernel_rfl))
      subst e6
      obtain z9 := k9 (hdep 9 (by kernel_rfl))
      obtain ⟨E2, ed2, f2, rfl, hn2, hf2, so2⟩ := z9 hD
      refine wpOp_step (by simp only [List.getElem?_toArray, List.getElem?_cons_succ, List.getElem?_cons_zero]; rfl) (fun K hK => ?_)
      go_simp
      refine hK _ _ ⟨[v20, v21, v22, v23, v24, v25, .string m.nm, v27, v28, .slice E2 n1 ed2, .agg #[.string m.nm, .string ByteArray.empty, .slice E2 n1 ed2], v31, v32, v33, v34], ?_, _, _, _, _, _, _, _, _, _, _, _, _, _, _, _, rfl, hb, hC, hzz, hM, hown, hE, k0, k1, k2, k3, k4, k5, (fun _ => rfl), k7, k8, (fun _ h => absurd h (by simp)), (fun _ _ => ⟨E2, ed2, f2, rfl, hn2, hf2, so2⟩), k11, k12, k13, k14, k15⟩
      simp only [putAll, List.setIfInBounds_toArray, List.set_cons_succ, List.set_cons_zero] <;> rfl
    · obtain z10 := k10 (hdep 10 (by kernel_rfl))
      have n12 : D 12 = false := Bool.eq_false_iff.2 (fun h => absurd (hcl 12 11 h (by kernel_rfl)) (by rw [hD]; simp))
      have n15 : D 15 = false := Bool.eq_false_iff.2 (fun h => absurd (hcl 12 11 (hcl 15 12 h (by kernel_rfl)) (by kernel_rfl)) (by rw [hD]; simp))
      obtain ⟨E2, ed2, f2, rfl, hn2, hf2, so2⟩ := z10 hD
      have hal := (Below.refl w'.heap.size w').alloc (Nat.le_refl _) (.cells #[.string m.nm, .string ByteArray.empty, .slice E2 n1 ed2] 195)
      refine wpOp_step (by simp only [List.getElem?_toArray, List.getElem?_cons_succ, List.getElem?_cons_zero]; rfl) (fun K hK => ?_)
      go_simp
      refine hK _ _ ⟨[v20, v21, v22, v23, v24, v25, v26, v27, v28, v29, .agg #[.string m.nm, .string ByteArray.empty, .slice E2 n1 ed2], .slice (some ⟨w'.heap.size, 0, none⟩) 1 1, v32, v33, v34], ?_, _, _, _, _, _, _, _, _, _, _, _, _, _, _, _, rfl, (fun h' => bthen (hb h') hal), (fun h' => (hC h').trans (Ch.of_below hal)), (Nat.le_trans hzz hal.size), (hM.keep hal), (fun h' => own_chL (hown h') (Ch.of_below (S := fun _ => False) hal) (fun _ _ h => h)), (fun h' => (hE h').keep snpK hal), k0, k1, k2, k3, k4, k5, k6, k7, k8, (fun _ h => by have d9 := hdep 10 (by kernel_rfl); rw [show D 10 = false from by simpa using h] at d9; cases d9), (fun _ h => absurd h (by simp)), (fun _ _ => ⟨_, E2, ed2, f2, rfl, new1c _ [.string m.nm, .string ByteArray.empty, .slice E2 n1 ed2] 3 rfl _, hn2, fun b hb => ⟨(hf2 b hb).1, Nat.lt_of_lt_of_le (hf2 b hb).2 hal.size⟩, so2.keep hal⟩), (fun h => by rw [show D 12 = true from by simpa using h] at n12; cases n12), k13, k14, (fun h => by rw [show D 15 = true from by simpa using h] at n15; cases n15)⟩
      simp only [putAll, List.setIfInBounds_toArray, List.set_cons_succ, List.set_cons_zero] <;> rfl
    · have e4 := k4 (hdep 4 (by kernel_rfl))
      subst e4
      obtain z11 := k11 (hdep 11 (by kernel_rfl))
      have n15 : D 15 = false := Bool.eq_false_iff.2 (fun h => absurd (hcl 15 12 h (by kernel_rfl)) (by rw [hD]; simp))
      obtain ⟨gb, E2, ed2, f2, rfl, hcl4, hn2, hf2, so2⟩ := z11 hD
      refine wpOp_step (by simp only [List.getElem?_toArray, List.getElem?_cons_succ, List.getElem?_cons_zero]; rfl) (fun K hK => ?_)
      refine step_app (by rfl) (.tmp 24) (.tmp 31) 163 (by rfl) 0 195 _ 3 56 Tryz.underlying163 snpInfo rfl (by omega) (.slice Q n c) n css.flatten (by rfl) (hown hD) (some ⟨gb, 0, none⟩) 1 1 [.string m.nm, .string ByteArray.empty, .slice E2 n1 ed2] (by rfl) hcl4 (by simp [Value.oneCell']) (fun h => by cases h) (by unfold maxLen; omega) (by omega) (Nat.zero_le _) ?_
      intro A' c' wq2 own5 hg5 hb5 hob5
      have hNN : ((blkL Q ++ fps.flatten) ++ f2).Nodup := nodup_new (m := V.heap.size) hN hn2 (fun x hx => by have := hlt2 x hx; omega) (fun x hx => (hf2 x hx).1)
      obtain ⟨fp', RO5, hN5, hF5, hc5⟩ := row_app1 (x := (⟨m.nm, ByteArray.empty, m.ch⟩ : Snp)) snpK HLQ.out (hE hD) (snpF_of (y := (⟨m.nm, ByteArray.empty, m.ch⟩ : Snp)) so2) hNN own5 hg5 hob5 (Nat.le_refl _)
      refine hK _ _ ⟨[v20, v21, v22, v23, .slice Q n c, v25, v26, v27, v28, v29, v30, .slice (some ⟨gb, 0, none⟩) 1 1, .slice A' (n + 1) c', v33, v34], ?_, _, _, _, _, _, _, _, _, _, _, _, _, _, _, _, rfl, (fun h => absurd h (by simp)), (fun h' => (hC h').trans hc5), (Nat.le_trans hzz hc5.size), (hM.ch hc5 hgQ), (fun h => absurd h (by simp)), (fun h => absurd h (by simp)), k0, k1, k2, k3, (fun _ => rfl), k5, k6, k7, k8, (fun _ h => by have d9 := hcl 11 10 (hdep 11 (by kernel_rfl)) (by kernel_rfl); rw [show D 10 = false from by simpa using h] at d9; cases d9), (fun _ h => by have d10 := hdep 11 (by kernel_rfl); rw [show D 11 = false from by simpa using h] at d10; cases d10), (fun _ h => absurd h (by simp)), (fun _ _ => ⟨A', c', fp', rfl, RO5, hN5, fun b hb => by have h3 := hF5 b hb; have h5 := hf2 b; rcases h3 with h1 | h1 | h1; (exact .inl h1); (exact .inr (h5 h1).1); (exact .inr (by omega))⟩), k13, k14, (fun h => by rw [show D 15 = true from by simpa using h] at n15; cases n15)⟩
      simp only [Act.put, putAll, List.setIfInBounds_toArray, List.set_cons_succ, List.set_cons_zero] <;> rfl
    · have e0 := k0 (hdep 0 (by kernel_rfl))
      subst e0
      refine wpOp_step (by simp only [List.getElem?_toArray, List.getElem?_cons_succ, List.getElem?_cons_zero]; rfl) (fun K hK => ?_)
      go_simp
      refine hK _ _ ⟨[.pointer (some ⟨b, oo, none⟩), v21, v22, v23, v24, v25, v26, v27, v28, v29, v30, v31, v32, .pointer (some ⟨b, oo, none⟩), v34], ?_, _, _, _, _, _, _, _, _, _, _, _, _, _, _, _, rfl, hb, hC, hzz, hM, hown, hE, (fun _ => rfl), k1, k2, k3, k4, k5, k6, k7, k8, k9, k10, k11, k12, (fun _ => rfl), k14, k15⟩
      simp only [putAll, List.setIfInBounds_toArray, List.set_cons_succ, List.set_cons_zero] <;> rfl
    · have e13 := k13 (hdep 13 (by kernel_rfl))
      subst e13
      refine wpOp_step (by simp only [List.getElem?_toArray, List.getElem?_cons_succ, List.getElem?_cons_zero]; rfl) (fun K hK => ?_)
      go_simp
      refine hK _ _ ⟨[v20, v21, v22, v23, v24, v25, v26, v27, v28, v29, v30, v31, v32, .pointer (some ⟨b, oo, none⟩), .pointer (some ⟨b, oo + 1, none⟩)], ?_, _, _, _, _, _, _, _, _, _, _, _, _, _, _, _, rfl, hb, hC, hzz, hM, hown, hE, k0, k1, k2, k3, k4, k5, k6, k7, k8, k9, k10, k11, k12, (fun _ => rfl), (fun _ => rfl), k15⟩
      simp only [putAll, List.setIfInBounds_toArray, List.set_cons_succ, List.set_cons_zero] <;> rfl
    · obtain z12 := k12 (hdep 12 (by kernel_rfl))
      have e14 := k14 (hdep 14 (by kernel_rfl))
      subst e14
      obtain ⟨A', c', fp', rfl, RO5, hN5, hF5⟩ := z12 hD
      have q7 := (hC hD).cell u1 hbQ
      have y7 : w'.frozen? ⟨b, oo + 1, none⟩ = false := (World.frozen?_of_block ((hC hD).block b hbV hbQ)).trans uf
      have d12 : D 12 = true := hdep 12 (by kernel_rfl)
      have one : Ch (fun k => k = b) w' (w'.setCell ⟨b, oo + 1, none⟩ (.slice A' (n + 1) c')) := Ch.set
      refine wpOp_step (by simp only [List.getElem?_toArray, List.getElem?_cons_succ, List.getElem?_cons_zero]; rfl) (fun K hK => ?_)
      go_simp
      refine hK _ _ ⟨[v20, v21, v22, v23, v24, v25, v26, v27, v28, v29, v30, v31, .slice A' (n + 1) c', v33, .pointer (some ⟨b, oo + 1, none⟩)], ?_, _, _, _, _, _, _, _, _, _, _, _, _, _, _, _, rfl, (fun h' => by rw [show D 12 = false from by simpa using h'] at d12; cases d12), (fun h => absurd h (by simp)), (Nat.le_trans hzz one.size), (hM.ch one (ne_blk (by omega))), (fun h' => by rw [show D 12 = false from by simpa using h'] at d12; cases d12), (fun h' => by rw [show D 12 = false from by simpa using h'] at d12; cases d12), k0, k1, k2, k3, k4, k5, k6, k7, k8, (fun _ h => by have d9 := hcl 11 10 (hcl 12 11 d12 (by kernel_rfl)) (by kernel_rfl); rw [show D 10 = false from by simpa using h] at d9; cases d9), (fun _ h => by have d10 := hcl 12 11 d12 (by kernel_rfl); rw [show D 11 = false from by simpa using h] at d10; cases d10), (fun _ h => by rw [show D 12 = false from by simpa using h] at d12; cases d12), (fun _ h => absurd h (by simp)), k13, (fun _ => rfl), (fun _ => ⟨w', A', c', fp', rfl, hC hD, RO5, hN5, hF5⟩)⟩
      simp only [putAll, List.setIfInBounds_toArray, List.set_cons_succ, List.set_cons_zero] <;> rfl
  · intro D vs w' hD hI
    obtain ⟨v20, v21, v22, v23, v24, v25, v26, v27, v28, v29, v30, v31, v32, v33, v34, rfl, hb, hC, hzz, hM, hown, hE, k0, k1, k2, k3, k4, k5, k6, k7, k8, k9, k10, k11, k12, k13, k14, k15⟩ := hI
    simp only [putAll, List.setIfInBounds_toArray, List.set_cons_succ, List.set_cons_zero]
    obtain ⟨w1, A', c', fp', rfl, hC1, RO6, hN6, hF6⟩ := k15 (hD 15 (show 15 < 16 by decide))
    clear hD hb hC hown hE
    go_wp2
    go_returns
    exact .inr (.inr ⟨rfl, by rw [T.out]; have := HT0.out; omega, H5.out, w1, A', c', fp', rfl, ((Ch.of_below hBV).trans (hC1.mono (fun t ht => List.mem_append_left _ ht))), RO6, hN6, fun t ht => by rcases hF6 t ht with h1 | h1; (exact .inl h1); (exact .inr (by omega))⟩)
/-- a set with another tag at a snapshot -/
def tagS (s : Cst) (m : Cm) (k : Nat) : Cst := ⟨s.nm, s.snaps.set k ⟨(snpAt s.snaps k).nm, m.tg, (snpAt s.snaps k).ch⟩⟩
theorem set_split {α : Type} {l : List α} {k : Nat} {x y : α} (h : l[k]? = some x) : l.set k y = l.take k ++ y :: l.drop (k + 1) := by
  obtain ⟨hk, _⟩ := List.getElem?_eq_some_iff.1 h
  rw [List.set_eq_take_append_cons_drop, if_pos hk]
theorem own_off {w : World} {base e sz n c b o : Nat} {xs : List Value} (h : w.ownsRow base e sz (.slice (some ⟨b, o, none⟩) n c) n xs) (_ : 0 < n) : o = 0 := by
  rcases h.2 with ⟨hv, h0⟩ | ⟨g, cap, cur, hv, hb, hg, _⟩
  · cases hv
  · cases hv; rfl
theorem els_cut {α : Type} {F : List Nat → World → List Value → α → Prop} {w : World} {css : List (List Value)} {fps : List (List Nat)} {l : List α} {k : Nat} {x : α} (h : Els F w css fps l) (hx : l[k]? = some x) :
    ∃ c1 c2 f1 f2 cs f, css = c1 ++ cs :: c2 ∧ fps = f1 ++ f :: f2 ∧ Els F w c1 f1 (l.take k) ∧ F f w cs x ∧ Els F w c2 f2 (l.drop (k + 1)) := by
  obtain ⟨hk, rfl⟩ := List.getElem?_eq_some_iff.1 hx
  have e0 : l = l.take k ++ (l[k] :: l.drop (k + 1)) := by rw [← List.drop_eq_getElem_cons hk, List.take_append_drop]
  rw [e0] at h
  obtain ⟨c1, c2, f1, f2, rfl, rfl, h1, h2⟩ := h.split
  obtain ⟨cs, c3, f, f3, rfl, rfl, h3, h4⟩ := h2.cons
  exact ⟨c1, c3, f1, f3, cs, f, rfl, rfl, h1, h3, h4⟩
set_option maxRecDepth 8000 in
set_option maxHeartbeats 8000000 in
theorem tag_impl (s : Cst) (m : Cm) (b oo : Nat) (Q : Option Addr) (n c : Nat) (fq : List Nat) (A1 : Option Addr) (n1 c1 : Nat) (w : World) (hc0 : w.cell? ⟨b, oo, none⟩ = some (.string s.nm)) (hc1 : w.cell? ⟨b, oo + 1, none⟩ = some (.slice Q n c))
    (hQ : RowO snpF 195 3 fq w Q n c s.snaps) (hN : fq.Nodup) (hbq : b ∉ fq) (hn : n ≤ 1000) :
    Calls Tryz.prog 175 #[.pointer (some ⟨b, oo, none⟩), cmV m (.slice A1 n1 c1)] w fun e w' => (e = .returned (.string noT) ∧ snpFnd s.snaps 0 m.nm < 0 ∧ Below w.heap.size w w') ∨
      (e = .returned (.string okT) ∧ ∃ k : Nat, snpFnd s.snaps 0 m.nm = (k : Int) ∧ k < n ∧ RowO snpF 195 3 fq w' Q n c (tagS s m k).snaps ∧ Ch (fun t => t ∈ fq) w w') := by
  have hbl := cell_lt hc1
  have hnq : ∀ t ∈ fq, t < w.heap.size := hQ.lt snpK
  have al := (Below.refl w.heap.size w).alloc (Nat.le_refl _) (.cells #[.int .i64 m.kd, .int .i64 m.cl, .int .i64 m.no, .string m.s, .string m.nm, .string m.tg, .int .i64 m.n, .slice A1 n1 c1] 48)
  have BM := BoxL.new w [.int .i64 m.kd, .int .i64 m.cl, .int .i64 m.no, .string m.s, .string m.nm, .string m.tg, .int .i64 m.n, .slice A1 n1 c1] 48
  have HLN := Lib.hid hQ.len
  unfold cmV
  go_enter Tryz.func175, Tryz.ntmps175
  go_wp2_with fail
  obtain ⟨W, hW⟩ : ∃ W, W = w.alloc (.cells #[.int .i64 m.kd, .int .i64 m.cl, .int .i64 m.no, .string m.s, .string m.nm, .string m.tg, .int .i64 m.n, .slice A1 n1 c1] 48) := ⟨_, rfl⟩
  obtain ⟨g, hg⟩ : ∃ g, w.heap.size = g := ⟨_, rfl⟩
  have HG := Lib.hid hg
  rw [← hW] at BM al ⊢
  simp only [hg] at BM ⊢
  have hbg : b < g := by omega
  have hqg : ∀ t ∈ fq, t < g := fun t ht => by have := hnq t ht; omega
  clear hW hg
  have k0 := keep_cell al hc0; have k1 := keep_cell al hc1
  have QW := hQ.keep snpK al
  have m4 := BM.cell 4 _ rfl; have hgl := BM.lt; have hbW := cell_lt k1
  have hin := snpFnd_in m.nm s.snaps 0
  obtain ⟨t, ht⟩ : ∃ t, snpFnd s.snaps 0 m.nm = t := ⟨_, rfl⟩
  have T := Lib.hid ht
  rw [ht] at hin; clear ht
  refine wp_region_grow (by kernel_rfl) (by kernel_rfl) ?_
  repeat (first | go_big_quiet_step ((go_at_call 205; exact grow_of (toldN T.out (snpFnd_impl s m.nm _ _ _ _ ((QW.keep snpK (Grow.below _)).at_ snpK (by omega)) (by omega))))))
  refine wpQuiet_nil ?_
  intro _ hw'
  obtain ⟨⟨w2, hb2⟩, hw''⟩ := hw'
  change _ = w2 at hw''
  subst hw''
  obtain ⟨V, hV⟩ := Below.nam hb2; subst hV
  have u1 := keep_cell hb2 k1
  have QV := QW.keep snpK hb2; have BV := BM.keep hb2
  have hBV := bthen al hb2
  have hzV := hBV.size
  have hbV := cell_lt u1
  clear k0 k1 QW BM m4 hgl hbW
  rcases hin with ⟨ht1, _⟩ | ⟨k, hk, htk, _, _⟩
  · have hlt0 : t < 0 := by omega
    have HT0 := Lib.hid hlt0; clear ht1
    go_wp2
    go_returns
    exact .inl ⟨rfl, by rw [T.out]; exact HT0.out, hBV⟩
  have htk2 : t = (k : Int) := by rw [htk]; congr 1; omega
  subst htk2
  have hkn : k < n := by have := HLN.out; omega
  have hnl : ¬ ((k : Int) < 0) := by omega
  have hil : (k : Int) < (n : Int) := by omega
  clear htk
  go_wp2
  obtain ⟨css, fps, rfl, own, hlQ, EQ⟩ := QV.ex
  have HLQ := Lib.hid hlQ; clear hlQ
  obtain ⟨qb, qo, hQe, hqc⟩ := (own_cells own).2 (by omega)
  subst hQe
  obtain ⟨x, hx⟩ : ∃ x, s.snaps[k]? = some x := ⟨_, List.getElem?_eq_getElem hk⟩
  obtain ⟨d1, d2, f1, f2, cs, f, rfl, rfl, E1, hF, E2⟩ := els_cut EQ hx
  have hq0 : qo = 0 := own_off own (by omega)
  subst hq0
  obtain ⟨X1, xn, xc, fx, rfl, rfl, hSx⟩ := hF
  have hfr := own.frozenAt (k * 3 + 1)
  have hcell : V.cell? ⟨qb, k * 3 + 1, none⟩ = some (.string x.tg) := by
    have h1 : (d1.flatten).length = k * 3 := by rw [E1.flat snpK, List.length_take]; congr 1; omega
    have := hqc (k * 3 + 1) (.string x.tg) (by rw [List.flatten_append, List.getElem?_append_right (by omega), h1]; simp [snpL])
    simpa using this
  have hgl := BV.lt
  have hqbV := cell_lt hcell
  have hbq2 : b ≠ qb := fun h => hbq (by rw [h]; simp [blkL])
  have hqbg : qb < g := hqg qb (by simp [blkL])
  refine wp_region_dagb [14, 15, 16, 17, 18, 19, 20, 21, 22] (by kernel_rfl) (by kernel_rfl) (fun D vs w' => ∃ v14 v15 v16 v17 v18 v19 v20 v21 v22 : Value, vs = [v14, v15, v16, v17, v18, v19, v20, v21, v22] ∧ (D 9 = false → Below V.heap.size V w') ∧ (D 0 = true → v14 = .pointer (some ⟨b, oo, none⟩)) ∧ (D 1 = true → v15 = .pointer (some ⟨b, oo, none⟩)) ∧ (D 2 = true → v16 = .pointer (some ⟨b, oo + 1, none⟩)) ∧ (D 3 = true → v17 = .slice (some ⟨qb, 0, none⟩) n c) ∧ (D 4 = true → v18 = .int .i64 (k : Int)) ∧ (D 5 = true → v19 = .pointer (some ⟨g, 5, none⟩)) ∧ (D 6 = true → v20 = .string m.tg) ∧ (D 7 = true → v21 = .pointer (some ⟨qb, k * 3, none⟩)) ∧ (D 8 = true → v22 = .pointer (some ⟨qb, k * 3 + 1, none⟩)) ∧ (D 9 = true → ∃ (w1 : World), w' = w1.setCell ⟨qb, k * 3 + 1, none⟩ (.string m.tg) ∧ Below V.heap.size V w1))
    ⟨_, _, _, _, _, _, _, _, _, rfl, (fun _ => (Below.refl _ _).drew), (fun h => by cases h), (fun h => by cases h), (fun h => by cases h), (fun h => by cases h), (fun h => by cases h), (fun h => by cases h), (fun h => by cases h), (fun h => by cases h), (fun h => by cases h), (fun h => by cases h)⟩ ?_ ?_
  · intro i D vs w' hi hD hdep hcl hI
    have hi' : i < 10 := hi
    obtain ⟨v14, v15, v16, v17, v18, v19, v20, v21, v22, rfl, hb, k0, k1, k2, k3, k4, k5, k6, k7, k8, k9⟩ := hI
    simp only [putAll, List.setIfInBounds_toArray, List.set_cons_succ, List.set_cons_zero]
    rcases (show i = 0 ∨ i = 1 ∨ i = 2 ∨ i = 3 ∨ i = 4 ∨ i = 5 ∨ i = 6 ∨ i = 7 ∨ i = 8 ∨ i = 9 by omega) with rfl | rfl | rfl | rfl | rfl | rfl | rfl | rfl | rfl | rfl
    · refine wpOp_step (by simp only [List.getElem?_toArray, List.getElem?_cons_zero]; rfl) (fun K hK => ?_)
      go_simp
      refine hK _ _ ⟨[.pointer (some ⟨b, oo, none⟩), v15, v16, v17, v18, v19, v20, v21, v22], ?_, _, _, _, _, _, _, _, _, _, rfl, hb, (fun _ => rfl), k1, k2, k3, k4, k5, k6, k7, k8, k9⟩
      simp only [putAll, List.setIfInBounds_toArray, List.set_cons_succ, List.set_cons_zero] <;> rfl
    · have e0 := k0 (hdep 0 (by kernel_rfl))
      subst e0
      refine wpOp_step (by simp only [List.getElem?_toArray, List.getElem?_cons_succ, List.getElem?_cons_zero]; rfl) (fun K hK => ?_)
      go_simp
      refine hK _ _ ⟨[.pointer (some ⟨b, oo, none⟩), .pointer (some ⟨b, oo, none⟩), v16, v17, v18, v19, v20, v21, v22], ?_, _, _, _, _, _, _, _, _, _, rfl, hb, (fun _ => rfl), (fun _ => rfl), k2, k3, k4, k5, k6, k7, k8, k9⟩
      simp only [putAll, List.setIfInBounds_toArray, List.set_cons_succ, List.set_cons_zero] <;> rfl
    · have e1 := k1 (hdep 1 (by kernel_rfl))
      subst e1
      refine wpOp_step (by simp only [List.getElem?_toArray, List.getElem?_cons_succ, List.getElem?_cons_zero]; rfl) (fun K hK => ?_)
      go_simp
      refine hK _ _ ⟨[v14, .pointer (some ⟨b, oo, none⟩), .pointer (some ⟨b, oo + 1, none⟩), v17, v18, v19, v20, v21, v22], ?_, _, _, _, _, _, _, _, _, _, rfl, hb, k0, (fun _ => rfl), (fun _ => rfl), k3, k4, k5, k6, k7, k8, k9⟩
      simp only [putAll, List.setIfInBounds_toArray, List.set_cons_succ, List.set_cons_zero] <;> rfl
    · have e2 := k2 (hdep 2 (by kernel_rfl))
      subst e2
      have n9 : D 9 = false := Bool.eq_false_iff.2 (fun h => absurd (hcl 7 3 (hcl 8 7 (hcl 9 8 h (by kernel_rfl)) (by kernel_rfl)) (by kernel_rfl)) (by rw [hD]; simp))
      have q7 := keep_cell (hb n9) u1
      refine wpOp_step (by simp only [List.getElem?_toArray, List.getElem?_cons_succ, List.getElem?_cons_zero]; rfl) (fun K hK => ?_)
      go_simp
      refine hK _ _ ⟨[v14, v15, .pointer (some ⟨b, oo + 1, none⟩), .slice (some ⟨qb, 0, none⟩) n c, v18, v19, v20, v21, v22], ?_, _, _, _, _, _, _, _, _, _, rfl, hb, k0, k1, (fun _ => rfl), (fun _ => rfl), k4, k5, k6, k7, k8, k9⟩
      simp only [putAll, List.setIfInBounds_toArray, List.set_cons_succ, List.set_cons_zero] <;> rfl
    · refine wpOp_step (by simp only [List.getElem?_toArray, List.getElem?_cons_succ, List.getElem?_cons_zero]; rfl) (fun K hK => ?_)
      go_simp
      refine hK _ _ ⟨[v14, v15, v16, v17, .int .i64 (k : Int), v19, v20, v21, v22], ?_, _, _, _, _, _, _, _, _, _, rfl, hb, k0, k1, k2, k3, (fun _ => rfl), k5, k6, k7, k8, k9⟩
      simp only [putAll, List.setIfInBounds_toArray, List.set_cons_succ, List.set_cons_zero] <;> rfl
    · refine wpOp_step (by simp only [List.getElem?_toArray, List.getElem?_cons_succ, List.getElem?_cons_zero]; rfl) (fun K hK => ?_)
      go_simp
      refine hK _ _ ⟨[v14, v15, v16, v17, v18, .pointer (some ⟨g, 5, none⟩), v20, v21, v22], ?_, _, _, _, _, _, _, _, _, _, rfl, hb, k0, k1, k2, k3, k4, (fun _ => rfl), k6, k7, k8, k9⟩
      simp only [putAll, List.setIfInBounds_toArray, List.set_cons_succ, List.set_cons_zero] <;> rfl
    · have e5 := k5 (hdep 5 (by kernel_rfl))
      subst e5
      have n9 : D 9 = false := Bool.eq_false_iff.2 (fun h => absurd (hcl 9 6 h (by kernel_rfl)) (by rw [hD]; simp))
      have q7 := keep_cell (hb n9) (BV.cell 5 _ rfl)
      refine wpOp_step (by simp only [List.getElem?_toArray, List.getElem?_cons_succ, List.getElem?_cons_zero]; rfl) (fun K hK => ?_)
      go_simp
      refine hK _ _ ⟨[v14, v15, v16, v17, v18, .pointer (some ⟨g, 5, none⟩), .string m.tg, v21, v22], ?_, _, _, _, _, _, _, _, _, _, rfl, hb, k0, k1, k2, k3, k4, (fun _ => rfl), (fun _ => rfl), k7, k8, k9⟩
      simp only [putAll, List.setIfInBounds_toArray, List.set_cons_succ, List.set_cons_zero] <;> rfl
    · have e3 := k3 (hdep 3 (by kernel_rfl))
      subst e3
      have e4 := k4 (hdep 4 (by kernel_rfl))
      subst e4
      refine wpOp_step (by simp only [List.getElem?_toArray, List.getElem?_cons_succ, List.getElem?_cons_zero]; rfl) (fun K hK => ?_)
      go_simp
      refine hK _ _ ⟨[v14, v15, v16, .slice (some ⟨qb, 0, none⟩) n c, .int .i64 (k : Int), v19, v20, .pointer (some ⟨qb, k * 3, none⟩), v22], ?_, _, _, _, _, _, _, _, _, _, rfl, hb, k0, k1, k2, (fun _ => rfl), (fun _ => rfl), k5, k6, (fun _ => rfl), k8, k9⟩
      simp only [putAll, List.setIfInBounds_toArray, List.set_cons_succ, List.set_cons_zero] <;> rfl
    · have e7 := k7 (hdep 7 (by kernel_rfl))
      subst e7
      refine wpOp_step (by simp only [List.getElem?_toArray, List.getElem?_cons_succ, List.getElem?_cons_zero]; rfl) (fun K hK => ?_)
      go_simp
      refine hK _ _ ⟨[v14, v15, v16, v17, v18, v19, v20, .pointer (some ⟨qb, k * 3, none⟩), .pointer (some ⟨qb, k * 3 + 1, none⟩)], ?_, _, _, _, _, _, _, _, _, _, rfl, hb, k0, k1, k2, k3, k4, k5, k6, (fun _ => rfl), (fun _ => rfl), k9⟩
      simp only [putAll, List.setIfInBounds_toArray, List.set_cons_succ, List.set_cons_zero] <;> rfl
    · have e6 := k6 (hdep 6 (by kernel_rfl))
      subst e6
      have e8 := k8 (hdep 8 (by kernel_rfl))
      subst e8
      have q7 := keep_cell (hb hD) hcell
      have y7 : w'.frozen? ⟨qb, k * 3 + 1, none⟩ = false := ((hb hD).frozen (p := ⟨qb, k * 3 + 1, none⟩) hqbV).trans (by simpa using hfr)
      refine wpOp_step (by simp only [List.getElem?_toArray, List.getElem?_cons_succ, List.getElem?_cons_zero]; rfl) (fun K hK => ?_)
      go_simp
      refine hK _ _ ⟨[v14, v15, v16, v17, v18, v19, .string m.tg, v21, .pointer (some ⟨qb, k * 3 + 1, none⟩)], ?_, _, _, _, _, _, _, _, _, _, rfl, (fun h => absurd h (by simp)), k0, k1, k2, k3, k4, k5, (fun _ => rfl), k7, (fun _ => rfl), (fun _ => ⟨w', rfl, hb hD⟩)⟩
      simp only [putAll, List.setIfInBounds_toArray, List.set_cons_succ, List.set_cons_zero] <;> rfl
  · intro D vs w' hD hI
    obtain ⟨v14, v15, v16, v17, v18, v19, v20, v21, v22, rfl, hb, k0, k1, k2, k3, k4, k5, k6, k7, k8, k9⟩ := hI
    simp only [putAll, List.setIfInBounds_toArray, List.set_cons_succ, List.set_cons_zero]
    obtain ⟨w1, rfl, hC1⟩ := k9 (hD 9 (show 9 < 10 by decide))
    clear hD hb
    go_wp2
    go_returns
    have hax := snpAt_of hx
    have own1 := own_chL own (Ch.of_below (S := fun _ => False) hC1) (fun _ _ h => h)
    have S1 := hSx.keep hC1
    obtain ⟨hR, _, hCC⟩ := upd_els1 (j := 1) (v := .string m.tg) (f' := f) (x' := (⟨x.nm, m.tg, x.ch⟩ : Snp)) (w7 := w1) (w8 := w1.setCell ⟨qb, k * 3 + 1, none⟩ (.string m.tg)) snpK (by simpa using own1) (E1.keep snpK hC1) (E2.keep snpK hC1) (by simp [snpL]) (by omega) (by rw [List.length_take, List.length_drop]; have := HLQ.out; omega) (by simpa [blkL] using hN) (Ch.refl _) ⟨X1, xn, xc, f, rfl, rfl, S1⟩ (fun b hb => .inl hb) (by have := List.nodup_append.1 hN; have := List.nodup_append.1 (by simpa using this.2.1 : (f1.flatten ++ (f ++ f2.flatten)).Nodup); exact (List.nodup_append.1 this.2.1).1) (by rw [List.length_take, Nat.min_eq_left (by omega)])
    refine .inr ⟨rfl, k, T.out, hkn, ?_, (Ch.of_below hBV).trans ((Ch.of_below hC1).trans ((Ch.set (g := qb)).mono (fun t ht => by have ht : t = qb := ht; subst ht; simp [blkL])))⟩
    unfold tagS
    rw [set_split hx, hax]
    exact hR
end Go.Proofs.YtdphdnllhmnelaaGreat
/- slices.Insert: what does not speak of a type (printed by inserts.py). -/
namespace Go.Proofs.YtdphdnllhmnelaaGreat
open Go.Shelf Go.RowKit Go.Lib
/-! ### 'copy' at elements of any size -/
theorem run_copyN {P : Program} (w : World) (dT sT ty elem : TypeId) (sz b o dLen dCap : Nat) (a : Addr) (sLen sCap : Nat) (cs : List Value)
    (hu : P.underlying dT = some (.slice elem)) (hs : (P.info? elem).map (·.size) = some sz) (hn : cs.length = Nat.min sLen dLen * sz)
    (hsrc : ∀ j v, cs[j]? = some v → w.cell? (a.add j) = some v) (hc : ∀ j, j < cs.length → (w.cell? ⟨b, o + j, none⟩).isSome = true) (hf : ∀ j, j < cs.length → w.frozen? ⟨b, o + j, none⟩ = false) (h1 : ∀ v ∈ cs, v.oneCell' = true) :
    (Builtin.copy_ #[dT, sT] ty #[.slice (some ⟨b, o, none⟩) dLen dCap, .slice (some a) sLen sCap]).run P w = .ok (goInt (Nat.min sLen dLen)) (w.setCells b o cs) := by
  have hl := run_loadCells_list (P := P) w a cs hsrc
  have hst := run_storeCells_cells (P := P) b o cs 0 w (by simpa using hc) (by simpa using hf) h1
  cases hq : P.info? elem with
  | none => simp [hq] at hs
  | some i =>
    have hi : i.size = sz := by simpa [hq] using hs
    simp [Builtin.copy_, run_underlying hu, Builtin.lenOf, Builtin.firstCells, sizeOf, typeInfo, hq, hi, ← hn, hl, hst]
theorem wp_copyN {P : Program} (w : World) {o : Oper} {a : Act} {K : Act → World → Prop} {Q : Exit → Act → World → Prop} (d s : Operand) (t t' : TypeId)
    (ho : o.op = .call { callee := .builtin .copy, args := #[d, s], argTypes := #[t, t'] }) (v u : Value) (hd : a.eval d = v) (hs : a.eval s = u) {v' : Value} {w' : World}
    (hr : (Builtin.copy_ #[t, t'] o.type #[v, u]).run P w = .ok v' w') (h : K (a.put o.dst v') w') : o.wp P a w K Q := by
  unfold Oper.wp execOp
  simp only [ho, resolve, invoke, builtin, Sem.run_bind, Sem.run_pure, Result.andThen_ok, List.map_toArray, List.map_cons, List.map_nil, hd, hs, hr]
  exact h
theorem wpList_copyN {P : Program} (w : World) {ops : Array Oper} {rest : List Oper} {o : Oper} {a : Act} {Q : Exit → Act → World → Prop} (hgd : o.guard = none) (d s : Operand) (t t' : TypeId)
    (ho : o.op = .call { callee := .builtin .copy, args := #[d, s], argTypes := #[t, t'] }) (v u : Value) (hd : a.eval d = v) (hs : a.eval s = u) {v' : Value} {w' : World}
    (hr : (Builtin.copy_ #[t, t'] o.type #[v, u]).run P w = .ok v' w') (h : wpList P ops Q rest (a.put o.dst v') w') : wpList P ops Q (o :: rest) a w :=
  wpList_plain hgd fun _ hK => wp_copyN w d s t t' ho v u hd hs hr (hK _ _ h)
theorem step_copyN {P : Program} {ops : Array Oper} {o : Oper} {a : Act} {w : World} {K : Act → World → Prop} {Q : Exit → Act → World → Prop} {E : Prop}
    (hg : o.guard = none) (d x : Operand) (dT sT : TypeId) (hop : o.op = Op.call { callee := Callee.builtin Builtin.copy, args := #[d, x], argTypes := #[dT, sT] })
    (v u : Value) (hd : a.eval d = v) (hx : a.eval x = u) {v' : Value} {w' : World} (hr : (Builtin.copy_ #[dT, sT] o.type #[v, u]).run P w = .ok v' w') (hK : K (a.put o.dst v') w') :
    if Region.wanted o (yielded ops a.tmps) = true then Oper.wp P o a w K Q else E := by
  have hw : Region.wanted o (yielded ops a.tmps) = true := by simp [Region.wanted, hg]
  rw [if_pos hw]
  exact wp_copyN w d x dT sT hop v u hd hx hr hK
theorem some_setCells (b : Nat) (vs : List Value) (o : Nat) (w : World) (h : ∀ j, j < vs.length → (w.cell? ⟨b, o + j, none⟩).isSome = true) (k : Nat) (hk : (w.cell? ⟨b, k, none⟩).isSome = true) : ((w.setCells b o vs).cell? ⟨b, k, none⟩).isSome = true := by
  by_cases hin : o ≤ k ∧ k < o + vs.length
  · have := World.cell?_setCells_in b vs o w h (k - o) (by omega)
    rw [show o + (k - o) = k by omega] at this
    rw [this]; rfl
  · rw [World.cell?_setCells_out b vs o w ⟨b, k, none⟩ (fun _ _ => by show k < o ∨ o + vs.length ≤ k; omega)]
    exact hk

/-! ### one contract, on the row's cells -/
theorem own_more {w : World} {base e sz n c g m : Nat} {xs : List Value} (h : w.ownsRow base e sz (.slice (some ⟨g, 0, none⟩) n c) n xs) (hm : n ≤ m) (hc : m ≤ c) :
    ∃ ys, w.ownsRow base e sz (.slice (some ⟨g, 0, none⟩) m c) m ys ∧ ∀ t, t < n * sz → ys[t]? = xs[t]? := by
  have hle : n * sz ≤ m * sz := Nat.mul_le_mul_right _ hm
  obtain ⟨hl, h2⟩ := h
  rcases h2 with ⟨hv, _⟩ | ⟨g', cap, cur, hv, hb, hg, hn, hmx, hs, ht⟩
  · cases hv
  · injection hv with e1 e2 e3
    injection e1 with e1
    injection e1 with e1 _ _
    subst e1 e3
    have hcs : m * sz ≤ c * sz := Nat.mul_le_mul_right _ hc
    refine ⟨cur.toList.take (m * sz), ⟨by rw [List.length_take, Array.length_toList, hs]; omega, .inr ⟨g, c, cur, rfl, hb, hg, hc, hmx, hs, rfl⟩⟩, fun t htt => ?_⟩
    rw [← ht, List.getElem?_take_of_lt htt, List.getElem?_take_of_lt (by omega)]
theorem own_sets {base e sz n c g : Nat} (zs : List Value) : ∀ (o : Nat) (w : World) (xs : List Value), w.ownsRow base e sz (.slice (some ⟨g, 0, none⟩) n c) n xs →
    ∃ ys, (w.setCells g o zs).ownsRow base e sz (.slice (some ⟨g, 0, none⟩) n c) n ys ∧ (∀ t, t < o ∨ o + zs.length ≤ t → ys[t]? = xs[t]?) ∧ (∀ j, j < zs.length → o + j < n * sz → ys[o + j]? = zs[j]?) ∧ Ch (fun k => k = g) w (w.setCells g o zs) := by
  induction zs with
  | nil => intro o w xs h; exact ⟨xs, h, fun _ _ => rfl, fun j hj => absurd hj (by simp), Ch.refl _⟩
  | cons z zs ih =>
    intro o w xs h
    have hl := h.1
    obtain ⟨ys, h1, h2, h3, h4⟩ := ih (o + 1) (w.setCell ⟨g, o, none⟩ z) (xs.set o z) (h.stored o z).1
    refine ⟨ys, h1, fun t ht => ?_, fun j hj hx => ?_, ((Ch.refl (S := fun k => k = g) w).setCell (p := ⟨g, o, none⟩) rfl z).trans h4⟩
    · simp only [List.length_cons] at ht
      rw [h2 t (by omega), List.getElem?_set, if_neg (by omega)]
    · rcases j with _ | j
      · rw [Nat.add_zero] at hx ⊢
        rw [h2 o (.inl (by omega)), List.getElem?_set, if_pos rfl, if_pos (by omega)]; rfl
      · simp only [List.length_cons] at hj
        have := h3 j (by omega) (by omega)
        rw [show o + (j + 1) = o + 1 + j by omega, this]; rfl
end Go.Proofs.YtdphdnllhmnelaaGreat
/- slices.Insert of one CSet into a row of the call's own (printed by inserts.py). -/
namespace Go.Proofs.YtdphdnllhmnelaaGreat
open Go.Shelf Go.RowKit Go.Lib
theorem sizeEntry_cst (w : World) : (Go.sizeOf 165).run Tryz.prog w = .ok 2 w := by
  first | (unfold Go.sizeOf; kernel_rfl) | kernel_rfl | rfl
theorem infoSize_cst : (Tryz.prog.info? 165).map (·.size) = some 2 := by kernel_rfl

set_option maxHeartbeats 4000000 in
set_option maxRecDepth 100000 in
/-- there is room, i < len(s): in place -/
theorem ins_shift_cst (b n c i vb : Nat) (cs : List Value) (v0 v1 : Value) (w : World) (hi : i < n) (hroom : n + 1 ≤ c) (hc63 : c ≤ 9223372036854775807) (hvb : vb ≠ b) (hcl : cs.length = n * 2)
    (hcs : ∀ j v, cs[j]? = some v → w.cell? ⟨b, j, none⟩ = some v) (hsp : ∀ j, j < (n + 1) * 2 → (w.cell? ⟨b, j, none⟩).isSome = true) (hfz : ∀ j, w.frozen? ⟨b, j, none⟩ = false)
    (hv0 : w.cell? ⟨vb, 0, none⟩ = some v0) (hv1 : w.cell? ⟨vb, 1, none⟩ = some v1) (h1c : ∀ v ∈ cs, v.oneCell' = true) (h10 : v0.oneCell' = true) (h11 : v1.oneCell' = true) (hfv : ∀ j, w.frozen? ⟨vb, j, none⟩ = false) :
    Calls Tryz.prog 201 #[.slice (some ⟨b, 0, none⟩) n c, .int .i64 i, .slice (some ⟨vb, 0, none⟩) 1 1] w fun e w' =>
      e = .returned (.slice (some ⟨b, 0, none⟩) (n + 1) c) ∧ w' = (w.drew.setCells b ((i + 1) * 2) (cs.drop (i * 2))).setCells b (i * 2) [v0, v1] := by
  obtain ⟨tA, kA, hsa, _, _⟩ := World.shape?_of_cell? hv0
  obtain ⟨u, hu⟩ := Option.isSome_iff_exists.1 (hsp 0 (by omega))
  obtain ⟨tB, kB, hsb, hkB, _⟩ := World.shape?_of_cell? hu
  have hkB : kB ≠ 0 := by omega
  have hz2 : ¬ ((i : Int) = (n : Int)) := by omega
  have hov : ∀ lb cb, (callFunc 216 #[.slice (some ⟨vb, 0, none⟩) 1 1, .slice (some ⟨b, (i + 1) * 2, none⟩) lb cb]).run Tryz.prog w = .ok (.value (.bool false)) w := fun lb cb => by
    rw [run_callFunc_extern Tryz.func216 (by kernel_rfl) (by kernel_rfl) (by kernel_rfl) (e := Extern.SlicesOverlaps.overlaps #[25, 25] #[4]) (by kernel_rfl),
      Lib.run_overlaps_apart w 25 4 165 Tryz.underlying25 2 sizeEntry_cst ⟨vb, 0, none⟩ ⟨b, (i + 1) * 2, none⟩ 1 1 lb cb hvb tA tB kA kB hsa hsb hkB (hfv 0) (hfv kA)]
    rfl
  have hdl : (cs.drop (i * 2)).length = (n - i) * 2 := by rw [List.length_drop, hcl]; omega
  have mixed : Tryz.prog.follows Departure.mixedOrders = true := by kernel_rfl
  have hw1 : IntKind.i64.wrap ((i : Int) + 1) = (i : Int) + 1 := by rw [IntKind.wrap_i64]; omega
  have hb1 : (0 : Int) ≤ (i : Int) + 1 := by omega
  have htn : ((i : Int) + 1).toNat = i + 1 := by omega
  have hb3 : (i : Int) ≤ (n : Int) + 1 := by omega
  have hin : i ≤ n := by omega
  have hb2 : ¬ (c = i + 1) := by omega
  have hb4 : ¬ (c = i) := by omega
  have hcp1 : ∀ ty dc sc, (Builtin.copy_ #[25, 25] ty #[.slice (some ⟨b, (i + 1) * 2, none⟩) (n - i) dc, .slice (some ⟨b, i * 2, none⟩) (n + 1 - i) sc]).run Tryz.prog w.drew = .ok (goInt ((n - i : Nat) : Int)) (w.drew.setCells b ((i + 1) * 2) (cs.drop (i * 2))) := fun ty dc sc => by
    have hmin : Nat.min (n + 1 - i) (n - i) = n - i := by simp only [Nat.min_def]; split <;> omega
    have := run_copyN (P := Tryz.prog) w.drew 25 25 ty 165 2 b ((i + 1) * 2) (n - i) dc ⟨b, i * 2, none⟩ (n + 1 - i) sc (cs.drop (i * 2)) Tryz.underlying25 infoSize_cst (by rw [hdl, hmin])
      (fun j v hj => by rw [Addr.add_lit]; exact hcs (i * 2 + j) v (by rwa [List.getElem?_drop] at hj))
      (fun j hj => hsp _ (by omega)) (fun j hj => hfz _) (fun v hv => h1c v (List.mem_of_mem_drop hv))
    rwa [hmin] at this
  obtain ⟨W1, hW1⟩ : ∃ W1, W1 = w.drew.setCells b ((i + 1) * 2) (cs.drop (i * 2)) := ⟨_, rfl⟩
  have hsp1 : ∀ k, k < (n + 1) * 2 → (W1.cell? ⟨b, k, none⟩).isSome = true := fun k hk => by
    rw [hW1]
    exact some_setCells b (cs.drop (i * 2)) ((i + 1) * 2) w.drew (fun j hj => hsp ((i + 1) * 2 + j) (by rw [hdl] at hj; omega)) k (hsp k hk)
  have hcp2 : ∀ (W : World), (∀ x, W.cell? x = W1.cell? x) → (∀ x, W.frozen? x = W1.frozen? x) → ∀ ty dc, (Builtin.copy_ #[25, 25] ty #[.slice (some ⟨b, i * 2, none⟩) (n + 1 - i) dc, .slice (some ⟨vb, 0, none⟩) 1 1]).run Tryz.prog W = .ok (goInt 1) (W.setCells b (i * 2) [v0, v1]) := fun W hWc hWf ty dc => by
    have hmin : Nat.min 1 (n + 1 - i) = 1 := by simp only [Nat.min_def]; split <;> omega
    have := run_copyN (P := Tryz.prog) W 25 25 ty 165 2 b (i * 2) (n + 1 - i) dc ⟨vb, 0, none⟩ 1 1 [v0, v1] Tryz.underlying25 infoSize_cst (by rw [hmin]; rfl)
      (fun j v hj => by
        rw [Addr.add_lit, hWc, hW1, World.cell?_setCells_out b _ _ _ _ (fun h _ => absurd h hvb), Nat.zero_add]
        rcases j with _ | _ | j
        · injection hj with hj; subst hj; exact hv0
        · injection hj with hj; subst hj; exact hv1
        · cases hj)
      (fun j hj => by rw [hWc]; exact hsp1 _ (by simp at hj; omega)) (fun j hj => by rw [hWf, hW1, World.frozen?_setCells]; exact hfz _) (fun v hv => by
        simp at hv; rcases hv with rfl | rfl
        · exact h10
        · exact h11)
    rwa [hmin] at this
  rw [← hW1] at hcp1
  clear hsp1
  go_enter Tryz.func201, Tryz.ntmps201
  go_wp2_with (simp only [hov])
  go_region_law_o (refine step_copyN rfl _ _ 25 25 rfl _ _ (by simp [Act.eval, Act.put]) (by simp [Act.eval, Act.put]) (hcp1 _ _ _) ?_)
  go_wp2_with (at_builtin; refine wpList_copyN _ rfl _ _ 25 25 rfl _ _ rfl rfl (hcp2 _ (fun _ => rfl) (fun _ => rfl) _ _) ?_)
  go_returns
  first | exact ⟨rfl, rfl⟩ | exact ⟨rfl, by rw [hW1]⟩

theorem zeroE_size_cst (k : Nat) : (Builtin.zeroCells (Value.agg #[.string ByteArray.empty, .slice none 0 0]).cells k).size = k * 2 := by
  simp [Builtin.zeroCells, Value.cells]
set_option maxHeartbeats 4000000 in
set_option maxRecDepth 100000 in
/-- i < len(s), no room: a new row -/
theorem ins_grow_cst (b n c i vb : Nat) (cs : List Value) (v0 v1 : Value) (w : World) (hi : i < n) (hnc : n ≤ c) (hroom : c < n + 1) (hbig : (n + 1) * 40 ≤ 140737488355328) (hcl : cs.length = n * 2)
    (hcs : ∀ j v, cs[j]? = some v → w.cell? ⟨b, j, none⟩ = some v)
    (hv0 : w.cell? ⟨vb, 0, none⟩ = some v0) (hv1 : w.cell? ⟨vb, 1, none⟩ = some v1) (h1c : ∀ v ∈ cs, v.oneCell' = true) (h10 : v0.oneCell' = true) (h11 : v1.oneCell' = true) :
    Calls Tryz.prog 201 #[.slice (some ⟨b, 0, none⟩) n c, .int .i64 i, .slice (some ⟨vb, 0, none⟩) 1 1] w fun e w' =>
      ∃ G ROW, n + 1 ≤ G ∧ G ≤ maxLen ∧ ROW.size = G * 2 ∧ (∀ j, j < i * 2 → ROW[j]? = cs[j]?) ∧ e = .returned (.slice (some ⟨w.heap.size, 0, none⟩) (n + 1) G) ∧
      w' = (((w.alloc (.cells ROW 165)).drew.setCells w.heap.size (i * 2) [v0, v1]).drew).setCells w.heap.size ((i + 1) * 2) (cs.drop (i * 2)) := by
  have mixed : Tryz.prog.follows Departure.mixedOrders = true := by kernel_rfl
  obtain ⟨i0, hi0, hz0, hzs, hzb⟩ := info_parts cstInfo
  have hz2 : ¬ ((i : Int) = (n : Int)) := by omega
  have hz3 : (c : Int) < (n : Int) + 1 := by omega
  have hbw : b < w.heap.size := cell_lt (hcs 0 _ (List.getElem?_eq_getElem (by omega)))
  have hvw : vb < w.heap.size := cell_lt hv0
  have hkk : (n : Int) + 1 - (i : Int) = ((n + 1 - i : Nat) : Int) := by omega
  have hik : i + (n + 1 - i) = n + 1 := by omega
  have hold : (Builtin.firstCells i0.size i (.slice (some ⟨b, 0, none⟩) i c)).run Tryz.prog w.drew = .ok (cs.take (i * 2)).toArray w.drew := by
    rw [hzs]
    exact run_firstCells_some w.drew 2 i ⟨b, 0, none⟩ i c (cs.take (i * 2)) (by rw [List.length_take]; omega) (fun j v hj => by
      rw [Addr.add_lit, Nat.zero_add]
      rw [List.getElem?_take] at hj
      split at hj
      · exact hcs j v hj
      · cases hj)
  obtain ⟨G, hG⟩ : ∃ G, G = grownCap w (n + 1) c 165 := ⟨_, rfl⟩
  obtain ⟨ROW, hROW⟩ : ∃ ROW : Array Value, ROW = (cs.take (i * 2)).toArray ++ Builtin.zeroCells (Value.agg #[.string ByteArray.empty, .slice none 0 0]).cells (n + 1 - i) ++ Builtin.zeroCells (Value.agg #[.string ByteArray.empty, .slice none 0 0]).cells (G - (n + 1)) := ⟨_, rfl⟩
  have hrz : ∀ ty, (Builtin.append_ #[25, 3] ty #[.slice (some ⟨b, 0, none⟩) i c, .int .i64 ((n : Int) + 1 - (i : Int))]).run Tryz.prog w =
      .ok (.slice (some ⟨w.heap.size, 0, none⟩) (n + 1) G) (w.drew.alloc (.cells ROW 165)) := fun ty => by
    have h := Lib.run_append_grow_zeros w 25 3 ty 165 i0 _ .i64 .i64 Tryz.underlying25 Tryz.underlying3 hi0 hz0 (some ⟨b, 0, none⟩) i c (cs.take (i * 2)) hold (n + 1 - i) (by omega) (by omega) (by omega) (by omega) (by rw [hzb]; omega) (by rw [hzb, hik]; exact growslice_fits hroom hbig)
    rw [hik, ← hG, ← hROW] at h
    rw [hkk]
    exact h
  have hGn : n + 1 ≤ G := by rw [hG]; exact grownCap_ge w _ _ _
  have hGm : G ≤ maxLen := by rw [hG]; exact grownCap_le_maxLen w (n + 1) c 165 (by unfold maxLen; omega)
  have hG63 : G ≤ 9223372036854775807 := by unfold maxLen at hGm; omega
  have hRl : ROW.size = G * 2 := by
    rw [hROW, Array.size_append, Array.size_append, zeroE_size_cst, zeroE_size_cst]
    simp [hcl]
    omega
  have hRc : ∀ j, j < i * 2 → ROW[j]? = cs[j]? := fun j hj => by
    have hl : (cs.take (i * 2)).length = i * 2 := by rw [List.length_take]; omega
    rw [hROW, Array.getElem?_append, if_pos (by simp [hcl, zeroE_size_cst]; omega), Array.getElem?_append, if_pos (by simp [hcl]; omega)]
    simp [hj]
  obtain ⟨W1, hW1⟩ : ∃ W1, W1 = w.drew.alloc (.cells ROW 165) := ⟨_, rfl⟩
  rw [← hW1] at hrz
  have hN : ∀ j, j < (n + 1) * 2 → (W1.cell? ⟨w.heap.size, j, none⟩).isSome = true := fun j hj => by
    rw [hW1, World.cell?_alloc_at (w := w.drew) ROW _ w.heap.size j rfl, Array.getElem?_eq_getElem (by omega)]; rfl
  have hNf : ∀ j, W1.frozen? ⟨w.heap.size, j, none⟩ = false := fun j => by rw [hW1]; exact World.frozen?_alloc_at (w := w.drew) ROW _ w.heap.size j rfl
  have hOb : ∀ j v, w.cell? ⟨b, j, none⟩ = some v → W1.cell? ⟨b, j, none⟩ = some v := fun j v h => by rw [hW1, World.cell?_alloc_past (w := w.drew) _ b j hbw]; exact h
  have hOv : ∀ j v, w.cell? ⟨vb, j, none⟩ = some v → W1.cell? ⟨vb, j, none⟩ = some v := fun j v h => by rw [hW1, World.cell?_alloc_past (w := w.drew) _ vb j hvw]; exact h
  have hcpA : ∀ (W : World), (∀ x, W.cell? x = W1.cell? x) → (∀ x, W.frozen? x = W1.frozen? x) → ∀ ty dc, (Builtin.copy_ #[25, 25] ty #[.slice (some ⟨w.heap.size, i * 2, none⟩) (n + 1 - i) dc, .slice (some ⟨vb, 0, none⟩) 1 1]).run Tryz.prog W = .ok (goInt 1) (W.setCells w.heap.size (i * 2) [v0, v1]) := fun W hWc hWf ty dc => by
    have hmin : Nat.min 1 (n + 1 - i) = 1 := by simp only [Nat.min_def]; split <;> omega
    have := run_copyN (P := Tryz.prog) W 25 25 ty 165 2 w.heap.size (i * 2) (n + 1 - i) dc ⟨vb, 0, none⟩ 1 1 [v0, v1] Tryz.underlying25 infoSize_cst (by rw [hmin]; rfl)
      (fun j v hj => by
        rw [Addr.add_lit, hWc, Nat.zero_add]
        rcases j with _ | _ | j
        · injection hj with hj; subst hj; exact hOv _ _ hv0
        · injection hj with hj; subst hj; exact hOv _ _ hv1
        · cases hj)
      (fun j hj => by rw [hWc]; exact hN _ (by simp at hj; omega)) (fun j hj => by rw [hWf]; exact hNf _) (fun v hv => by
        simp at hv; rcases hv with rfl | rfl
        · exact h10
        · exact h11)
    rwa [hmin] at this
  have hGi : ¬ (G = i) := by omega
  have hGim : ¬ (G = i + 1) := by omega
  have hci : ¬ (c = i) := by omega
  have hbN : b ≠ w.heap.size := by omega
  have hdl : (cs.drop (i * 2)).length = (n - i) * 2 := by rw [List.length_drop, hcl]; omega
  have hcpB : ∀ (W : World), (∀ x, W.cell? x = (W1.setCells w.heap.size (i * 2) [v0, v1]).cell? x) → (∀ x, W.frozen? x = (W1.setCells w.heap.size (i * 2) [v0, v1]).frozen? x) → ∀ ty dc sc, (Builtin.copy_ #[25, 25] ty #[.slice (some ⟨w.heap.size, (i + 1) * 2, none⟩) (n - i) dc, .slice (some ⟨b, i * 2, none⟩) (n - i) sc]).run Tryz.prog W = .ok (goInt ((n - i : Nat) : Int)) (W.setCells w.heap.size ((i + 1) * 2) (cs.drop (i * 2))) := fun W hWc hWf ty dc sc => by
    have hmin : Nat.min (n - i) (n - i) = n - i := by simp only [Nat.min_def]; split <;> omega
    have := run_copyN (P := Tryz.prog) W 25 25 ty 165 2 w.heap.size ((i + 1) * 2) (n - i) dc ⟨b, i * 2, none⟩ (n - i) sc (cs.drop (i * 2)) Tryz.underlying25 infoSize_cst (by rw [hdl, hmin])
      (fun j v hj => by
        rw [Addr.add_lit, hWc, World.cell?_setCells_out _ _ _ _ _ (fun h _ => absurd h hbN)]
        exact hOb _ v (hcs (i * 2 + j) v (by rwa [List.getElem?_drop] at hj)))
      (fun j hj => by rw [hWc]; exact some_setCells _ _ _ _ (fun t ht => hN _ (by simp at ht; omega)) _ (hN _ (by omega)))
      (fun j hj => by rw [hWf, World.frozen?_setCells]; exact hNf _) (fun v hv => h1c v (List.mem_of_mem_drop hv))
    rwa [hmin] at this
  subst hW1
  have hE1 : ∀ x, ((w.alloc (.cells ROW 165)).drew).cell? x = (w.drew.alloc (.cells ROW 165)).cell? x := fun x => rfl
  have hE2 : ∀ x, ((w.alloc (.cells ROW 165)).drew).frozen? x = (w.drew.alloc (.cells ROW 165)).frozen? x := fun x => rfl
  have hF1 : ∀ x, (((w.alloc (.cells ROW 165)).drew.setCells w.heap.size (i * 2) [v0, v1]).drew).cell? x = ((w.drew.alloc (.cells ROW 165)).setCells w.heap.size (i * 2) [v0, v1]).cell? x := fun x => rfl
  have hF2 : ∀ x, (((w.alloc (.cells ROW 165)).drew.setCells w.heap.size (i * 2) [v0, v1]).drew).frozen? x = ((w.drew.alloc (.cells ROW 165)).setCells w.heap.size (i * 2) [v0, v1]).frozen? x := fun x => rfl
  have hw1 : IntKind.i64.wrap ((i : Int) + 1) = (i : Int) + 1 := by rw [IntKind.wrap_i64]; omega
  have hb1 : (0 : Int) ≤ (i : Int) + 1 := by omega
  have hin : i ≤ n := by omega
  have htn : ((i : Int) + 1).toNat = i + 1 := by omega
  have hb3 : (i : Int) ≤ (n : Int) := by omega
  clear hkk hik hold hROW hG hN hNf hOb hOv
  go_enter Tryz.func201, Tryz.ntmps201
  go_wp2_with (first
    | (at_builtin; refine Lib.wpList_append_run _ rfl _ _ _ _ rfl _ _ rfl rfl _ _ (hrz _) ?_)
    | (at_builtin; refine wpList_copyN _ rfl _ _ 25 25 rfl _ _ rfl rfl (hcpA _ hE1 hE2 _ _) ?_)
    | (at_builtin; refine wpList_copyN _ rfl _ _ 25 25 rfl _ _ rfl rfl (hcpB _ (fun _ => rfl) (fun _ => rfl) _ _ _) ?_))
  go_region_law_o (refine step_copyN rfl _ _ 25 25 rfl (.slice (some ⟨w.heap.size, (i + 1) * 2, none⟩) (n - i) (G - (i + 1))) (.slice (some ⟨b, i * 2, none⟩) (n - i) (c - i)) (by simp [Act.eval, Act.put]) (by simp [Act.eval, Act.put]) (hcpB _ hF1 hF2 3 (G - (i + 1)) (c - i)) ?_)
  go_wp2
  go_returns
  exact ⟨G, ROW, hGn, hGm, hRl, hRc, rfl, rfl⟩

set_option maxRecDepth 100000 in
/-- at the end: as an append -/
theorem ins_end_cst (lo vb n c : Nat) (A : Option Addr) (xs : List Value) (v0 v1 : Value) (w : World) (hown : w.ownsRow lo 165 2 (.slice A n c) n xs) (hlo : lo ≤ w.heap.size) (hn : n ≤ 1048576)
    (hv0 : w.cell? ⟨vb, 0, none⟩ = some v0) (hv1 : w.cell? ⟨vb, 1, none⟩ = some v1) (h10 : v0.oneCell' = true) (h11 : v1.oneCell' = true) :
    Calls Tryz.prog 201 #[.slice A n c, .int .i64 n, .slice (some ⟨vb, 0, none⟩) 1 1] w fun e w' =>
      ∃ A' c', e = .returned (.slice A' (n + 1) c') ∧ w'.ownsRow lo 165 2 (.slice A' (n + 1) c') (n + 1) (xs ++ [v0, v1]) ∧ w.grownBy w' (Value.slice A n c).ownBlock ∧
      ((Value.slice A' (n + 1) c').ownBlock = (Value.slice A n c).ownBlock ∨ (Value.slice A' (n + 1) c').ownBlock = some w.heap.size) := by
  have mixed : Tryz.prog.follows Departure.mixedOrders = true := by kernel_rfl
  have hsrc : CellsAt w (some ⟨vb, 0, none⟩) 1 2 [v0, v1] := by
    refine ⟨rfl, fun _ => ⟨vb, 0, rfl, fun j u hu => ?_⟩⟩
    rcases j with _ | _ | j
    · injection hu with hu; subst hu; exact hv0
    · injection hu with hu; subst hu; exact hv1
    · cases hu
  have hle := own_le hown
  have hle1 := hle.1
  have hle2 := hle.2
  rcases own_form hown with ⟨rfl, rfl, rfl, rfl⟩ | ⟨g, rfl, _, _⟩
  · go_enter Tryz.func201, Tryz.ntmps201
    go_wp2_with (at_builtin; refine wpList_app (P := Tryz.prog) w rfl _ _ 25 rfl lo 165 _ 2 40 Tryz.underlying25 cstInfo rfl (by omega) (.slice none 0 0) 0 [] rfl hown (some ⟨vb, 0, none⟩) 1 1 [v0, v1] rfl hsrc (by simp [h10, h11]) (fun h => by cases h) (by unfold maxLen; omega) (by omega) hlo ?_; intro A' c' w1 hown1 hg1 hb1 hob1)
    go_returns
    exact ⟨A', c', rfl, hown1, hg1, hob1⟩
  · go_enter Tryz.func201, Tryz.ntmps201
    go_wp2_with (at_builtin; refine wpList_app (P := Tryz.prog) w rfl _ _ 25 rfl lo 165 _ 2 40 Tryz.underlying25 cstInfo rfl (by omega) (.slice (some ⟨g, 0, none⟩) n c) n xs rfl hown (some ⟨vb, 0, none⟩) 1 1 [v0, v1] rfl hsrc (by simp [h10, h11]) (fun h => by cases h) (by unfold maxLen; omega) (by omega) hlo ?_; intro A' c' w1 hown1 hg1 hb1 hob1)
    all_goals (go_returns; exact ⟨A', c', rfl, hown1, hg1, hob1⟩)

/-- the cells with an element inserted -/
theorem ins_ext_cst {ys xs : List Value} {v0 v1 : Value} {n i : Nat} (hi : i ≤ n) (hx : xs.length = n * 2) (hy : ys.length = (n + 1) * 2) (h0 : ∀ t, t < i * 2 → ys[t]? = xs[t]?) (h1 : ∀ j, j < 2 → ys[i * 2 + j]? = [v0, v1][j]?)
    (h2 : ∀ j, j < (n - i) * 2 → ys[(i + 1) * 2 + j]? = (xs.drop (i * 2))[j]?) : ys = xs.take (i * 2) ++ [v0, v1] ++ xs.drop (i * 2) := by
  have hl : (xs.take (i * 2)).length = i * 2 := by rw [List.length_take]; omega
  apply List.ext_getElem?
  intro t
  rw [List.append_assoc, List.getElem?_append, hl]
  by_cases c1 : t < i * 2
  · rw [if_pos c1, h0 t c1, List.getElem?_take_of_lt c1]
  · rw [if_neg c1]
    by_cases c2 : t < (i + 1) * 2
    · rw [List.getElem?_append, if_pos (by simp; omega), ← h1 (t - i * 2) (by omega), show i * 2 + (t - i * 2) = t by omega]
    · rw [List.getElem?_append, if_neg (by simp; omega)]
      by_cases c3 : t < (n + 1) * 2
      · rw [show t - i * 2 - [v0, v1].length = t - (i + 1) * 2 by simp; omega, ← h2 (t - (i + 1) * 2) (by omega), show (i + 1) * 2 + (t - (i + 1) * 2) = t by omega]
      · rw [List.getElem?_eq_none (by omega), List.getElem?_eq_none (by simp; omega)]

theorem insert_own_cst (lo vb n c i : Nat) (A : Option Addr) (xs : List Value) (v0 v1 : Value) (w : World) (hown : w.ownsRow lo 165 2 (.slice A n c) n xs) (hlo : lo ≤ w.heap.size) (hn : n ≤ 1048576) (hi : i ≤ n)
    (hvb : ∀ g, BlkOf A g → vb ≠ g) (hfv : ∀ j, w.frozen? ⟨vb, j, none⟩ = false) (hv0 : w.cell? ⟨vb, 0, none⟩ = some v0) (hv1 : w.cell? ⟨vb, 1, none⟩ = some v1)
    (h1c : ∀ v ∈ xs, v.oneCell' = true) (h10 : v0.oneCell' = true) (h11 : v1.oneCell' = true) :
    Calls Tryz.prog 201 #[.slice A n c, .int .i64 i, .slice (some ⟨vb, 0, none⟩) 1 1] w fun e w' =>
      ∃ A' c', e = .returned (.slice A' (n + 1) c') ∧ w'.ownsRow lo 165 2 (.slice A' (n + 1) c') (n + 1) (xs.take (i * 2) ++ [v0, v1] ++ xs.drop (i * 2)) ∧ Ch (fun k => (Value.slice A n c).ownBlock = some k) w w' ∧
      ((Value.slice A' (n + 1) c').ownBlock = (Value.slice A n c).ownBlock ∨ (Value.slice A' (n + 1) c').ownBlock = some w.heap.size) := by
  have hxl := hown.1
  by_cases hin : i = n
  · subst hin
    refine (ins_end_cst lo vb i c A xs v0 v1 w hown hlo hn hv0 hv1 h10 h11).mono ?_
    rintro e w' ⟨A', c', rfl, h1, h2, h3⟩
    refine ⟨A', c', rfl, ?_, Ch.of_grow h2, h3⟩
    rwa [List.take_of_length_le (by omega), List.drop_eq_nil_of_le (by omega), List.append_nil]
  · have hle := own_le hown
    obtain ⟨g, rfl, hlg, hgh⟩ : ∃ g, A = some ⟨g, 0, none⟩ ∧ lo ≤ g ∧ g < w.heap.size := by
      rcases own_form hown with ⟨_, h0, _⟩ | h
      · omega
      · exact h
    have hcell : ∀ j v, xs[j]? = some v → w.cell? ⟨g, j, none⟩ = some v := fun j v hj => by
      exact (hown.cellAt j (by have := (List.getElem?_eq_some_iff.1 hj).1; omega)).trans hj
    have hdl : (xs.drop (i * 2)).length = (n - i) * 2 := by rw [List.length_drop, hxl]; omega
    by_cases hroom : n + 1 ≤ c
    · obtain ⟨ys, hy, hyx⟩ := own_more hown (Nat.le_succ n) hroom
      refine (ins_shift_cst g n c i vb xs v0 v1 w (by omega) hroom hle.2 (hvb g (by simp [BlkOf])) hxl hcell (fun j hj => ?_) (fun j => hown.frozenAt j) hv0 hv1 h1c h10 h11 hfv).mono ?_
      · obtain ⟨u, hu⟩ := own_cell hy (j := j) (by omega)
        rw [hu]; rfl
      rintro e w' ⟨rfl, rfl⟩
      obtain ⟨y1, a1, a2, a3, a4⟩ := own_sets (xs.drop (i * 2)) ((i + 1) * 2) w.drew ys hy
      obtain ⟨y2, b1, b2, b3, b4⟩ := own_sets [v0, v1] (i * 2) _ y1 a1
      have hE : y2 = xs.take (i * 2) ++ [v0, v1] ++ xs.drop (i * 2) := by
        refine ins_ext_cst (by omega) hxl b1.1 (fun t ht => ?_) (fun j hj => ?_) (fun j hj => ?_)
        · rw [b2 t (.inl ht), a2 t (.inl (by omega)), hyx t (by omega)]
        · exact b3 j hj (by omega)
        · rw [b2 _ (.inr (by simp; omega)), a3 j (by omega) (by omega)]
      rw [hE] at b1
      refine ⟨_, _, rfl, b1, ?_, .inl rfl⟩
      have h0 : Ch (fun k => k = g) w w.drew := (Ch.refl w).drew
      exact ((h0.trans a4).trans b4).mono (fun k hk => by subst hk; rfl)
    · refine (ins_grow_cst g n c i vb xs v0 v1 w (by omega) hle.1 (by omega) (by omega) hxl hcell hv0 hv1 h1c h10 h11).mono ?_
      rintro e w' ⟨G, ROW, hG1, hG2, hR, hRc, rfl, rfl⟩
      have h0 : Ch (fun k => k = w.heap.size) w ((w.alloc (.cells ROW 165)).drew) := ((Ch.refl w).alloc _).drew
      have ho : ((w.alloc (.cells ROW 165)).drew).ownsRow lo 165 2 (.slice (some ⟨w.heap.size, 0, none⟩) (n + 1) G) (n + 1) (ROW.toList.take ((n + 1) * 2)) :=
        ⟨by simp [hR]; omega, .inr ⟨w.heap.size, G, ROW, rfl, hlo, by show (w.heap.push _)[w.heap.size]? = _; simp, hG1, hG2, hR, rfl⟩⟩
      obtain ⟨y1, a1, a2, a3, a4⟩ := own_sets [v0, v1] (i * 2) _ _ ho
      have a1' : (((w.alloc (.cells ROW 165)).drew.setCells w.heap.size (i * 2) [v0, v1]).drew).ownsRow lo 165 2 (.slice (some ⟨w.heap.size, 0, none⟩) (n + 1) G) (n + 1) y1 := a1
      obtain ⟨y2, b1, b2, b3, b4⟩ := own_sets (xs.drop (i * 2)) ((i + 1) * 2) _ y1 a1'
      have hE : y2 = xs.take (i * 2) ++ [v0, v1] ++ xs.drop (i * 2) := by
        refine ins_ext_cst (by omega) hxl b1.1 (fun t ht => ?_) (fun j hj => ?_) (fun j hj => ?_)
        · rw [b2 t (.inl (by omega)), a2 t (.inl ht), List.getElem?_take_of_lt (by omega), Array.getElem?_toList, hRc t ht]
        · rw [b2 _ (.inl (by omega)), a3 j hj (by omega)]
        · rw [b3 j (by omega) (by omega)]
      rw [hE] at b1
      refine ⟨_, _, rfl, b1, ?_, .inr rfl⟩
      have hC := ((h0.trans a4).drew).trans b4
      exact ⟨hC.os, hC.tape, hC.output, hC.size, fun k hk _ => hC.block k hk (by omega)⟩
end Go.Proofs.YtdphdnllhmnelaaGreat
/- One element (without blocks of its own) put into a row between its elements. -/
namespace Go.Proofs.YtdphdnllhmnelaaGreat
open Go.RowKit
section
variable {α : Type} {R : World → List Value → α → Prop} {F : List Nat → World → List Value → α → Prop} {e sz n c c' m k : Nat} {w w' : World} {fps : List (List Nat)} {css : List (List Value)} {A A' : Option Addr} {l : List α} {cs : List Value} {x : α}
theorem row_ins1 (K : KindOk R F sz) (hk : k ≤ n) (hl : n = l.length) (E : Els F w css fps l) (hx : F [] w' cs x) (hN : (blkL A ++ fps.flatten).Nodup)
    (own' : w'.ownsRow 0 e sz (.slice A' (n + 1) c') (n + 1) (css.flatten.take (k * sz) ++ cs ++ css.flatten.drop (k * sz))) (hch : Ch (fun b => (Value.slice A n c).ownBlock = some b) w w')
    (hob : (Value.slice A' (n + 1) c').ownBlock = (Value.slice A n c).ownBlock ∨ (Value.slice A' (n + 1) c').ownBlock = some m) (hm : w.heap.size ≤ m) :
    ∃ fp', RowO F e sz fp' w' A' (n + 1) c' (l.take k ++ x :: l.drop k) ∧ fp'.Nodup ∧ (∀ b ∈ fp', b ∈ blkL A ++ fps.flatten ∨ b = m) ∧ Ch (fun b => b ∈ blkL A) w w' := by
  have hN2 := List.nodup_append.1 hN
  have hblk : ∀ b ∈ blkL A', b ∈ blkL A ∨ b = m := fun b hb => by
    have h1 := blk_own (n := n + 1) (c := c') (mem_blkL.1 hb)
    rcases hob with h2 | h2
    · exact .inl (mem_blkL.2 (blk_of (h2.symm.trans h1)))
    · exact .inr (Option.some.inj (h1.symm.trans h2))
  have hlt := E.lt K
  have E' := E.ch K hch (fun b hb e => hN2.2.2 b (mem_blkL.2 (blk_of e)) b hb rfl)
  have hl1 : (l.take k).length = k := by rw [List.length_take]; omega
  rw [← List.take_append_drop k l] at E'
  obtain ⟨c1, c2, f1, f2, rfl, rfl, E1, E2⟩ := E'.split
  have hc1 : c1.flatten.length = k * sz := by rw [E1.flat K, hl1]
  rw [List.flatten_append, List.take_left' hc1, List.drop_left' hc1] at own'
  have E3 := E1.app ((Els.one hx).app E2)
  have hfl : (f1 ++ ([[]] ++ f2)).flatten = (f1 ++ f2).flatten := by simp
  have own6 : w'.ownsRow 0 e sz (.slice A' (n + 1) c') (n + 1) (c1 ++ ([cs] ++ c2)).flatten := by simpa using own'
  refine ⟨blkL A' ++ (f1 ++ ([[]] ++ f2)).flatten, RowO.intro own6 (by simp; omega) (by simpa using E3), ?_, fun b hb => ?_, hch.mono (fun b hb => mem_blkL.2 (blk_of hb))⟩
  · rw [hfl]
    refine List.nodup_append.2 ⟨by cases A' <;> simp [blkL], hN2.2.1, fun a ha b hb e => ?_⟩
    subst e
    rcases hblk a ha with h1 | h1
    · exact hN2.2.2 a h1 a hb rfl
    · have := hlt a hb; omega
  · rw [hfl] at hb
    rcases List.mem_append.1 hb with hb | hb
    · rcases hblk b hb with h | h
      · exact .inl (List.mem_append_left _ h)
      · exact .inr h
    · exact .inl (List.mem_append_right _ hb)
end
end Go.Proofs.YtdphdnllhmnelaaGreat
/- What the program does to a catalog of its own: create. -/
namespace Go.Proofs.YtdphdnllhmnelaaGreat
open Go.RowKit
attribute [local go_sem] Grow.cell Grow.frozen
/-- how many sets stand ahead of a name -/
def atS : List Cst → ByteArray → Nat
  | [], _ => 0
  | s :: l, nm => if sLt s.nm nm then atS l nm + 1 else 0
theorem atS_le (nm : ByteArray) : ∀ l : List Cst, atS l nm ≤ l.length
  | [] => Nat.le_refl _
  | s :: l => by have := atS_le nm l; unfold atS; simp only [List.length_cons]; split <;> omega
theorem atS_drop {l : List Cst} {k : Nat} {x : Cst} (nm : ByteArray) (hx : l[k]? = some x) : atS (l.drop k) nm = if sLt x.nm nm then atS (l.drop (k + 1)) nm + 1 else 0 := by
  obtain ⟨hk, rfl⟩ := List.getElem?_eq_some_iff.1 hx
  rw [List.drop_eq_getElem_cons hk, atS]
/-- the sets with one more -/
def insS (l : List Cst) (nm : ByteArray) : List Cst := l.take (atS l nm) ++ ⟨nm, []⟩ :: l.drop (atS l nm)
attribute [local irreducible] StrsAt StrR StrO RowR RowO cstFnd sLt atS
set_option maxRecDepth 8000 in
set_option maxHeartbeats 8000000 in
theorem create_impl (l : List Cst) (nm : ByteArray) (b : Nat) (A : Option Addr) (n c : Nat) (fq : List Nat) (w : World) (hc0 : w.cell? ⟨b, 0, none⟩ = some (.slice A n c)) (hfz : w.frozen? ⟨b, 0, none⟩ = false)
    (hA : RowO cstF 165 2 fq w A n c l) (hN : fq.Nodup) (hbq : b ∉ fq) (hn : n ≤ 1000) :
    Calls Tryz.prog 170 #[.pointer (some ⟨b, 0, none⟩), .string nm] w fun e w' => (e = .returned (.string exT) ∧ 0 ≤ cstFnd l 0 nm ∧ Below w.heap.size w w') ∨ (e = .returned (.string fuT) ∧ cstFnd l 0 nm < 0 ∧ n = 5 ∧ Below w.heap.size w w') ∨
      (e = .returned (.string okT) ∧ cstFnd l 0 nm < 0 ∧ n ≠ 5 ∧ ∃ w1 A' c' fq', w' = w1.setCell ⟨b, 0, none⟩ (.slice A' (n + 1) c') ∧ Ch (fun t => t ∈ fq) w w1 ∧ RowO cstF 165 2 fq' w1 A' (n + 1) c' (insS l nm) ∧ fq'.Nodup ∧ ∀ t ∈ fq', t ∈ fq ∨ w.heap.size ≤ t) := by
  have hbl := cell_lt hc0
  have hnq : ∀ t ∈ fq, t < w.heap.size := hA.lt cstK
  have HL := Lib.hid hA.len
  have hR := hA.at_ cstK (by omega)
  have hfnd := cstFnd_impl ⟨l⟩ nm A n c w hR (by omega)
  unfold ctlV at hfnd
  go_enter Tryz.func170, Tryz.ntmps170
  go_wp2_with fail
  refine hfnd.mono ?_
  rintro r w1 ⟨rfl, hb1⟩
  obtain ⟨t, ht⟩ : ∃ t, cstFnd l 0 nm = t := ⟨_, rfl⟩
  have T := Lib.hid ht
  simp only [ht]
  clear ht hfnd
  have q0 := keep_cell hb1 hc0
  have hb1s := hb1.size
  have hbW := cell_lt q0
  by_cases ht0 : 0 ≤ t
  · have gd : decide (t ≥ 0) = true := decide_eq_true ht0
    have HT0 := Lib.hid ht0; have hnl : ¬ t < 0 := by omega
    go_wp2
    go_returns
    exact .inl ⟨rfl, by rw [T.out]; exact HT0.out, hb1⟩
  have gd : decide (t ≥ 0) = false := decide_eq_false ht0
  have HT0 := Lib.hid ht0; have hlt0 : t < 0 := (by omega); clear ht0
  by_cases h5 : n = 5
  · have g5 : ((n : Int) == 5) = true := beq_iff_eq.2 (by omega)
    have H5 := Lib.hid h5; clear h5
    go_wp2
    go_returns
    exact .inr (.inl ⟨rfl, by rw [T.out]; have := HT0.out; omega, H5.out, hb1⟩)
  have g5 : ((n : Int) == 5) = false := beq_eq_false_iff_ne.2 (by omega)
  have H5 := Lib.hid h5; clear h5
  go_wp2
  have hR1 := hR.keep cstK hb1
  go_loopw [5] (fun i wr => ∃ k : Nat, k ≤ n ∧ i = .int .i64 k ∧ atS l nm = k + atS (l.drop k) nm ∧ Below w1.heap.size w1 wr) (fun i _ => n - (intOf i).toNat)
  case atStart => exact ⟨0, Nat.zero_le _, rfl, by simp, Below.refl _ _⟩
  case round =>
    obtain ⟨k, hk, rfl, hp, hbr⟩ := hrel
    have HP := Lib.hid hp; clear hp
    have r0 := keep_cell hbr q0
    by_cases hlt : k < n
    · have k1 := hR1.keep cstK hbr
      obtain ⟨qb, qo, rfl⟩ := k1.head (by omega)
      obtain ⟨bl, y, cs, hy, ⟨B1, m1, d1, rfl, y1⟩, hcell⟩ := k1.elem_at hlt
      have f0 : wr.cell? ⟨qb, qo + k * 2, none⟩ = some (.string y.nm) := hcell 0 _ rfl
      have HD := Lib.hid (atS_drop nm hy)
      clear hcell hy y1
      obtain ⟨q, hq⟩ : ∃ q, Op.bytesLess y.nm.toList nm.toList = q := ⟨_, rfl⟩
      have HQ := Lib.hid (show sLt y.nm nm = q by unfold sLt; exact hq)
      cases q
      · go_wp2_with fail
        have HK := Lib.hid (show atS l nm = k by rw [HP.out, HD.out, if_neg (by rw [HQ.out]; simp)]; omega)
        have hbB := bthen hb1 hbr
        have al := (Below.refl wr.heap.size wr).alloc (Nat.le_refl _) (.cells #[.string nm, .slice none 0 0] 165)
        have hfv : ∀ j, (wr.alloc (.cells #[.string nm, .slice none 0 0] 165)).frozen? ⟨wr.heap.size, j, none⟩ = false := fun j => World.frozen?_alloc_at (w := wr) _ _ wr.heap.size j rfl
        obtain ⟨W, hW⟩ : ∃ W, W = wr.alloc (.cells #[.string nm, .slice none 0 0] 165) := ⟨_, rfl⟩
        obtain ⟨g, hg⟩ : ∃ g, wr.heap.size = g := ⟨_, rfl⟩
        have BX := BoxL.new wr [.string nm, .slice none 0 0] 165
        rw [← hW] at al BX hfv ⊢
        simp only [hg] at BX hfv ⊢
        have AW := (hA.keep cstK hbB).keep cstK al
        have hgw : w.heap.size ≤ g := by have := hbB.size; omega
        have BW := (Ch.of_below (S := fun t => t ∈ fq) hbB).trans (Ch.of_below (S := fun t => t ∈ fq) al)
        obtain ⟨css, fps, rfl, own, hlQ, EQ⟩ := AW.ex
        clear hlQ
        have v0 := BX.cell 0 _ rfl
        have v1 := BX.cell 1 _ rfl
        have hgW := BX.lt
        have s0 := keep_cell al r0
        have sf : W.frozen? ⟨b, 0, none⟩ = false := (al.frozen (p := ⟨b, 0, none⟩) (cell_lt r0)).trans ((hbB.frozen (p := ⟨b, 0, none⟩) hbl).trans hfz)
        have hbW2 := cell_lt s0
        have hbA : b ∉ blkL _ := fun h => hbq (List.mem_append_left _ h)
        clear hW hg hA hR hR1 AW al r0 q0 hc0
        refine (insert_own_cst 0 g n c k _ css.flatten (.string nm) (.slice none 0 0) W own (Nat.zero_le _) (by omega) hk (fun q hq he => by have := hnq q (List.mem_append_left _ (mem_blkL.2 hq)); omega) hfv v0 v1 (EQ.ones cstK) rfl rfl).mono ?_
        rintro e w4 ⟨A', c', rfl, own4, hch4, hob4⟩
        obtain ⟨fp', R4, N4, F4, C4⟩ := row_ins1 (x := (⟨nm, []⟩ : Cst)) cstK hk HL.out EQ ⟨none, 0, 0, [], rfl, rfl, RowO.nil⟩ hN own4 hch4 hob4 (Nat.le_refl _)
        have t0 := C4.cell s0 hbA
        have tf : w4.frozen? ⟨b, 0, none⟩ = false := (World.frozen?_of_block (C4.block b hbW2 hbA)).trans sf
        go_wp2
        go_returns
        exact .inr (.inr ⟨rfl, by rw [T.out]; have := HT0.out; omega, H5.out, w4, A', c', fp', rfl, BW.trans (C4.mono (fun t ht => List.mem_append_left _ ht)), by unfold insS; rw [HK.out]; exact R4, N4, fun t ht => by rcases F4 t ht with h1 | h1; (exact .inl h1); (exact .inr (by omega))⟩)
      · go_wp2
        exact ⟨⟨k + 1, by omega, by go_num, by rw [HP.out, HD.out, if_pos HQ.out]; omega, hbr⟩, by simp [intOf]; omega⟩
    · go_wp2_with fail
      have HK := Lib.hid (show atS l nm = k by rw [HP.out, List.drop_eq_nil_of_le (by have := HL.out; omega)]; unfold atS; omega)
      have hbB := bthen hb1 hbr
      have al := (Below.refl wr.heap.size wr).alloc (Nat.le_refl _) (.cells #[.string nm, .slice none 0 0] 165)
      have hfv : ∀ j, (wr.alloc (.cells #[.string nm, .slice none 0 0] 165)).frozen? ⟨wr.heap.size, j, none⟩ = false := fun j => World.frozen?_alloc_at (w := wr) _ _ wr.heap.size j rfl
      obtain ⟨W, hW⟩ : ∃ W, W = wr.alloc (.cells #[.string nm, .slice none 0 0] 165) := ⟨_, rfl⟩
      obtain ⟨g, hg⟩ : ∃ g, wr.heap.size = g := ⟨_, rfl⟩
      have BX := BoxL.new wr [.string nm, .slice none 0 0] 165
      rw [← hW] at al BX hfv ⊢
      simp only [hg] at BX hfv ⊢
      have AW := (hA.keep cstK hbB).keep cstK al
      have hgw : w.heap.size ≤ g := by have := hbB.size; omega
      have BW := (Ch.of_below (S := fun t => t ∈ fq) hbB).trans (Ch.of_below (S := fun t => t ∈ fq) al)
      obtain ⟨css, fps, rfl, own, hlQ, EQ⟩ := AW.ex
      clear hlQ
      have v0 := BX.cell 0 _ rfl
      have v1 := BX.cell 1 _ rfl
      have hgW := BX.lt
      have s0 := keep_cell al r0
      have sf : W.frozen? ⟨b, 0, none⟩ = false := (al.frozen (p := ⟨b, 0, none⟩) (cell_lt r0)).trans ((hbB.frozen (p := ⟨b, 0, none⟩) hbl).trans hfz)
      have hbW2 := cell_lt s0
      have hbA : b ∉ blkL _ := fun h => hbq (List.mem_append_left _ h)
      clear hW hg hA hR hR1 AW al r0 q0 hc0
      refine (insert_own_cst 0 g n c k _ css.flatten (.string nm) (.slice none 0 0) W own (Nat.zero_le _) (by omega) hk (fun q hq he => by have := hnq q (List.mem_append_left _ (mem_blkL.2 hq)); omega) hfv v0 v1 (EQ.ones cstK) rfl rfl).mono ?_
      rintro e w4 ⟨A', c', rfl, own4, hch4, hob4⟩
      obtain ⟨fp', R4, N4, F4, C4⟩ := row_ins1 (x := (⟨nm, []⟩ : Cst)) cstK hk HL.out EQ ⟨none, 0, 0, [], rfl, rfl, RowO.nil⟩ hN own4 hch4 hob4 (Nat.le_refl _)
      have t0 := C4.cell s0 hbA
      have tf : w4.frozen? ⟨b, 0, none⟩ = false := (World.frozen?_of_block (C4.block b hbW2 hbA)).trans sf
      go_wp2
      go_returns
      exact .inr (.inr ⟨rfl, by rw [T.out]; have := HT0.out; omega, H5.out, w4, A', c', fp', rfl, BW.trans (C4.mono (fun t ht => List.mem_append_left _ ht)), by unfold insS; rw [HK.out]; exact R4, N4, fun t ht => by rcases F4 t ht with h1 | h1; (exact .inl h1); (exact .inr (by omega))⟩)
end Go.Proofs.YtdphdnllhmnelaaGreat
