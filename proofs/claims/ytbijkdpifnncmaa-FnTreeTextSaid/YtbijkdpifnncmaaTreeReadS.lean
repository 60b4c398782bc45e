/- Contract of the reference's TreeRead. -/
import Derived.Test.YtbijkdpifnncmaaReadT
import Derived.Test.YtbijkdpifnncmaaTreeRead
import Derived.Test.YtbijkdpifnncmaaDag
namespace Go.Proofs.Ytbijkdpifnncmaa
open Go.RowKit
theorem new1s (w : World) (e : TypeId) (u : Value) : CellsAt (w.alloc (.cells #[u] e)) (some ⟨w.heap.size, 0, none⟩) 1 1 [u] := by
  refine ⟨rfl, fun _ => ⟨w.heap.size, 0, rfl, fun j v hv => ?_⟩⟩
  rw [Nat.zero_add, World.cell?_alloc_new]
  simpa using hv
attribute [local irreducible] StrsAt EntsAt textF manyF cutF numF treeOkB treeText restL tkF vsF TT

theorem ents_new (w : World) {lo : Nat} (h : lo ≤ w.heap.size) : EntsIn lo (w.alloc (.cells #[] 33)).heap.size (w.alloc (.cells #[] 33)) (some ⟨w.heap.size, 0, none⟩) 0 0 [] :=
  ⟨[], ⟨RowIn.of_own (own_empty w _ _ h), SubsIn.nil, (fun _ h => by cases h), rfl⟩⟩

set_option maxRecDepth 4000 in
set_option maxHeartbeats 1000000 in
theorem treeRead_spec (s : ByteArray) (w : World) (hs : s.size ≤ 1048576) :
    Calls Try.prog 10 #[.string s] w fun e w' => (∃ A n c, e = .returned (.tuple #[.slice A n c, .bool (trB s)]) ∧ EntsIn w.heap.size w'.heap.size w' A n c (trL s)) ∧ Below w.heap.size w w' := by
  go_enter Try.func10, Try.ntmps10
  go_wp2
  go_loopw [4, 5] (fun o a wr => ∃ (l : List Ent) (b : Nat) (O : Option Addr) (cap : Nat) (css : List (List Value)), o = .slice O l.length cap ∧ a = .int .i64 b ∧ b ≤ s.size ∧ RowsIn FEnt 33 2 w.heap.size wr.heap.size wr O l.length cap l css ∧ JR s l (TT s b) ∧ entsSz l + (s.size - b) ≤ s.size + 5 * l.length ∧ l.length ≤ 12 ∧ Below w.heap.size w wr) (fun o _ _ => 13 - lenOf o)
  case atStart =>
    refine ⟨[], 0, some ⟨w.heap.size, 0, none⟩, 0, [], rfl, rfl, Nat.zero_le _, ⟨RowIn.of_own (own_empty w _ _ (Nat.le_refl _)), SubsIn.nil, (fun _ h => by cases h), rfl⟩, ?_, by simp [entsSz], by simp, (Below.refl _ _).alloc (Nat.le_refl _) _⟩
    have := JR_start s
    rw [show TT s 0 = (s, false) by unfold TT; simp]
    exact this
  case round =>
    obtain ⟨l, b, O, cap, css, rfl, rfl, hbs, hrow, hj, hcost, hlen, hb⟩ := hrel
    have HJ := Lib.hid hj; clear hj
    have hzr := hb.size
    by_cases hlt : b < s.size
    · have hli : (b : Int) < (s.size : Int) := by omega
      have hne : (TT s b).1 ≠ ByteArray.empty := fun h => by
        have h2 := congrArg ByteArray.size h
        unfold TT at h2
        simp only [ByteArray.size_extract] at h2
        have h4 : ByteArray.empty.size = 0 := rfl
        omega
      have hj2 := JR_step HJ.out hne (by unfold TT; simp only [ByteArray.size_extract]; omega)
      clear hne
      go_wp2_with fail
      refine (l4Take_spec s b _ (by omega) (by omega) (by omega)).mono ?_
      rintro e w1 ⟨rfl, hb1⟩
      have hz1 := hb1.size
      rcases tkT hbs with ⟨h1, h2⟩ | ⟨p, e1, h1, h2, h3, h4⟩
      · have HY := Lib.hid (tr_no (JI_bad hj2 (many_bad h2)))
        have HV := Lib.hid (vsF_no (s := s) (k := 0) (o := []) (at_ := -1) (.inl (by omega)))
        rw [h1]
        clear hj2 h1 h2
        go_wp2_with fail
        refine (l4Vars_spec s (-1) 1 _ (by omega) (by omega) (by omega) (by omega)).mono ?_
        rintro e w2 ⟨⟨A, c, rfl, hrow2⟩, hb2⟩
        rw [HV.out]
        clear hrow2
        go_wp2
        go_returns
        have hb3 := bthen (bthen hb hb1) hb2
        rw [HY.out.1, HY.out.2]
        exact ⟨⟨_, 0, 0, rfl, ents_new w2 hb3.size⟩, hb3.alloc hb3.size _⟩
      · have htc := textF_cost (TT s b)
        rw [h4] at hj2 htc
        simp only [TT_size] at htc
        rw [h1]
        clear h1 h4
        simp only at hj2 ⊢
        go_wp2_with fail
        refine (l4Vars_spec s e1 1 _ (by omega) (by omega) (by omega) (by omega)).mono ?_
        rintro e w2 ⟨⟨A, c, rfl, hrow2⟩, hb2⟩
        have hb3 := bthen (bthen hb hb1) hb2
        rcases manyT h3 with ⟨h5, h6⟩ | ⟨n, e2, h5, h6, h7, h8, h9⟩
        · have HY := Lib.hid (tr_no (JI_bad hj2 h6))
          rw [h5]
          clear hj2 h5 h6 hrow2
          go_wp2
          go_returns
          rw [HY.out.1, HY.out.2]
          exact ⟨⟨_, 0, 0, rfl, ents_new w2 hb3.size⟩, hb3.alloc hb3.size _⟩
        · rw [h5] at hrow2 ⊢
          obtain ⟨g, rfl, hc, hg, hg1⟩ := row_nat hrow2 rfl
          clear h5
          have e20 : ¬ ((e2 : Int) < 0) := by omega
          rcases h9 with ⟨h9, h10⟩ | ⟨h9, h10⟩
          · have HY := Lib.hid (tr_no (JI_bad hj2 h10))
            clear hj2 h10 hrow2
            have hni : (4 : Int) < (n : Int) := by omega
            go_wp2
            go_returns
            rw [HY.out.1, HY.out.2]
            exact ⟨⟨_, 0, 0, rfl, ents_new w2 hb3.size⟩, hb3.alloc hb3.size _⟩
          · rw [h10] at hj2
            clear h10
            simp only at hj2
            have hni : ¬ (4 : Int) < (n : Int) := by omega
            by_cases hsh : s.size < e2 + 8 * n
            · have HY := Lib.hid (tr_no (JI_short hj2 (by unfold TT; simp only [ByteArray.size_extract]; omega)))
              clear hj2 hrow2
              have hsi : (s.size : Int) < (e2 : Int) + 8 * (n : Int) := by omega
              go_wp2
              go_returns
              rw [HY.out.1, HY.out.2]
              exact ⟨⟨_, 0, 0, rfl, ents_new w2 hb3.size⟩, hb3.alloc hb3.size _⟩
            · have hsi : ¬ (s.size : Int) < (e2 : Int) + 8 * (n : Int) := by omega
              by_cases hfull : 12 ≤ l.length
              · have HY := Lib.hid (tr_no (JI_full hj2 hfull))
                clear hj2 hrow2
                have hfi : (12 : Int) ≤ (l.length : Int) := by omega
                go_wp2
                go_returns
                rw [HY.out.1, HY.out.2]
                exact ⟨⟨_, 0, 0, rfl, ents_new w2 hb3.size⟩, hb3.alloc hb3.size _⟩
              · have hfi : ¬ (12 : Int) ≤ (l.length : Int) := by omega
                have HJ2 := Lib.hid hj2
                clear hj2 hrow2 HJ
                have hz2 : w.heap.size ≤ w2.heap.size := hb3.size
                have hrow2 := ((hrow.keep elemEnt hb1).keep elemEnt hb2).wide elemEnt (Nat.le_refl _) (Nat.le_trans hz1 hb2.size)
                have hlo1 : ∀ b, BlkOf O b → b < w1.heap.size := fun b hb' => by have := (hrow.row.blk hb').1; unfold Iv at this; omega
                clear hrow
                go_wp2
                obtain ⟨W, hW⟩ : ∃ W, W = w2.alloc (.cells #[.string p, .slice none 0 0] 33) := ⟨_, rfl⟩
                have al : Below w2.heap.size w2 W := by rw [hW]; exact (Below.refl _ _).alloc (Nat.le_refl _) _
                have hzW : W.heap.size = w2.heap.size + 1 := by rw [hW]; simp
                have hbx : EBox W w2.heap.size p (.slice none 0 0) := by rw [hW]; exact ⟨by simp [go_sem], by simp [go_sem], by simp [go_sem]⟩
                rw [← hW]
                clear hW
                have hcW := (al.cell (p := ⟨g, 0, none⟩) hg).trans hc
                have hrowW := hrow2.keep elemEnt al
                have hbW : Below w.heap.size w W := bthen hb3 al
                clear hrow2 al hb3 hb2 hb1 hb hc
                generalize hh : w2.heap.size = h at *
                go_loopw [10] (fun i w3 => ∃ (cs : List ByteArray) (C : Option Addr) (cp : Nat), i = .int .i64 (cs.length : Nat) ∧ cs.length ≤ n ∧ EBox w3 h p (.slice C cs.length cp) ∧ StrsIn W.heap.size w3.heap.size w3 C cs.length cp cs ∧ JI s l p n cs (TT s (e2 + 8 * cs.length)) ∧ strsSz cs = 9 * cs.length ∧ Ch (fun k => k = h) W w3) (fun i _ => n - (intOf i).toNat)
                case atStart => exact ⟨[], none, 0, rfl, Nat.zero_le _, hbx, StrsIn.nil, HJ2.out, by simp [strsSz], Ch.refl _⟩
                case round =>
                  obtain ⟨cs, C, cp, rfl, hcl, hbx3, hst, hji, hco, hch⟩ := hrel
                  have HJI := Lib.hid hji; clear hji
                  have hz3 := hch.size
                  have hc3 := hch.cell hcW (show ¬ g = h by omega)
                  by_cases hlt : cs.length < n
                  · have hli : (cs.length : Int) < (n : Int) := by omega
                    have hj4 := JI_step HJI.out hlt
                    rw [cutT (by omega)] at hj4
                    have HJ4 := Lib.hid hj4; clear hj4
                    obtain ⟨a, ha⟩ : ∃ a, a = e2 + 8 * cs.length := ⟨_, rfl⟩
                    obtain ⟨d, hd⟩ : ∃ d, d = a + 8 := ⟨_, rfl⟩
                    obtain ⟨cc, hcc⟩ : ∃ cc, s.extract a d = cc := ⟨_, rfl⟩
                    have hc8 : cc.size = 8 := by rw [← hcc, ByteArray.size_extract]; omega
                    rw [← ha, ← hd, hcc, show d = e2 + 8 * (cs.length + 1) by omega] at HJ4
                    have HA := Lib.hid ha; clear ha
                    have HD := Lib.hid hd; clear hd
                    have hown4 := hst.row.own
                    have hhW : h < W.heap.size := by omega
                    go_wp2
                    -- DAG
                    refine wp_region_dag (by kernel_rfl) (by kernel_rfl) (fun D a' w' => ∃ v62 v63 v64 v65 v66 v67 v68 v69 v70 v71 v72 v73 v74 v75 v76 v77 : Value, a' = { tmps := List.toArray (Value.string s :: undef :: u2 :: u3 :: Value.slice O l.length cap :: Value.int IntKind.i64 (b : Int) :: Value.string p :: Value.int IntKind.i64 (e2 : Int) :: Value.slice (some { block := g, off := 0 }) 1 c :: Value.pointer (some { block := h, off := 0 }) :: Value.int IntKind.i64 (cs.length : Int) :: Value.slice (some { block := w.heap.size, off := 0 }) 0 0 :: Value.int IntKind.i64 (b : Int) :: Value.string s :: Value.int IntKind.i64 (s.size : Int) :: Value.bool true :: Value.tuple #[Value.string p, Value.int IntKind.i64 (e1 : Int)] :: Value.string s :: Value.int IntKind.i64 (b : Int) :: Value.tuple #[Value.string p, Value.int IntKind.i64 (e1 : Int)] :: Value.string p :: Value.int IntKind.i64 (e1 : Int) :: Value.tuple #[Value.slice (some { block := g, off := 0 }) 1 c, Value.int IntKind.i64 (e2 : Int)] :: Value.string s :: Value.int IntKind.i64 (e1 : Int) :: Value.tuple #[Value.slice (some { block := g, off := 0 }) 1 c, Value.int IntKind.i64 (e2 : Int)] :: Value.slice (some { block := g, off := 0 }) 1 c :: Value.int IntKind.i64 (e2 : Int) :: Value.int IntKind.i64 (e2 : Int) :: Value.bool (decide ((e2 : Int) < 0)) :: Value.bool (decide ((e2 : Int) < 0)) :: Value.slice (some { block := g, off := 0 }) 1 c :: Value.pointer (some { block := g, off := 0 }) :: Value.int IntKind.i64 (n : Int) :: Value.bool (decide (4 < (n : Int))) :: Value.bool (decide ((e2 : Int) < 0) || decide (4 < (n : Int))) :: Value.bool (decide ((e2 : Int) < 0) || decide (4 < (n : Int))) :: Value.int IntKind.i64 (e2 : Int) :: Value.slice (some { block := g, off := 0 }) 1 c :: Value.pointer (some { block := g, off := 0 }) :: Value.int IntKind.i64 (n : Int) :: Value.int IntKind.i64 (8 * (n : Int)) :: Value.int IntKind.i64 ((e2 : Int) + 8 * (n : Int)) :: Value.string s :: Value.int IntKind.i64 (s.size : Int) :: Value.bool (decide ((s.size : Int) < (e2 : Int) + 8 * (n : Int))) :: Value.bool (decide ((e2 : Int) < 0) || decide (4 < (n : Int)) || decide ((s.size : Int) < (e2 : Int) + 8 * (n : Int))) :: Value.bool (decide ((e2 : Int) < 0) || decide (4 < (n : Int)) || decide ((s.size : Int) < (e2 : Int) + 8 * (n : Int))) :: Value.slice O l.length cap :: Value.int IntKind.i64 (l.length : Int) :: Value.bool (decide (12 ≤ (l.length : Int))) :: Value.bool (decide ((e2 : Int) < 0) || decide (4 < (n : Int)) || decide ((s.size : Int) < (e2 : Int) + 8 * (n : Int)) || decide (12 ≤ (l.length : Int))) :: u52 :: Value.string p :: Value.agg #[Value.string p, Value.slice none 0 0] :: Value.int IntKind.i64 (cs.length : Int) :: Value.slice (some { block := g, off := 0 }) 1 c :: Value.pointer (some { block := g, off := 0 }) :: Value.int IntKind.i64 (n : Int) :: Value.bool true :: u60 :: u61 :: v62 :: v63 :: v64 :: v65 :: v66 :: v67 :: v68 :: v69 :: v70 :: v71 :: v72 :: v73 :: v74 :: v75 :: v76 :: v77 :: u78 :: u79 :: u80 :: u81 :: u82 :: u83 :: u84 :: u85 :: u86 :: u87 :: undef :: undef :: undef :: undef :: undef :: undef :: []), defers := [] } ∧ (D 16 = false → Below W.heap.size wr w') ∧ (D 14 = false → w'.ownsRow W.heap.size 9 1 (.slice C cs.length cp) cs.length (cs.map Value.string)) ∧ (D 16 = true → D 1 = true) ∧ (D 14 = true → D 13 = true) ∧ (D 16 = true → D 14 = true) ∧ (D 0 = true → v62 = .pointer (some ⟨h, 1, none⟩)) ∧ (D 1 = true → v63 = .slice C cs.length cp) ∧ (D 2 = true → v64 = .string s) ∧ (D 3 = true → v65 = .int .i64 ((e2 : Nat))) ∧ (D 4 = true → v66 = .int .i64 ((cs.length : Nat))) ∧ (D 5 = true → v67 = .int .i64 (8 * (cs.length : Int))) ∧ (D 6 = true → v68 = .int .i64 (a : Nat)) ∧ (D 7 = true → v69 = .int .i64 ((e2 : Nat))) ∧ (D 8 = true → v70 = .int .i64 ((cs.length : Nat))) ∧ (D 9 = true → v71 = .int .i64 (8 * (cs.length : Int))) ∧ (D 10 = true → v72 = .int .i64 (a : Nat)) ∧ (D 11 = true → v73 = .int .i64 (d : Nat)) ∧ (D 12 = true → v74 = .string cc) ∧ (D 13 = true → (D 14 = false → ∃ gb, v75 = .slice (some ⟨gb, 0, none⟩) 1 1 ∧ CellsAt w' (some ⟨gb, 0, none⟩) 1 1 [Value.string cc])) ∧ (D 14 = true → (D 16 = false → ∃ A6 c6, v76 = .slice A6 (cs.length + 1) c6 ∧ w'.ownsRow W.heap.size 9 1 (.slice A6 (cs.length + 1) c6) (cs.length + 1) (cs.map Value.string ++ [Value.string cc]))) ∧ (D 15 = true → v77 = .pointer (some ⟨h, 1, none⟩)) ∧ (D 16 = true → (∃ w5 A6 c6, w' = w5.setCell ⟨h, 1, none⟩ (.slice A6 (cs.length + 1) c6) ∧ w5.ownsRow W.heap.size 9 1 (.slice A6 (cs.length + 1) c6) (cs.length + 1) (cs.map Value.string ++ [Value.string cc]) ∧ Below W.heap.size wr w5)))
                      ⟨u62, u63, u64, u65, u66, u67, u68, u69, u70, u71, u72, u73, u74, u75, u76, u77, rfl, (fun _ => (Below.refl _ _).drew), (fun _ => hown4), (fun h => by cases h), (fun h => by cases h), (fun h => by cases h), (fun h => by cases h), (fun h => by cases h), (fun h => by cases h), (fun h => by cases h), (fun h => by cases h), (fun h => by cases h), (fun h => by cases h), (fun h => by cases h), (fun h => by cases h), (fun h => by cases h), (fun h => by cases h), (fun h => by cases h), (fun h => by cases h), (fun h => by cases h), (fun h => by cases h), (fun h => by cases h), (fun h => by cases h)⟩ ?_ ?_
                    · intro i D a' w' hi hD hdep hI
                      have hi' : i < 17 := hi
                      obtain ⟨v62, v63, v64, v65, v66, v67, v68, v69, v70, v71, v72, v73, v74, v75, v76, v77, rfl, hb4, own, kz1, kz13, kz14, k0, k1, k2, k3, k4, k5, k6, k7, k8, k9, k10, k11, k12, k13, k14, k15, k16⟩ := hI
                      rcases (show i = 0 ∨ i = 1 ∨ i = 2 ∨ i = 3 ∨ i = 4 ∨ i = 5 ∨ i = 6 ∨ i = 7 ∨ i = 8 ∨ i = 9 ∨ i = 10 ∨ i = 11 ∨ i = 12 ∨ i = 13 ∨ i = 14 ∨ i = 15 ∨ i = 16 by omega) with rfl | rfl | rfl | rfl | rfl | rfl | rfl | rfl | rfl | rfl | rfl | rfl | rfl | rfl | rfl | rfl | rfl
                      · refine wpOp_step (by simp only [List.getElem?_toArray, List.getElem?_cons_zero]; rfl) (fun K hK => ?_)
                        go_simp
                        exact hK _ _ ⟨_, v63, v64, v65, v66, v67, v68, v69, v70, v71, v72, v73, v74, v75, v76, v77, rfl, hb4, own, kz1, kz13, kz14, (fun _ => rfl), k1, k2, k3, k4, k5, k6, k7, k8, k9, k10, k11, k12, k13, k14, k15, k16⟩
                      · have e0 := k0 (hdep 0 (by kernel_rfl))
                        subst e0
                        have d16 : D 16 = false := Bool.eq_false_iff.2 (fun h => by rw [kz1 h] at hD; cases hD)
                        have q1 := (hbx3.below (hb4 d16) hhW).c1
                        refine wpOp_step (by simp only [List.getElem?_toArray, List.getElem?_cons_succ, List.getElem?_cons_zero]; rfl) (fun K hK => ?_)
                        go_simp
                        exact hK _ _ ⟨_, _, v64, v65, v66, v67, v68, v69, v70, v71, v72, v73, v74, v75, v76, v77, rfl, hb4, own, (fun _ => rfl), kz13, kz14, (fun _ => rfl), (fun _ => rfl), k2, k3, k4, k5, k6, k7, k8, k9, k10, k11, k12, k13, k14, k15, k16⟩
                      · refine wpOp_step (by simp only [List.getElem?_toArray, List.getElem?_cons_succ, List.getElem?_cons_zero]; rfl) (fun K hK => ?_)
                        go_simp
                        exact hK _ _ ⟨v62, v63, _, v65, v66, v67, v68, v69, v70, v71, v72, v73, v74, v75, v76, v77, rfl, hb4, own, kz1, kz13, kz14, k0, k1, (fun _ => rfl), k3, k4, k5, k6, k7, k8, k9, k10, k11, k12, k13, k14, k15, k16⟩
                      · refine wpOp_step (by simp only [List.getElem?_toArray, List.getElem?_cons_succ, List.getElem?_cons_zero]; rfl) (fun K hK => ?_)
                        go_simp
                        exact hK _ _ ⟨v62, v63, v64, _, v66, v67, v68, v69, v70, v71, v72, v73, v74, v75, v76, v77, rfl, hb4, own, kz1, kz13, kz14, k0, k1, k2, (fun _ => rfl), k4, k5, k6, k7, k8, k9, k10, k11, k12, k13, k14, k15, k16⟩
                      · refine wpOp_step (by simp only [List.getElem?_toArray, List.getElem?_cons_succ, List.getElem?_cons_zero]; rfl) (fun K hK => ?_)
                        go_simp
                        exact hK _ _ ⟨v62, v63, v64, v65, _, v67, v68, v69, v70, v71, v72, v73, v74, v75, v76, v77, rfl, hb4, own, kz1, kz13, kz14, k0, k1, k2, k3, (fun _ => rfl), k5, k6, k7, k8, k9, k10, k11, k12, k13, k14, k15, k16⟩
                      · have e4 := k4 (hdep 4 (by kernel_rfl))
                        subst e4
                        refine wpOp_step (by simp only [List.getElem?_toArray, List.getElem?_cons_succ, List.getElem?_cons_zero]; rfl) (fun K hK => ?_)
                        go_simp
                        exact hK _ _ ⟨v62, v63, v64, v65, _, _, v68, v69, v70, v71, v72, v73, v74, v75, v76, v77, rfl, hb4, own, kz1, kz13, kz14, k0, k1, k2, k3, (fun _ => rfl), (fun _ => congrArg (Value.int .i64) (by have := HA.out; have := HD.out; rw [IntKind.wrap_i64]; omega)), k6, k7, k8, k9, k10, k11, k12, k13, k14, k15, k16⟩
                      · have e3 := k3 (hdep 3 (by kernel_rfl))
                        subst e3
                        have e5 := k5 (hdep 5 (by kernel_rfl))
                        subst e5
                        refine wpOp_step (by simp only [List.getElem?_toArray, List.getElem?_cons_succ, List.getElem?_cons_zero]; rfl) (fun K hK => ?_)
                        go_simp
                        exact hK _ _ ⟨v62, v63, v64, _, v66, _, _, v69, v70, v71, v72, v73, v74, v75, v76, v77, rfl, hb4, own, kz1, kz13, kz14, k0, k1, k2, (fun _ => rfl), k4, (fun _ => rfl), (fun _ => congrArg (Value.int .i64) (by have := HA.out; have := HD.out; rw [IntKind.wrap_i64]; omega)), k7, k8, k9, k10, k11, k12, k13, k14, k15, k16⟩
                      · refine wpOp_step (by simp only [List.getElem?_toArray, List.getElem?_cons_succ, List.getElem?_cons_zero]; rfl) (fun K hK => ?_)
                        go_simp
                        exact hK _ _ ⟨v62, v63, v64, v65, v66, v67, v68, _, v70, v71, v72, v73, v74, v75, v76, v77, rfl, hb4, own, kz1, kz13, kz14, k0, k1, k2, k3, k4, k5, k6, (fun _ => rfl), k8, k9, k10, k11, k12, k13, k14, k15, k16⟩
                      · refine wpOp_step (by simp only [List.getElem?_toArray, List.getElem?_cons_succ, List.getElem?_cons_zero]; rfl) (fun K hK => ?_)
                        go_simp
                        exact hK _ _ ⟨v62, v63, v64, v65, v66, v67, v68, v69, _, v71, v72, v73, v74, v75, v76, v77, rfl, hb4, own, kz1, kz13, kz14, k0, k1, k2, k3, k4, k5, k6, k7, (fun _ => rfl), k9, k10, k11, k12, k13, k14, k15, k16⟩
                      · have e8 := k8 (hdep 8 (by kernel_rfl))
                        subst e8
                        refine wpOp_step (by simp only [List.getElem?_toArray, List.getElem?_cons_succ, List.getElem?_cons_zero]; rfl) (fun K hK => ?_)
                        go_simp
                        exact hK _ _ ⟨v62, v63, v64, v65, v66, v67, v68, v69, _, _, v72, v73, v74, v75, v76, v77, rfl, hb4, own, kz1, kz13, kz14, k0, k1, k2, k3, k4, k5, k6, k7, (fun _ => rfl), (fun _ => congrArg (Value.int .i64) (by have := HA.out; have := HD.out; rw [IntKind.wrap_i64]; omega)), k10, k11, k12, k13, k14, k15, k16⟩
                      · have e7 := k7 (hdep 7 (by kernel_rfl))
                        subst e7
                        have e9 := k9 (hdep 9 (by kernel_rfl))
                        subst e9
                        refine wpOp_step (by simp only [List.getElem?_toArray, List.getElem?_cons_succ, List.getElem?_cons_zero]; rfl) (fun K hK => ?_)
                        go_simp
                        exact hK _ _ ⟨v62, v63, v64, v65, v66, v67, v68, _, v70, _, _, v73, v74, v75, v76, v77, rfl, hb4, own, kz1, kz13, kz14, k0, k1, k2, k3, k4, k5, k6, (fun _ => rfl), k8, (fun _ => rfl), (fun _ => congrArg (Value.int .i64) (by have := HA.out; have := HD.out; rw [IntKind.wrap_i64]; omega)), k11, k12, k13, k14, k15, k16⟩
                      · have e10 := k10 (hdep 10 (by kernel_rfl))
                        subst e10
                        refine wpOp_step (by simp only [List.getElem?_toArray, List.getElem?_cons_succ, List.getElem?_cons_zero]; rfl) (fun K hK => ?_)
                        go_simp
                        exact hK _ _ ⟨v62, v63, v64, v65, v66, v67, v68, v69, v70, v71, _, _, v74, v75, v76, v77, rfl, hb4, own, kz1, kz13, kz14, k0, k1, k2, k3, k4, k5, k6, k7, k8, k9, (fun _ => rfl), (fun _ => congrArg (Value.int .i64) (by have := HA.out; have := HD.out; rw [IntKind.wrap_i64]; omega)), k12, k13, k14, k15, k16⟩
                      · have e2 := k2 (hdep 2 (by kernel_rfl))
                        subst e2
                        have e6 := k6 (hdep 6 (by kernel_rfl))
                        subst e6
                        have e11 := k11 (hdep 11 (by kernel_rfl))
                        subst e11
                        have q1 : (d : Int) ≤ (s.size : Int) := by have := HA.out; have := HD.out; omega
                        have q2 : d ≤ s.size := by omega
                        have q3 : a ≤ d := by have := HD.out; omega
                        have q4 : (a : Int) ≤ (d : Int) := by omega
                        refine wpOp_step (by simp only [List.getElem?_toArray, List.getElem?_cons_succ, List.getElem?_cons_zero]; rfl) (fun K hK => ?_)
                        go_simp
                        exact hK _ _ ⟨v62, v63, _, v65, v66, v67, _, v69, v70, v71, v72, _, _, v75, v76, v77, rfl, hb4, own, kz1, kz13, kz14, k0, k1, (fun _ => rfl), k3, k4, k5, (fun _ => rfl), k7, k8, k9, k10, (fun _ => rfl), (fun _ => rfl), k13, k14, k15, k16⟩
                      · have e12 := k12 (hdep 12 (by kernel_rfl))
                        subst e12
                        refine wpOp_step (by simp only [List.getElem?_toArray, List.getElem?_cons_succ, List.getElem?_cons_zero]; rfl) (fun K hK => ?_)
                        go_simp
                        exact hK _ _ ⟨v62, v63, v64, v65, v66, v67, v68, v69, v70, v71, v72, v73, _, _, v76, v77, rfl, (fun h => (hb4 h).alloc (Nat.le_trans hz3 (hb4 h).size) _), (fun h => (own h).alloc _), kz1, (fun _ => rfl), kz14, k0, k1, k2, k3, k4, k5, k6, k7, k8, k9, k10, k11, (fun _ => rfl), (fun _ _ => ⟨_, rfl, new1s _ _ _⟩), (fun h => absurd (kz13 h) (by rw [hD]; simp)), k15, (fun h => absurd (kz13 (kz14 h)) (by rw [hD]; simp))⟩
                      · have e1 := k1 (hdep 1 (by kernel_rfl))
                        subst e1
                        obtain ⟨gb, rfl, hsrc⟩ := k13 (hdep 13 (by kernel_rfl)) hD
                        have d16 : D 16 = false := Bool.eq_false_iff.2 (fun h => by rw [kz14 h] at hD; cases hD)
                        refine wpOp_step (by simp only [List.getElem?_toArray, List.getElem?_cons_succ, List.getElem?_cons_zero]; rfl) (fun K hK => ?_)
                        refine step_app (P := Try.prog) rfl (.tmp 63) (.tmp 75) 31 rfl W.heap.size 9 _ 1 16 Try.underlying31 infoString rfl (by omega) (.slice C cs.length cp) cs.length _ rfl (own hD) (some ⟨gb, 0, none⟩) 1 1 _ rfl hsrc (by simp [Value.oneCell']) (fun h => by cases h) (by unfold maxLen; omega) (by omega) (Nat.le_trans hz3 (hb4 d16).size) ?_
                        intro A6 c6 w5 hown6 hg6 hb6 _
                        exact hK _ _ ⟨v62, _, v64, v65, v66, v67, v68, v69, v70, v71, v72, v73, v74, _, _, v77, rfl, (fun h => (hb4 h).trans hb6), (fun h => by cases h), kz1, (fun _ => hdep 13 (by kernel_rfl)), (fun _ => rfl), k0, (fun _ => rfl), k2, k3, k4, k5, k6, k7, k8, k9, k10, k11, k12, (fun _ h => by cases h), (fun _ _ => ⟨_, _, rfl, hown6⟩), k15, (fun h => absurd (kz14 h) (by rw [hD]; simp))⟩
                      · refine wpOp_step (by simp only [List.getElem?_toArray, List.getElem?_cons_succ, List.getElem?_cons_zero]; rfl) (fun K hK => ?_)
                        go_simp
                        exact hK _ _ ⟨v62, v63, v64, v65, v66, v67, v68, v69, v70, v71, v72, v73, v74, v75, v76, _, rfl, hb4, own, kz1, kz13, kz14, k0, k1, k2, k3, k4, k5, k6, k7, k8, k9, k10, k11, k12, k13, k14, (fun _ => rfl), k16⟩
                      · have e15 := k15 (hdep 15 (by kernel_rfl))
                        subst e15
                        obtain ⟨A6, c6, rfl, hown6⟩ := k14 (hdep 14 (by kernel_rfl)) hD
                        have hbb := hb4 hD
                        have q1 := (hbx3.below hbb hhW).c1
                        have q2 := (hbx3.below hbb hhW).f1
                        refine wpOp_step (by simp only [List.getElem?_toArray, List.getElem?_cons_succ, List.getElem?_cons_zero]; rfl) (fun K hK => ?_)
                        go_simp
                        exact hK _ _ ⟨v62, v63, v64, v65, v66, v67, v68, v69, v70, v71, v72, v73, v74, v75, _, _, rfl, (fun h => by cases h), (fun h => absurd (hdep 14 (by kernel_rfl)) (by have h' : D 14 = false := h; rw [h']; simp)), (fun _ => hdep 1 (by kernel_rfl)), kz13, (fun _ => hdep 14 (by kernel_rfl)), k0, k1, k2, k3, k4, k5, k6, k7, k8, k9, k10, k11, k12, (fun _ h => absurd (hdep 14 (by kernel_rfl)) (by have h' : D 14 = false := h; rw [h']; simp)), (fun _ h => by cases h), (fun _ => rfl), (fun _ => ⟨_, _, _, rfl, hown6, hbb⟩)⟩
                    · intro D a' w' hD hI
                      obtain ⟨v62, v63, v64, v65, v66, v67, v68, v69, v70, v71, v72, v73, v74, v75, v76, v77, rfl, hb4, own, kz1, kz13, kz14, k0, k1, k2, k3, k4, k5, k6, k7, k8, k9, k10, k11, k12, k13, k14, k15, k16⟩ := hI
                      obtain ⟨w5, A6, c6, rfl, hown6, hb5⟩ := k16 (hD 16 (show 16 < 17 by decide))
                      clear k0 k1 k2 k3 k4 k5 k6 k7 k8 k9 k10 k11 k12 k13 k14 k15 k16 hD hb4 own kz1 kz13 kz14
                      go_wp2
                      have hz5 := hb5.size
                      have hbx5 := hbx3.below hb5 hhW
                      refine ⟨⟨cs ++ [cc], A6, c6, by simp, by rw [List.length_append]; simp; omega, ?_, ?_, ?_, ?_, ?_⟩, by simp [intOf]; omega⟩
                      · rw [List.length_append]; exact hbx5.set1
                      · rw [List.length_append]
                        have h6 : StrsIn W.heap.size w5.heap.size w5 A6 (cs.length + 1) c6 (cs ++ [cc]) := StrsIn.of_own (by rw [List.map_append]; exact hown6)
                        simpa using h6.ch (scn_one (g := h) (o := 1) (v := .slice A6 (cs.length + 1) c6)) (fun k hk => by unfold Iv at hk; omega)
                      · have := HJ4.out
                        rw [List.length_append]
                        exact this
                      · rw [strsSz_snoc, List.length_append]; simp only [List.length_cons, List.length_nil]; omega
                      · exact (ch_thenB hch hb5).setCell (p := ⟨h, 1, none⟩) rfl _
                    -- DAG END
                  · have hne : n = cs.length := by omega
                    subst hne
                    have hni : ¬ (cs.length : Int) < (cs.length : Int) := by omega
                    have hjr := JI_end HJI.out rfl
                    have HJR := Lib.hid hjr; clear hjr
                    have hrow3 := (hrowW.ch elemEnt hch (fun k hk => by unfold Iv at hk; omega)).wide elemEnt (Nat.le_refl _) (show h ≤ wr.heap.size by omega)
                    have hown3 := hrow3.row.own
                    have e0 := hbx3.c0
                    have e1' := hbx3.c1
                    have hlo : ∀ b, BlkOf O b → b < h := fun b hb' => by have := (hrowW.row.blk hb').1; unfold Iv at this; omega
                    have hzb : w.heap.size ≤ wr.heap.size := by omega
                    have hgb : g < h := hg
                    go_wp2_with (at_builtin; refine wpList_app1g (P := Try.prog) wr rfl (.tmp 78) (.tmp 80) 24 rfl w.heap.size 33 _ 2 40 Try.underlying24 infoEntry rfl (by omega) (.slice O l.length cap) _ _ rfl hown3 #[.string p, .slice C cs.length cp] _ rfl (by simp) rfl (by simp [Value.oneCell']) (by unfold maxLen; omega) (by omega) hzb ?_; intro A' c' w5 hown5 hg5 hb5 hob5; have hc5 : w5.cell? ⟨g, 0, none⟩ = some (.int .i64 (cs.length : Nat)) := (Ch.of_grow hg5).cell hc3 (fun e => by have := hlo1 g (blk_of e); omega))
                    have happ := hrow3.app elemEnt (cs := [.string p, .slice C cs.length cp]) (x := ⟨p, cs⟩) ⟨C, cs.length, cp, rfl, hst.wide (by omega) (Nat.le_refl _)⟩ (fun cs' h' b h1 h2 => by
                      have q1 := (hrowW.subs.leads elemEnt h' h1).1
                      have q2 := (hst.row.blk (blk_of (leads2 h2))).1
                      unfold Iv at q1 q2; omega) (fun b h1 h2 => by
                      have q1 := hlo b h2
                      have q2 := (hst.row.blk (blk_of (leads2 h1))).1
                      unfold Iv at q2; omega) hown5 hg5 hob5 (Nat.le_succ _)
                    refine ⟨⟨l ++ [⟨p, cs⟩], e2 + 8 * cs.length, A', c', css ++ [[.string p, .slice C cs.length cp]], by simp, by go_num, by omega, by rw [List.length_append]; exact happ, HJR.out, ?_, by rw [List.length_append]; simp only [List.length_cons, List.length_nil]; omega, ?_⟩, by simp only [lenOf]; omega⟩
                    · rw [entsSz_snoc, List.length_append]
                      have e2' : entSz ⟨p, cs⟩ = p.size + strsSz cs := rfl
                      rw [e2']
                      simp only [List.length_cons, List.length_nil]
                      omega
                    · exact (hbW.trans (hch.below (B := w.heap.size) (fun k hk => by omega) (by omega))).trans hb5
    · have hli : ¬ (b : Int) < (s.size : Int) := by omega
      have hst : (TT s b).1 = ByteArray.empty := by
        unfold TT
        apply ByteArray.ext
        simp only [ByteArray.data_extract]
        have h2 : s.size = s.data.size := rfl
        rw [show b = s.data.size by omega, show s.size = s.data.size from rfl]
        simp
      have HE := Lib.hid (JR_end HJ.out (.inl hst))
      have hat := (EntsIn.mk ⟨css, hrow⟩ : EntsIn _ _ _ _ _ _ _).at_
      have hes : entsSz l ≤ 1048704 := by omega
      by_cases htx : treeText l = s
      · have hok : treeOkB l = true := by
          cases hk : treeOkB l
          · have he : s = ByteArray.empty := htx.symm.trans (treeText_no hk)
            have := (HE.out [] tree_empty.1 (tree_empty.2.trans he.symm)).1
            rw [this, tree_empty.1] at hk
            cases hk
          · rfl
        have HY := Lib.hid (tr_yes hok htx (fun l0 h1 h2 => (HE.out l0 h1 h2).1))
        have g1 : ((treeText l).toList == s.toList) = true := by rw [htx]; simp
        clear htx hok
        go_wp2_with (go_at_call 11; refine (treeText_spec2 _ _ _ _ _ hat hes).mono ?_; rintro e w1 ⟨rfl, hb1⟩)
        go_returns
        rw [HY.out.1, HY.out.2]
        exact ⟨⟨O, _, cap, rfl, ⟨css, (hrow.keep elemEnt hb1).wide elemEnt (Nat.le_refl _) hb1.size⟩⟩, bthen hb hb1⟩
      · have HY := Lib.hid (tr_no (s := s) (fun l0 h1 h2 => htx (by rw [(HE.out l0 h1 h2).1]; exact h2)))
        have g1 : ((treeText l).toList == s.toList) = false := by rw [str_beq]; simpa using htx
        clear htx
        go_wp2_with (go_at_call 11; refine (treeText_spec2 _ _ _ _ _ hat hes).mono ?_; rintro e w1 ⟨rfl, hb1⟩)
        go_returns
        have hb3 := bthen hb hb1
        rw [HY.out.1, HY.out.2]
        exact ⟨⟨_, 0, 0, rfl, ents_new w1 hb3.size⟩, hb3.alloc hb3.size _⟩
theorem treeRead_spec1 (s : ByteArray) (w : World) (hs : s.size ≤ 1048576) :
    Calls Try.prog 10 #[.string s] w fun e w' => ∃ A n c, e = .returned (.tuple #[.slice A n c, .bool (trB s)]) ∧ EntsIn w.heap.size w'.heap.size w' A n c (trL s) ∧ Below w.heap.size w w' :=
  (treeRead_spec s w hs).mono fun _ _ ⟨⟨A, n, c, h1, h2⟩, h3⟩ => ⟨A, n, c, h1, h2, h3⟩
end Go.Proofs.Ytbijkdpifnncmaa
