/- Contracts and lemmas: ReadInstS. -/
import Derived.Test.YtdphdnllhmnelaaJ15
import Derived.Test.YtdphdnllhmnelaaJ13
import Derived.Test.YtdphdnllhmnelaaJ12
import Derived.Test.YtdphdnllhmnelaaJ8
/- Contract of the reference's ReadInst. -/
namespace Go.Proofs.Ytdphdnllhmnelaa
open Go.RowKit
theorem zOne16 : (#[.int .i64 0, .int .i64 0, .int .i64 0, .int .i64 0, .int .i64 0, .int .i64 0, .int .i64 0, .int .i64 0, .string ⟨#[]⟩, .string ⟨#[]⟩, .string ⟨#[]⟩, .int .i64 0, .slice none 0 0, .int .i64 0, .slice none 0 0, .bool false] : Array Value).all (·.oneCell') = true := all_oneCell_toArray (cs := [.int .i64 0, .int .i64 0, .int .i64 0, .int .i64 0, .int .i64 0, .int .i64 0, .int .i64 0, .int .i64 0, .string ⟨#[]⟩, .string ⟨#[]⟩, .string ⟨#[]⟩, .int .i64 0, .slice none 0 0, .int .i64 0, .slice none 0 0, .bool false]) (by simp [Value.oneCell'])
theorem loadInst {ops : Array Oper} {rest : List Oper} {op : Oper} {a : Act} {w : World} {Q : Exit → Act → World → Prop} (hgd : op.guard = none) (x : Operand) (ho : op.op = .load 50 x) (b : Nat) (hx : a.eval x = .pointer (some ⟨b, 0, none⟩)) (cs : List Value) (hl : cs.length = 16) (hc : w.rangeAt b 0 cs)
    (h : wpList Try.prog ops Q rest (a.put op.dst (.agg cs.toArray)) w) : wpList Try.prog ops Q (op :: rest) a w :=
  wpList_load_mid hgd _ x ho b 0 hx cs _ hc Try.underlying50 rfl (by rw [hl]; exact sizeInst) h
attribute [local irreducible] StrsAt StrR StrO RowR RowO varS insOkB insText vsF tkF rdCm rdCmB rdIn rdInB
set_option maxRecDepth 8000 in
set_option maxHeartbeats 40000000 in
theorem readInst_spec (s : ByteArray) (w : World) (hs : s.size ≤ 1048576) :
    Calls Try.prog 28 #[.string s] w fun e w' => (∃ A1 n1 c1 A2 n2 c2 f1 f2, e = .returned (.tuple #[insV (rdIn s) (.slice A1 n1 c1) (.slice A2 n2 c2), .bool (rdInB s)]) ∧ StrO f1 w' A1 n1 c1 (rdIn s).cmd.ch ∧ RowO iddF 46 2 f2 w' A2 n2 c2 (rdIn s).deps ∧ (f1 ++ f2).Nodup ∧ ∀ b ∈ f1 ++ f2, w.heap.size ≤ b ∧ b < w'.heap.size) ∧ Below w.heap.size w w' := by
  have hB1 : s.size ≤ 16777216 := by omega
  go_enter Try.func28, Try.ntmps28
  go_wp2_with fail
  have al := (Below.refl w.heap.size w).alloc (Nat.le_refl _) (.cells #[.int .i64 0, .int .i64 0, .int .i64 0, .int .i64 0, .int .i64 0, .int .i64 0, .int .i64 0, .int .i64 0, .string ⟨#[]⟩, .string ⟨#[]⟩, .string ⟨#[]⟩, .int .i64 0, .slice none 0 0, .int .i64 0, .slice none 0 0, .bool false] 50)
  obtain ⟨W0, hW0⟩ : ∃ W, W = w.alloc (.cells #[.int .i64 0, .int .i64 0, .int .i64 0, .int .i64 0, .int .i64 0, .int .i64 0, .int .i64 0, .int .i64 0, .string ⟨#[]⟩, .string ⟨#[]⟩, .string ⟨#[]⟩, .int .i64 0, .slice none 0 0, .int .i64 0, .slice none 0 0, .bool false] 50) := ⟨_, rfl⟩
  have R : BoxL W0 w.heap.size [.int .i64 0, .int .i64 0, .int .i64 0, .int .i64 0, .int .i64 0, .int .i64 0, .int .i64 0, .int .i64 0, .string ⟨#[]⟩, .string ⟨#[]⟩, .string ⟨#[]⟩, .int .i64 0, .slice none 0 0, .int .i64 0, .slice none 0 0, .bool false] := by rw [hW0]; exact BoxL.new w _ _
  rw [← hW0] at al ⊢
  have B := al
  clear al hW0
  have hin := vsF_in s 6 [] 0 (by omega) (by omega) (fun _ h => by cases h)
  have hln := vsF_len s 6 [] 0
  refine (l4Vars_spec s 0 6 _ hB1 (by omega) (by omega) (by omega)).mono ?_
  rintro e w1 ⟨⟨A1, kp1, rfl, row1⟩, hb1⟩
  have R' := R.keep hb1; clear R; have R := R'; clear R'
  have B' := bthen B hb1; clear B; have B := B'; clear B'
  obtain ⟨⟨L1, p1⟩, f1⟩ : ∃ r, vsF s 6 ([], 0) = r := ⟨_, rfl⟩
  rw [f1] at row1 hin hln ⊢
  simp only at row1 hin hln
  have NO : (∀ x, insOkB x = true → insText x = s → False) → Hid (rdIn s = insNil ∧ rdInB s = false) := fun h => Lib.hid (rdIn_no h)
  by_cases hneg : p1 < 0 ∨ (s.size : Int) ≤ p1
  · have HN := NO (fun x h1 h2 => by
      obtain ⟨g6, _, _, q1, q2, _⟩ := ins_parseS h1 h2
      rw [f1] at q1; simp only [Prod.mk.injEq] at q1; omega)
    clear NO f1 row1 hin hln
    by_cases hn1 : p1 < 0
    · clear hneg
      have hRt := R.there (n := 16) rfl
      obtain ⟨WF, hWF⟩ : ∃ W, W = w1.setCells w.heap.size 0 (#[.int .i64 0, .int .i64 0, .int .i64 0, .int .i64 0, .int .i64 0, .int .i64 0, .int .i64 0, .int .i64 0, .string ⟨#[]⟩, .string ⟨#[]⟩, .string ⟨#[]⟩, .int .i64 0, .slice none 0 0, .int .i64 0, .slice none 0 0, .bool false] : Array Value).toList := ⟨_, rfl⟩
      have cF : Ch (fun b => b = w.heap.size) w1 WF := by rw [hWF]; exact ch_setCells _ _ _
      have RF : BoxL WF w.heap.size [.int .i64 0, .int .i64 0, .int .i64 0, .int .i64 0, .int .i64 0, .int .i64 0, .int .i64 0, .int .i64 0, .string ⟨#[]⟩, .string ⟨#[]⟩, .string ⟨#[]⟩, .int .i64 0, .slice none 0 0, .int .i64 0, .slice none 0 0, .bool false] := by rw [hWF]; exact R.setCells rfl
      have hWr := RF.range
      have hgs : w.heap.size < w1.heap.size := R.lt
      have hBF : Below w.heap.size w WF := cF.belowB B (by omega) (fun k hk => by have hk : k = _ := hk; omega)
      have HWF := Lib.hid hWF; clear hWF cF RF R
      repeat (first | ((with_reducible refine wpList_store_mid ?_ 50 (.tmp 2) (.tmp 27) ?_ w.heap.size 0 #[.int .i64 0, .int .i64 0, .int .i64 0, .int .i64 0, .int .i64 0, .int .i64 0, .int .i64 0, .int .i64 0, .string ⟨#[]⟩, .string ⟨#[]⟩, .string ⟨#[]⟩, .int .i64 0, .slice none 0 0, .int .i64 0, .slice none 0 0, .bool false] ?_ ?_ ?_ ?_ zOne16 ?_); all_goals (first | rw [← HWF.out] | exact hRt | exact sizeInst | rfl)) | go_values | go_skip | go_guarded | go_step | go_upon | (simp only []; go_at_K))
      try simp only [Exit.inBlock, Exit.then]
      refine bodyPost_ret (results_cell_tmp Try.results28 rfl hWr Try.underlying50 rfl sizeInst) rfl ?_
      rw [HN.out.1, HN.out.2]
      exact ⟨⟨none, 0, 0, none, 0, 0, [], [], rfl, StrO.nil, RowO.nil, List.nodup_nil, fun b hb => by cases hb⟩, hBF⟩
    · have hn2 : (s.size : Int) ≤ p1 := by omega
      clear hneg
      have hRt := R.there (n := 16) rfl
      obtain ⟨WF, hWF⟩ : ∃ W, W = w1.setCells w.heap.size 0 (#[.int .i64 0, .int .i64 0, .int .i64 0, .int .i64 0, .int .i64 0, .int .i64 0, .int .i64 0, .int .i64 0, .string ⟨#[]⟩, .string ⟨#[]⟩, .string ⟨#[]⟩, .int .i64 0, .slice none 0 0, .int .i64 0, .slice none 0 0, .bool false] : Array Value).toList := ⟨_, rfl⟩
      have cF : Ch (fun b => b = w.heap.size) w1 WF := by rw [hWF]; exact ch_setCells _ _ _
      have RF : BoxL WF w.heap.size [.int .i64 0, .int .i64 0, .int .i64 0, .int .i64 0, .int .i64 0, .int .i64 0, .int .i64 0, .int .i64 0, .string ⟨#[]⟩, .string ⟨#[]⟩, .string ⟨#[]⟩, .int .i64 0, .slice none 0 0, .int .i64 0, .slice none 0 0, .bool false] := by rw [hWF]; exact R.setCells rfl
      have hWr := RF.range
      have hgs : w.heap.size < w1.heap.size := R.lt
      have hBF : Below w.heap.size w WF := cF.belowB B (by omega) (fun k hk => by have hk : k = _ := hk; omega)
      have HWF := Lib.hid hWF; clear hWF cF RF R
      repeat (first | ((with_reducible refine wpList_store_mid ?_ 50 (.tmp 2) (.tmp 27) ?_ w.heap.size 0 #[.int .i64 0, .int .i64 0, .int .i64 0, .int .i64 0, .int .i64 0, .int .i64 0, .int .i64 0, .int .i64 0, .string ⟨#[]⟩, .string ⟨#[]⟩, .string ⟨#[]⟩, .int .i64 0, .slice none 0 0, .int .i64 0, .slice none 0 0, .bool false] ?_ ?_ ?_ ?_ zOne16 ?_); all_goals (first | rw [← HWF.out] | exact hRt | exact sizeInst | rfl)) | go_values | go_skip | go_guarded | go_step | go_upon | (simp only []; go_at_K))
      try simp only [Exit.inBlock, Exit.then]
      refine bodyPost_ret (results_cell_tmp Try.results28 rfl hWr Try.underlying50 rfl sizeInst) rfl ?_
      rw [HN.out.1, HN.out.2]
      exact ⟨⟨none, 0, 0, none, 0, 0, [], [], rfl, StrO.nil, RowO.nil, List.nodup_nil, fun b hb => by cases hb⟩, hBF⟩
  · obtain ⟨e6, rfl⟩ : ∃ e : Nat, p1 = e := ⟨p1.toNat, by omega⟩
    have hl1 := hln (by omega)
    obtain ⟨a, b, c, d, u, v, rfl⟩ : ∃ a b c d u v, L1 = [a, b, c, d, u, v] := by
      match L1, hl1 with
      | [a, b, c, d, u, v], _ => exact ⟨a, b, c, d, u, v, rfl⟩
    have ha_ := hin.2.2 a (by simp)
    have hb_ := hin.2.2 b (by simp)
    have hc_ := hin.2.2 c (by simp)
    have hd_ := hin.2.2 d (by simp)
    have hu_ := hin.2.2 u (by simp)
    have hv_ := hin.2.2 v (by simp)
    have he6 : e6 < s.size := by omega
    have hng : ¬ ((e6 : Int) < 0) := by omega
    have hng2 : ¬ ((s.size : Int) ≤ (e6 : Int)) := by omega
    obtain ⟨g1, hA1, hg1, hg1w, hc1⟩ := rowCell row1 (by simp)
    subst hA1
    have l0 : w1.cell? ⟨g1, 0, none⟩ = some (.int .i64 (a : Int)) := hc1 0 _ rfl
    have l1 : w1.cell? ⟨g1, 1, none⟩ = some (.int .i64 (b : Int)) := hc1 1 _ rfl
    have l2 : w1.cell? ⟨g1, 2, none⟩ = some (.int .i64 (c : Int)) := hc1 2 _ rfl
    have l3 : w1.cell? ⟨g1, 3, none⟩ = some (.int .i64 (d : Int)) := hc1 3 _ rfl
    have l4 : w1.cell? ⟨g1, 4, none⟩ = some (.int .i64 (u : Int)) := hc1 4 _ rfl
    have l5 : w1.cell? ⟨g1, 5, none⟩ = some (.int .i64 (v : Int)) := hc1 5 _ rfl
    clear hc1 row1 hin hln hl1 hneg
    repeat (first | go_values | go_skip | go_guarded | go_step | go_upon | (simp only []; go_at_K))
    obtain ⟨qb, hqb⟩ : ∃ q, (((bAt s e6 : Nat) : Int) == 1) = q := ⟨_, rfl⟩
    have HQB := Lib.hid hqb
    have hbt := bAt_get he6
    have hOneC : (#[.int .i64 (a : Int), .int .i64 (b : Int), .int .i64 ((c : Int) - 1), .int .i64 ((d : Int) - 1), .int .i64 (u : Int), .int .i64 0, .int .i64 0, .int .i64 0, .string ⟨#[]⟩, .string ⟨#[]⟩, .string ⟨#[]⟩, .int .i64 0, .slice none 0 0, .int .i64 (v : Int), .slice none 0 0, .bool qb] : Array Value).all (·.oneCell') = true := all_oneCell_toArray (cs := [.int .i64 (a : Int), .int .i64 (b : Int), .int .i64 ((c : Int) - 1), .int .i64 ((d : Int) - 1), .int .i64 (u : Int), .int .i64 0, .int .i64 0, .int .i64 0, .string ⟨#[]⟩, .string ⟨#[]⟩, .string ⟨#[]⟩, .int .i64 0, .slice none 0 0, .int .i64 (v : Int), .slice none 0 0, .bool qb]) (by simp [Value.oneCell'])
    refine wp_region_dagb [28, 29, 30, 31, 32, 33, 34, 35, 36, 37, 38, 39, 40, 41, 42, 43, 44, 45, 46, 47, 48, 49, 50, 51, 52, 53, 6] (by kernel_rfl) (by kernel_rfl) (fun D vs w' => ∃ v28 v29 v30 v31 v32 v33 v34 v35 v36 v37 v38 v39 v40 v41 v42 v43 v44 v45 v46 v47 v48 v49 v50 v51 v52 v53 v6 : Value, vs = [v28, v29, v30, v31, v32, v33, v34, v35, v36, v37, v38, v39, v40, v41, v42, v43, v44, v45, v46, v47, v48, v49, v50, v51, v52, v53, v6] ∧ Below w1.heap.size w1 w' ∧ (D 0 = true → v28 = .slice (some ⟨g1, 0, none⟩) 6 kp1) ∧ (D 1 = true → v29 = .pointer (some ⟨g1, 0, none⟩)) ∧ (D 2 = true → v30 = .int .i64 (a : Int)) ∧ (D 3 = true → v31 = .slice (some ⟨g1, 0, none⟩) 6 kp1) ∧ (D 4 = true → v32 = .pointer (some ⟨g1, 1, none⟩)) ∧ (D 5 = true → v33 = .int .i64 (b : Int)) ∧ (D 6 = true → v34 = .agg #[.int .i64 (a : Int), .int .i64 (b : Int)]) ∧ (D 7 = true → v35 = .slice (some ⟨g1, 0, none⟩) 6 kp1) ∧ (D 8 = true → v36 = .pointer (some ⟨g1, 2, none⟩)) ∧ (D 9 = true → v37 = .int .i64 (c : Int)) ∧ (D 10 = true → v38 = .int .i64 ((c : Int) - 1)) ∧ (D 11 = true → v39 = .slice (some ⟨g1, 0, none⟩) 6 kp1) ∧ (D 12 = true → v40 = .pointer (some ⟨g1, 3, none⟩)) ∧ (D 13 = true → v41 = .int .i64 (d : Int)) ∧ (D 14 = true → v42 = .int .i64 ((d : Int) - 1)) ∧ (D 15 = true → v43 = .slice (some ⟨g1, 0, none⟩) 6 kp1) ∧ (D 16 = true → v44 = .pointer (some ⟨g1, 4, none⟩)) ∧ (D 17 = true → v45 = .int .i64 (u : Int)) ∧ (D 18 = true → v46 = .slice (some ⟨g1, 0, none⟩) 6 kp1) ∧ (D 19 = true → v47 = .pointer (some ⟨g1, 5, none⟩)) ∧ (D 20 = true → v48 = .int .i64 (v : Int)) ∧ (D 21 = true → v49 = .string s) ∧ (D 22 = true → v50 = .int .i64 (e6 : Int)) ∧ (D 23 = true → v51 = .int .u8 ((bAt s e6 : Nat) : Int)) ∧ (D 24 = true → v52 = .bool qb) ∧ (D 25 = true → v53 = .agg #[.int .i64 (a : Int), .int .i64 (b : Int), .int .i64 ((c : Int) - 1), .int .i64 ((d : Int) - 1), .int .i64 (u : Int), .int .i64 0, .int .i64 0, .int .i64 0, .string ⟨#[]⟩, .string ⟨#[]⟩, .string ⟨#[]⟩, .int .i64 0, .slice none 0 0, .int .i64 (v : Int), .slice none 0 0, .bool qb]) ∧ (D 26 = true → ∃ h, v6 = .pointer (some ⟨h, 0, none⟩) ∧ w1.heap.size ≤ h ∧ (D 27 = false → BoxL w' h [.int .i64 0, .int .i64 0, .int .i64 0, .int .i64 0, .int .i64 0, .int .i64 0, .int .i64 0, .int .i64 0, .string ⟨#[]⟩, .string ⟨#[]⟩, .string ⟨#[]⟩, .int .i64 0, .slice none 0 0, .int .i64 0, .slice none 0 0, .bool false])) ∧ (D 27 = true → ∃ h, v6 = .pointer (some ⟨h, 0, none⟩) ∧ w1.heap.size ≤ h ∧ BoxL w' h [.int .i64 (a : Int), .int .i64 (b : Int), .int .i64 ((c : Int) - 1), .int .i64 ((d : Int) - 1), .int .i64 (u : Int), .int .i64 0, .int .i64 0, .int .i64 0, .string ⟨#[]⟩, .string ⟨#[]⟩, .string ⟨#[]⟩, .int .i64 0, .slice none 0 0, .int .i64 (v : Int), .slice none 0 0, .bool qb]))
      ⟨_, _, _, _, _, _, _, _, _, _, _, _, _, _, _, _, _, _, _, _, _, _, _, _, _, _, _, rfl, ((Below.refl _ _).drew), (fun h => by cases h), (fun h => by cases h), (fun h => by cases h), (fun h => by cases h), (fun h => by cases h), (fun h => by cases h), (fun h => by cases h), (fun h => by cases h), (fun h => by cases h), (fun h => by cases h), (fun h => by cases h), (fun h => by cases h), (fun h => by cases h), (fun h => by cases h), (fun h => by cases h), (fun h => by cases h), (fun h => by cases h), (fun h => by cases h), (fun h => by cases h), (fun h => by cases h), (fun h => by cases h), (fun h => by cases h), (fun h => by cases h), (fun h => by cases h), (fun h => by cases h), (fun h => by cases h), (fun h => by cases h), (fun h => by cases h)⟩ ?_ ?_
    · intro i D vs w' hi hD hdep hcl hI
      have hi' : i < 28 := hi
      obtain ⟨v28, v29, v30, v31, v32, v33, v34, v35, v36, v37, v38, v39, v40, v41, v42, v43, v44, v45, v46, v47, v48, v49, v50, v51, v52, v53, v6, rfl, hb, k0, k1, k2, k3, k4, k5, k6, k7, k8, k9, k10, k11, k12, k13, k14, k15, k16, k17, k18, k19, k20, k21, k22, k23, k24, k25, k26, k27⟩ := hI
      simp only [putAll, List.setIfInBounds_toArray, List.set_cons_succ, List.set_cons_zero]
      rcases (show i = 0 ∨ i = 1 ∨ i = 2 ∨ i = 3 ∨ i = 4 ∨ i = 5 ∨ i = 6 ∨ i = 7 ∨ i = 8 ∨ i = 9 ∨ i = 10 ∨ i = 11 ∨ i = 12 ∨ i = 13 ∨ i = 14 ∨ i = 15 ∨ i = 16 ∨ i = 17 ∨ i = 18 ∨ i = 19 ∨ i = 20 ∨ i = 21 ∨ i = 22 ∨ i = 23 ∨ i = 24 ∨ i = 25 ∨ i = 26 ∨ i = 27 by omega) with rfl | rfl | rfl | rfl | rfl | rfl | rfl | rfl | rfl | rfl | rfl | rfl | rfl | rfl | rfl | rfl | rfl | rfl | rfl | rfl | rfl | rfl | rfl | rfl | rfl | rfl | rfl | rfl
      · refine wpOp_step (by simp only [List.getElem?_toArray, List.getElem?_cons_zero]; rfl) (fun K hK => ?_)
        go_simp
        refine hK _ _ ⟨[.slice (some ⟨g1, 0, none⟩) 6 kp1, v29, v30, v31, v32, v33, v34, v35, v36, v37, v38, v39, v40, v41, v42, v43, v44, v45, v46, v47, v48, v49, v50, v51, v52, v53, v6], ?_, _, _, _, _, _, _, _, _, _, _, _, _, _, _, _, _, _, _, _, _, _, _, _, _, _, _, _, rfl, hb, (fun _ => rfl), k1, k2, k3, k4, k5, k6, k7, k8, k9, k10, k11, k12, k13, k14, k15, k16, k17, k18, k19, k20, k21, k22, k23, k24, k25, k26, k27⟩
        simp only [putAll, List.setIfInBounds_toArray, List.set_cons_succ, List.set_cons_zero] <;> rfl
      · have e0 := k0 (hdep 0 (by kernel_rfl))
        subst e0
        refine wpOp_step (by simp only [List.getElem?_toArray, List.getElem?_cons_succ, List.getElem?_cons_zero]; rfl) (fun K hK => ?_)
        go_simp
        refine hK _ _ ⟨[.slice (some ⟨g1, 0, none⟩) 6 kp1, .pointer (some ⟨g1, 0, none⟩), v30, v31, v32, v33, v34, v35, v36, v37, v38, v39, v40, v41, v42, v43, v44, v45, v46, v47, v48, v49, v50, v51, v52, v53, v6], ?_, _, _, _, _, _, _, _, _, _, _, _, _, _, _, _, _, _, _, _, _, _, _, _, _, _, _, _, rfl, hb, (fun _ => rfl), (fun _ => rfl), k2, k3, k4, k5, k6, k7, k8, k9, k10, k11, k12, k13, k14, k15, k16, k17, k18, k19, k20, k21, k22, k23, k24, k25, k26, k27⟩
        simp only [putAll, List.setIfInBounds_toArray, List.set_cons_succ, List.set_cons_zero] <;> rfl
      · have e1 := k1 (hdep 1 (by kernel_rfl))
        subst e1
        have q := keep_cell hb l0
        refine wpOp_step (by simp only [List.getElem?_toArray, List.getElem?_cons_succ, List.getElem?_cons_zero]; rfl) (fun K hK => ?_)
        go_simp
        refine hK _ _ ⟨[v28, .pointer (some ⟨g1, 0, none⟩), .int .i64 (a : Int), v31, v32, v33, v34, v35, v36, v37, v38, v39, v40, v41, v42, v43, v44, v45, v46, v47, v48, v49, v50, v51, v52, v53, v6], ?_, _, _, _, _, _, _, _, _, _, _, _, _, _, _, _, _, _, _, _, _, _, _, _, _, _, _, _, rfl, hb, k0, (fun _ => rfl), (fun _ => rfl), k3, k4, k5, k6, k7, k8, k9, k10, k11, k12, k13, k14, k15, k16, k17, k18, k19, k20, k21, k22, k23, k24, k25, k26, k27⟩
        simp only [putAll, List.setIfInBounds_toArray, List.set_cons_succ, List.set_cons_zero] <;> rfl
      · refine wpOp_step (by simp only [List.getElem?_toArray, List.getElem?_cons_succ, List.getElem?_cons_zero]; rfl) (fun K hK => ?_)
        go_simp
        refine hK _ _ ⟨[v28, v29, v30, .slice (some ⟨g1, 0, none⟩) 6 kp1, v32, v33, v34, v35, v36, v37, v38, v39, v40, v41, v42, v43, v44, v45, v46, v47, v48, v49, v50, v51, v52, v53, v6], ?_, _, _, _, _, _, _, _, _, _, _, _, _, _, _, _, _, _, _, _, _, _, _, _, _, _, _, _, rfl, hb, k0, k1, k2, (fun _ => rfl), k4, k5, k6, k7, k8, k9, k10, k11, k12, k13, k14, k15, k16, k17, k18, k19, k20, k21, k22, k23, k24, k25, k26, k27⟩
        simp only [putAll, List.setIfInBounds_toArray, List.set_cons_succ, List.set_cons_zero] <;> rfl
      · have e3 := k3 (hdep 3 (by kernel_rfl))
        subst e3
        refine wpOp_step (by simp only [List.getElem?_toArray, List.getElem?_cons_succ, List.getElem?_cons_zero]; rfl) (fun K hK => ?_)
        go_simp
        refine hK _ _ ⟨[v28, v29, v30, .slice (some ⟨g1, 0, none⟩) 6 kp1, .pointer (some ⟨g1, 1, none⟩), v33, v34, v35, v36, v37, v38, v39, v40, v41, v42, v43, v44, v45, v46, v47, v48, v49, v50, v51, v52, v53, v6], ?_, _, _, _, _, _, _, _, _, _, _, _, _, _, _, _, _, _, _, _, _, _, _, _, _, _, _, _, rfl, hb, k0, k1, k2, (fun _ => rfl), (fun _ => rfl), k5, k6, k7, k8, k9, k10, k11, k12, k13, k14, k15, k16, k17, k18, k19, k20, k21, k22, k23, k24, k25, k26, k27⟩
        simp only [putAll, List.setIfInBounds_toArray, List.set_cons_succ, List.set_cons_zero] <;> rfl
      · have e4 := k4 (hdep 4 (by kernel_rfl))
        subst e4
        have q := keep_cell hb l1
        refine wpOp_step (by simp only [List.getElem?_toArray, List.getElem?_cons_succ, List.getElem?_cons_zero]; rfl) (fun K hK => ?_)
        go_simp
        refine hK _ _ ⟨[v28, v29, v30, v31, .pointer (some ⟨g1, 1, none⟩), .int .i64 (b : Int), v34, v35, v36, v37, v38, v39, v40, v41, v42, v43, v44, v45, v46, v47, v48, v49, v50, v51, v52, v53, v6], ?_, _, _, _, _, _, _, _, _, _, _, _, _, _, _, _, _, _, _, _, _, _, _, _, _, _, _, _, rfl, hb, k0, k1, k2, k3, (fun _ => rfl), (fun _ => rfl), k6, k7, k8, k9, k10, k11, k12, k13, k14, k15, k16, k17, k18, k19, k20, k21, k22, k23, k24, k25, k26, k27⟩
        simp only [putAll, List.setIfInBounds_toArray, List.set_cons_succ, List.set_cons_zero] <;> rfl
      · have e2 := k2 (hdep 2 (by kernel_rfl))
        subst e2
        have e5 := k5 (hdep 5 (by kernel_rfl))
        subst e5
        refine wpOp_step (by simp only [List.getElem?_toArray, List.getElem?_cons_succ, List.getElem?_cons_zero]; rfl) (fun K hK => ?_)
        go_simp
        refine hK _ _ ⟨[v28, v29, .int .i64 (a : Int), v31, v32, .int .i64 (b : Int), .agg #[.int .i64 (a : Int), .int .i64 (b : Int)], v35, v36, v37, v38, v39, v40, v41, v42, v43, v44, v45, v46, v47, v48, v49, v50, v51, v52, v53, v6], ?_, _, _, _, _, _, _, _, _, _, _, _, _, _, _, _, _, _, _, _, _, _, _, _, _, _, _, _, rfl, hb, k0, k1, (fun _ => rfl), k3, k4, (fun _ => rfl), (fun _ => rfl), k7, k8, k9, k10, k11, k12, k13, k14, k15, k16, k17, k18, k19, k20, k21, k22, k23, k24, k25, k26, k27⟩
        simp only [putAll, List.setIfInBounds_toArray, List.set_cons_succ, List.set_cons_zero] <;> rfl
      · refine wpOp_step (by simp only [List.getElem?_toArray, List.getElem?_cons_succ, List.getElem?_cons_zero]; rfl) (fun K hK => ?_)
        go_simp
        refine hK _ _ ⟨[v28, v29, v30, v31, v32, v33, v34, .slice (some ⟨g1, 0, none⟩) 6 kp1, v36, v37, v38, v39, v40, v41, v42, v43, v44, v45, v46, v47, v48, v49, v50, v51, v52, v53, v6], ?_, _, _, _, _, _, _, _, _, _, _, _, _, _, _, _, _, _, _, _, _, _, _, _, _, _, _, _, rfl, hb, k0, k1, k2, k3, k4, k5, k6, (fun _ => rfl), k8, k9, k10, k11, k12, k13, k14, k15, k16, k17, k18, k19, k20, k21, k22, k23, k24, k25, k26, k27⟩
        simp only [putAll, List.setIfInBounds_toArray, List.set_cons_succ, List.set_cons_zero] <;> rfl
      · have e7 := k7 (hdep 7 (by kernel_rfl))
        subst e7
        refine wpOp_step (by simp only [List.getElem?_toArray, List.getElem?_cons_succ, List.getElem?_cons_zero]; rfl) (fun K hK => ?_)
        go_simp
        refine hK _ _ ⟨[v28, v29, v30, v31, v32, v33, v34, .slice (some ⟨g1, 0, none⟩) 6 kp1, .pointer (some ⟨g1, 2, none⟩), v37, v38, v39, v40, v41, v42, v43, v44, v45, v46, v47, v48, v49, v50, v51, v52, v53, v6], ?_, _, _, _, _, _, _, _, _, _, _, _, _, _, _, _, _, _, _, _, _, _, _, _, _, _, _, _, rfl, hb, k0, k1, k2, k3, k4, k5, k6, (fun _ => rfl), (fun _ => rfl), k9, k10, k11, k12, k13, k14, k15, k16, k17, k18, k19, k20, k21, k22, k23, k24, k25, k26, k27⟩
        simp only [putAll, List.setIfInBounds_toArray, List.set_cons_succ, List.set_cons_zero] <;> rfl
      · have e8 := k8 (hdep 8 (by kernel_rfl))
        subst e8
        have q := keep_cell hb l2
        refine wpOp_step (by simp only [List.getElem?_toArray, List.getElem?_cons_succ, List.getElem?_cons_zero]; rfl) (fun K hK => ?_)
        go_simp
        refine hK _ _ ⟨[v28, v29, v30, v31, v32, v33, v34, v35, .pointer (some ⟨g1, 2, none⟩), .int .i64 (c : Int), v38, v39, v40, v41, v42, v43, v44, v45, v46, v47, v48, v49, v50, v51, v52, v53, v6], ?_, _, _, _, _, _, _, _, _, _, _, _, _, _, _, _, _, _, _, _, _, _, _, _, _, _, _, _, rfl, hb, k0, k1, k2, k3, k4, k5, k6, k7, (fun _ => rfl), (fun _ => rfl), k10, k11, k12, k13, k14, k15, k16, k17, k18, k19, k20, k21, k22, k23, k24, k25, k26, k27⟩
        simp only [putAll, List.setIfInBounds_toArray, List.set_cons_succ, List.set_cons_zero] <;> rfl
      · have e9 := k9 (hdep 9 (by kernel_rfl))
        subst e9
        have hw : IntKind.i64.wrap ((c : Int) - 1) = c - 1 := by rw [IntKind.wrap_i64]; omega
        refine wpOp_step (by simp only [List.getElem?_toArray, List.getElem?_cons_succ, List.getElem?_cons_zero]; rfl) (fun K hK => ?_)
        go_simp
        refine hK _ _ ⟨[v28, v29, v30, v31, v32, v33, v34, v35, v36, .int .i64 (c : Int), .int .i64 ((c : Int) - 1), v39, v40, v41, v42, v43, v44, v45, v46, v47, v48, v49, v50, v51, v52, v53, v6], ?_, _, _, _, _, _, _, _, _, _, _, _, _, _, _, _, _, _, _, _, _, _, _, _, _, _, _, _, rfl, hb, k0, k1, k2, k3, k4, k5, k6, k7, k8, (fun _ => rfl), (fun _ => rfl), k11, k12, k13, k14, k15, k16, k17, k18, k19, k20, k21, k22, k23, k24, k25, k26, k27⟩
        simp only [putAll, List.setIfInBounds_toArray, List.set_cons_succ, List.set_cons_zero] <;> rfl
      · refine wpOp_step (by simp only [List.getElem?_toArray, List.getElem?_cons_succ, List.getElem?_cons_zero]; rfl) (fun K hK => ?_)
        go_simp
        refine hK _ _ ⟨[v28, v29, v30, v31, v32, v33, v34, v35, v36, v37, v38, .slice (some ⟨g1, 0, none⟩) 6 kp1, v40, v41, v42, v43, v44, v45, v46, v47, v48, v49, v50, v51, v52, v53, v6], ?_, _, _, _, _, _, _, _, _, _, _, _, _, _, _, _, _, _, _, _, _, _, _, _, _, _, _, _, rfl, hb, k0, k1, k2, k3, k4, k5, k6, k7, k8, k9, k10, (fun _ => rfl), k12, k13, k14, k15, k16, k17, k18, k19, k20, k21, k22, k23, k24, k25, k26, k27⟩
        simp only [putAll, List.setIfInBounds_toArray, List.set_cons_succ, List.set_cons_zero] <;> rfl
      · have e11 := k11 (hdep 11 (by kernel_rfl))
        subst e11
        refine wpOp_step (by simp only [List.getElem?_toArray, List.getElem?_cons_succ, List.getElem?_cons_zero]; rfl) (fun K hK => ?_)
        go_simp
        refine hK _ _ ⟨[v28, v29, v30, v31, v32, v33, v34, v35, v36, v37, v38, .slice (some ⟨g1, 0, none⟩) 6 kp1, .pointer (some ⟨g1, 3, none⟩), v41, v42, v43, v44, v45, v46, v47, v48, v49, v50, v51, v52, v53, v6], ?_, _, _, _, _, _, _, _, _, _, _, _, _, _, _, _, _, _, _, _, _, _, _, _, _, _, _, _, rfl, hb, k0, k1, k2, k3, k4, k5, k6, k7, k8, k9, k10, (fun _ => rfl), (fun _ => rfl), k13, k14, k15, k16, k17, k18, k19, k20, k21, k22, k23, k24, k25, k26, k27⟩
        simp only [putAll, List.setIfInBounds_toArray, List.set_cons_succ, List.set_cons_zero] <;> rfl
      · have e12 := k12 (hdep 12 (by kernel_rfl))
        subst e12
        have q := keep_cell hb l3
        refine wpOp_step (by simp only [List.getElem?_toArray, List.getElem?_cons_succ, List.getElem?_cons_zero]; rfl) (fun K hK => ?_)
        go_simp
        refine hK _ _ ⟨[v28, v29, v30, v31, v32, v33, v34, v35, v36, v37, v38, v39, .pointer (some ⟨g1, 3, none⟩), .int .i64 (d : Int), v42, v43, v44, v45, v46, v47, v48, v49, v50, v51, v52, v53, v6], ?_, _, _, _, _, _, _, _, _, _, _, _, _, _, _, _, _, _, _, _, _, _, _, _, _, _, _, _, rfl, hb, k0, k1, k2, k3, k4, k5, k6, k7, k8, k9, k10, k11, (fun _ => rfl), (fun _ => rfl), k14, k15, k16, k17, k18, k19, k20, k21, k22, k23, k24, k25, k26, k27⟩
        simp only [putAll, List.setIfInBounds_toArray, List.set_cons_succ, List.set_cons_zero] <;> rfl
      · have e13 := k13 (hdep 13 (by kernel_rfl))
        subst e13
        have hw : IntKind.i64.wrap ((d : Int) - 1) = d - 1 := by rw [IntKind.wrap_i64]; omega
        refine wpOp_step (by simp only [List.getElem?_toArray, List.getElem?_cons_succ, List.getElem?_cons_zero]; rfl) (fun K hK => ?_)
        go_simp
        refine hK _ _ ⟨[v28, v29, v30, v31, v32, v33, v34, v35, v36, v37, v38, v39, v40, .int .i64 (d : Int), .int .i64 ((d : Int) - 1), v43, v44, v45, v46, v47, v48, v49, v50, v51, v52, v53, v6], ?_, _, _, _, _, _, _, _, _, _, _, _, _, _, _, _, _, _, _, _, _, _, _, _, _, _, _, _, rfl, hb, k0, k1, k2, k3, k4, k5, k6, k7, k8, k9, k10, k11, k12, (fun _ => rfl), (fun _ => rfl), k15, k16, k17, k18, k19, k20, k21, k22, k23, k24, k25, k26, k27⟩
        simp only [putAll, List.setIfInBounds_toArray, List.set_cons_succ, List.set_cons_zero] <;> rfl
      · refine wpOp_step (by simp only [List.getElem?_toArray, List.getElem?_cons_succ, List.getElem?_cons_zero]; rfl) (fun K hK => ?_)
        go_simp
        refine hK _ _ ⟨[v28, v29, v30, v31, v32, v33, v34, v35, v36, v37, v38, v39, v40, v41, v42, .slice (some ⟨g1, 0, none⟩) 6 kp1, v44, v45, v46, v47, v48, v49, v50, v51, v52, v53, v6], ?_, _, _, _, _, _, _, _, _, _, _, _, _, _, _, _, _, _, _, _, _, _, _, _, _, _, _, _, rfl, hb, k0, k1, k2, k3, k4, k5, k6, k7, k8, k9, k10, k11, k12, k13, k14, (fun _ => rfl), k16, k17, k18, k19, k20, k21, k22, k23, k24, k25, k26, k27⟩
        simp only [putAll, List.setIfInBounds_toArray, List.set_cons_succ, List.set_cons_zero] <;> rfl
      · have e15 := k15 (hdep 15 (by kernel_rfl))
        subst e15
        refine wpOp_step (by simp only [List.getElem?_toArray, List.getElem?_cons_succ, List.getElem?_cons_zero]; rfl) (fun K hK => ?_)
        go_simp
        refine hK _ _ ⟨[v28, v29, v30, v31, v32, v33, v34, v35, v36, v37, v38, v39, v40, v41, v42, .slice (some ⟨g1, 0, none⟩) 6 kp1, .pointer (some ⟨g1, 4, none⟩), v45, v46, v47, v48, v49, v50, v51, v52, v53, v6], ?_, _, _, _, _, _, _, _, _, _, _, _, _, _, _, _, _, _, _, _, _, _, _, _, _, _, _, _, rfl, hb, k0, k1, k2, k3, k4, k5, k6, k7, k8, k9, k10, k11, k12, k13, k14, (fun _ => rfl), (fun _ => rfl), k17, k18, k19, k20, k21, k22, k23, k24, k25, k26, k27⟩
        simp only [putAll, List.setIfInBounds_toArray, List.set_cons_succ, List.set_cons_zero] <;> rfl
      · have e16 := k16 (hdep 16 (by kernel_rfl))
        subst e16
        have q := keep_cell hb l4
        refine wpOp_step (by simp only [List.getElem?_toArray, List.getElem?_cons_succ, List.getElem?_cons_zero]; rfl) (fun K hK => ?_)
        go_simp
        refine hK _ _ ⟨[v28, v29, v30, v31, v32, v33, v34, v35, v36, v37, v38, v39, v40, v41, v42, v43, .pointer (some ⟨g1, 4, none⟩), .int .i64 (u : Int), v46, v47, v48, v49, v50, v51, v52, v53, v6], ?_, _, _, _, _, _, _, _, _, _, _, _, _, _, _, _, _, _, _, _, _, _, _, _, _, _, _, _, rfl, hb, k0, k1, k2, k3, k4, k5, k6, k7, k8, k9, k10, k11, k12, k13, k14, k15, (fun _ => rfl), (fun _ => rfl), k18, k19, k20, k21, k22, k23, k24, k25, k26, k27⟩
        simp only [putAll, List.setIfInBounds_toArray, List.set_cons_succ, List.set_cons_zero] <;> rfl
      · refine wpOp_step (by simp only [List.getElem?_toArray, List.getElem?_cons_succ, List.getElem?_cons_zero]; rfl) (fun K hK => ?_)
        go_simp
        refine hK _ _ ⟨[v28, v29, v30, v31, v32, v33, v34, v35, v36, v37, v38, v39, v40, v41, v42, v43, v44, v45, .slice (some ⟨g1, 0, none⟩) 6 kp1, v47, v48, v49, v50, v51, v52, v53, v6], ?_, _, _, _, _, _, _, _, _, _, _, _, _, _, _, _, _, _, _, _, _, _, _, _, _, _, _, _, rfl, hb, k0, k1, k2, k3, k4, k5, k6, k7, k8, k9, k10, k11, k12, k13, k14, k15, k16, k17, (fun _ => rfl), k19, k20, k21, k22, k23, k24, k25, k26, k27⟩
        simp only [putAll, List.setIfInBounds_toArray, List.set_cons_succ, List.set_cons_zero] <;> rfl
      · have e18 := k18 (hdep 18 (by kernel_rfl))
        subst e18
        refine wpOp_step (by simp only [List.getElem?_toArray, List.getElem?_cons_succ, List.getElem?_cons_zero]; rfl) (fun K hK => ?_)
        go_simp
        refine hK _ _ ⟨[v28, v29, v30, v31, v32, v33, v34, v35, v36, v37, v38, v39, v40, v41, v42, v43, v44, v45, .slice (some ⟨g1, 0, none⟩) 6 kp1, .pointer (some ⟨g1, 5, none⟩), v48, v49, v50, v51, v52, v53, v6], ?_, _, _, _, _, _, _, _, _, _, _, _, _, _, _, _, _, _, _, _, _, _, _, _, _, _, _, _, rfl, hb, k0, k1, k2, k3, k4, k5, k6, k7, k8, k9, k10, k11, k12, k13, k14, k15, k16, k17, (fun _ => rfl), (fun _ => rfl), k20, k21, k22, k23, k24, k25, k26, k27⟩
        simp only [putAll, List.setIfInBounds_toArray, List.set_cons_succ, List.set_cons_zero] <;> rfl
      · have e19 := k19 (hdep 19 (by kernel_rfl))
        subst e19
        have q := keep_cell hb l5
        refine wpOp_step (by simp only [List.getElem?_toArray, List.getElem?_cons_succ, List.getElem?_cons_zero]; rfl) (fun K hK => ?_)
        go_simp
        refine hK _ _ ⟨[v28, v29, v30, v31, v32, v33, v34, v35, v36, v37, v38, v39, v40, v41, v42, v43, v44, v45, v46, .pointer (some ⟨g1, 5, none⟩), .int .i64 (v : Int), v49, v50, v51, v52, v53, v6], ?_, _, _, _, _, _, _, _, _, _, _, _, _, _, _, _, _, _, _, _, _, _, _, _, _, _, _, _, rfl, hb, k0, k1, k2, k3, k4, k5, k6, k7, k8, k9, k10, k11, k12, k13, k14, k15, k16, k17, k18, (fun _ => rfl), (fun _ => rfl), k21, k22, k23, k24, k25, k26, k27⟩
        simp only [putAll, List.setIfInBounds_toArray, List.set_cons_succ, List.set_cons_zero] <;> rfl
      · refine wpOp_step (by simp only [List.getElem?_toArray, List.getElem?_cons_succ, List.getElem?_cons_zero]; rfl) (fun K hK => ?_)
        go_simp
        refine hK _ _ ⟨[v28, v29, v30, v31, v32, v33, v34, v35, v36, v37, v38, v39, v40, v41, v42, v43, v44, v45, v46, v47, v48, .string s, v50, v51, v52, v53, v6], ?_, _, _, _, _, _, _, _, _, _, _, _, _, _, _, _, _, _, _, _, _, _, _, _, _, _, _, _, rfl, hb, k0, k1, k2, k3, k4, k5, k6, k7, k8, k9, k10, k11, k12, k13, k14, k15, k16, k17, k18, k19, k20, (fun _ => rfl), k22, k23, k24, k25, k26, k27⟩
        simp only [putAll, List.setIfInBounds_toArray, List.set_cons_succ, List.set_cons_zero] <;> rfl
      · refine wpOp_step (by simp only [List.getElem?_toArray, List.getElem?_cons_succ, List.getElem?_cons_zero]; rfl) (fun K hK => ?_)
        go_simp
        refine hK _ _ ⟨[v28, v29, v30, v31, v32, v33, v34, v35, v36, v37, v38, v39, v40, v41, v42, v43, v44, v45, v46, v47, v48, v49, .int .i64 (e6 : Int), v51, v52, v53, v6], ?_, _, _, _, _, _, _, _, _, _, _, _, _, _, _, _, _, _, _, _, _, _, _, _, _, _, _, _, rfl, hb, k0, k1, k2, k3, k4, k5, k6, k7, k8, k9, k10, k11, k12, k13, k14, k15, k16, k17, k18, k19, k20, k21, (fun _ => rfl), k23, k24, k25, k26, k27⟩
        simp only [putAll, List.setIfInBounds_toArray, List.set_cons_succ, List.set_cons_zero] <;> rfl
      · have e21 := k21 (hdep 21 (by kernel_rfl))
        subst e21
        have e22 := k22 (hdep 22 (by kernel_rfl))
        subst e22
        have q1 : (e6 : Int) < (s.size : Int) := by omega
        refine wpOp_step (by simp only [List.getElem?_toArray, List.getElem?_cons_succ, List.getElem?_cons_zero]; rfl) (fun K hK => ?_)
        go_simp
        refine hK _ _ ⟨[v28, v29, v30, v31, v32, v33, v34, v35, v36, v37, v38, v39, v40, v41, v42, v43, v44, v45, v46, v47, v48, .string s, .int .i64 (e6 : Int), .int .u8 ((bAt s e6 : Nat) : Int), v52, v53, v6], ?_, _, _, _, _, _, _, _, _, _, _, _, _, _, _, _, _, _, _, _, _, _, _, _, _, _, _, _, rfl, hb, k0, k1, k2, k3, k4, k5, k6, k7, k8, k9, k10, k11, k12, k13, k14, k15, k16, k17, k18, k19, k20, (fun _ => rfl), (fun _ => rfl), (fun _ => rfl), k24, k25, k26, k27⟩
        simp only [putAll, List.setIfInBounds_toArray, List.set_cons_succ, List.set_cons_zero] <;> rfl
      · have e23 := k23 (hdep 23 (by kernel_rfl))
        subst e23
        refine wpOp_step (by simp only [List.getElem?_toArray, List.getElem?_cons_succ, List.getElem?_cons_zero]; rfl) (fun K hK => ?_)
        go_simp
        refine hK _ _ ⟨[v28, v29, v30, v31, v32, v33, v34, v35, v36, v37, v38, v39, v40, v41, v42, v43, v44, v45, v46, v47, v48, v49, v50, .int .u8 ((bAt s e6 : Nat) : Int), .bool qb, v53, v6], ?_, _, _, _, _, _, _, _, _, _, _, _, _, _, _, _, _, _, _, _, _, _, _, _, _, _, _, _, rfl, hb, k0, k1, k2, k3, k4, k5, k6, k7, k8, k9, k10, k11, k12, k13, k14, k15, k16, k17, k18, k19, k20, k21, k22, (fun _ => rfl), (fun _ => rfl), k25, k26, k27⟩
        simp only [putAll, List.setIfInBounds_toArray, List.set_cons_succ, List.set_cons_zero] <;> rfl
      · have e6 := k6 (hdep 6 (by kernel_rfl))
        subst e6
        have e10 := k10 (hdep 10 (by kernel_rfl))
        subst e10
        have e14 := k14 (hdep 14 (by kernel_rfl))
        subst e14
        have e17 := k17 (hdep 17 (by kernel_rfl))
        subst e17
        have e20 := k20 (hdep 20 (by kernel_rfl))
        subst e20
        have e24 := k24 (hdep 24 (by kernel_rfl))
        subst e24
        refine wpOp_step (by simp only [List.getElem?_toArray, List.getElem?_cons_succ, List.getElem?_cons_zero]; rfl) (fun K hK => ?_)
        go_simp
        refine hK _ _ ⟨[v28, v29, v30, v31, v32, v33, .agg #[.int .i64 (a : Int), .int .i64 (b : Int)], v35, v36, v37, .int .i64 ((c : Int) - 1), v39, v40, v41, .int .i64 ((d : Int) - 1), v43, v44, .int .i64 (u : Int), v46, v47, .int .i64 (v : Int), v49, v50, v51, .bool qb, .agg #[.int .i64 (a : Int), .int .i64 (b : Int), .int .i64 ((c : Int) - 1), .int .i64 ((d : Int) - 1), .int .i64 (u : Int), .int .i64 0, .int .i64 0, .int .i64 0, .string ⟨#[]⟩, .string ⟨#[]⟩, .string ⟨#[]⟩, .int .i64 0, .slice none 0 0, .int .i64 (v : Int), .slice none 0 0, .bool qb], v6], ?_, _, _, _, _, _, _, _, _, _, _, _, _, _, _, _, _, _, _, _, _, _, _, _, _, _, _, _, rfl, hb, k0, k1, k2, k3, k4, k5, (fun _ => rfl), k7, k8, k9, (fun _ => rfl), k11, k12, k13, (fun _ => rfl), k15, k16, (fun _ => rfl), k18, k19, (fun _ => rfl), k21, k22, k23, (fun _ => rfl), (fun _ => rfl), k26, k27⟩
        simp only [putAll, List.setIfInBounds_toArray, List.set_cons_succ, List.set_cons_zero] <;> rfl
      · have hal := (Below.refl w'.heap.size w').alloc (Nat.le_refl _) (.cells #[.int .i64 0, .int .i64 0, .int .i64 0, .int .i64 0, .int .i64 0, .int .i64 0, .int .i64 0, .int .i64 0, .string ⟨#[]⟩, .string ⟨#[]⟩, .string ⟨#[]⟩, .int .i64 0, .slice none 0 0, .int .i64 0, .slice none 0 0, .bool false] 50)
        refine wpOp_step (by simp only [List.getElem?_toArray, List.getElem?_cons_succ, List.getElem?_cons_zero]; rfl) (fun K hK => ?_)
        go_simp
        refine hK _ _ ⟨[v28, v29, v30, v31, v32, v33, v34, v35, v36, v37, v38, v39, v40, v41, v42, v43, v44, v45, v46, v47, v48, v49, v50, v51, v52, v53, .pointer (some ⟨w'.heap.size, 0, none⟩)], ?_, _, _, _, _, _, _, _, _, _, _, _, _, _, _, _, _, _, _, _, _, _, _, _, _, _, _, _, rfl, (bthen hb hal), k0, k1, k2, k3, k4, k5, k6, k7, k8, k9, k10, k11, k12, k13, k14, k15, k16, k17, k18, k19, k20, k21, k22, k23, k24, k25, (fun _ => ⟨_, rfl, hb.size, fun _ => BoxL.new _ _ _⟩), (fun h => absurd (hcl 27 26 (by simpa using h) (by kernel_rfl)) (by rw [hD]; simp))⟩
        simp only [putAll, List.setIfInBounds_toArray, List.set_cons_succ, List.set_cons_zero] <;> rfl
      · have e25 := k25 (hdep 25 (by kernel_rfl))
        subst e25
        obtain ⟨h, rfl, hh, hbx⟩ := k26 (hdep 26 (by kernel_rfl))
        refine wpOp_step (by simp only [List.getElem?_toArray, List.getElem?_cons_succ, List.getElem?_cons_zero]; rfl) (fun K hK => ?_)
        refine wp_store_mid 50 (.tmp 6) (.tmp 53) rfl h 0 #[.int .i64 (a : Int), .int .i64 (b : Int), .int .i64 ((c : Int) - 1), .int .i64 ((d : Int) - 1), .int .i64 (u : Int), .int .i64 0, .int .i64 0, .int .i64 0, .string ⟨#[]⟩, .string ⟨#[]⟩, .string ⟨#[]⟩, .int .i64 0, .slice none 0 0, .int .i64 (v : Int), .slice none 0 0, .bool qb] rfl rfl ((hbx hD).there rfl) sizeInst hOneC ?_
        refine hK _ _ ⟨[v28, v29, v30, v31, v32, v33, v34, v35, v36, v37, v38, v39, v40, v41, v42, v43, v44, v45, v46, v47, v48, v49, v50, v51, v52, .agg #[.int .i64 (a : Int), .int .i64 (b : Int), .int .i64 ((c : Int) - 1), .int .i64 ((d : Int) - 1), .int .i64 (u : Int), .int .i64 0, .int .i64 0, .int .i64 0, .string ⟨#[]⟩, .string ⟨#[]⟩, .string ⟨#[]⟩, .int .i64 0, .slice none 0 0, .int .i64 (v : Int), .slice none 0 0, .bool qb], .pointer (some ⟨h, 0, none⟩)], ?_, _, _, _, _, _, _, _, _, _, _, _, _, _, _, _, _, _, _, _, _, _, _, _, _, _, _, _, rfl, ((ch_setCells (g := h) _ 0 _).belowB hb hb.size (fun k hk => by have hk : k = h := hk; omega)), k0, k1, k2, k3, k4, k5, k6, k7, k8, k9, k10, k11, k12, k13, k14, k15, k16, k17, k18, k19, k20, k21, k22, k23, k24, (fun _ => rfl), (fun _ => ⟨h, rfl, hh, fun h' => absurd h' (by simp)⟩), (fun _ => ⟨h, rfl, hh, (hbx hD).setCells rfl⟩)⟩
        simp only [Act.put, putAll, List.setIfInBounds_toArray, List.set_cons_succ, List.set_cons_zero] <;> rfl
    · intro D vs w' hD hI
      obtain ⟨v28, v29, v30, v31, v32, v33, v34, v35, v36, v37, v38, v39, v40, v41, v42, v43, v44, v45, v46, v47, v48, v49, v50, v51, v52, v53, v6, rfl, hb, k0, k1, k2, k3, k4, k5, k6, k7, k8, k9, k10, k11, k12, k13, k14, k15, k16, k17, k18, k19, k20, k21, k22, k23, k24, k25, k26, k27⟩ := hI
      simp only [putAll, List.setIfInBounds_toArray, List.set_cons_succ, List.set_cons_zero]
      obtain ⟨h, rfl, hh, C⟩ := k27 (hD 27 (show 27 < 28 by decide))
      clear hD hqb hbt hOneC
      obtain ⟨W, hW⟩ : ∃ W, W = w' := ⟨_, rfl⟩
      subst hW
      have hws1 : w.heap.size < w1.heap.size := R.lt
      have R' := R.keep hb; clear R; have R := R'; clear R'
      have B' := bthen B hb; clear B; have B := B'; clear B'
      have hwh : w.heap.size < h := by omega
      have hhW : h < W.heap.size := C.lt
      clear l0 l1 l2 l3 l4 l5
      have hk2 := tkF_in s ((e6 : Int) + 1)
      go_wp2_with fail
      refine (l4Take_spec s ((e6 : Int) + 1) _ hB1 (by omega) (by omega)).mono ?_
      rintro e w2 ⟨rfl, hb2⟩
      have R' := R.keep hb2; clear R; have R := R'; clear R'
      have B' := bthen B hb2; clear B; have B := B'; clear B'
      have C' := C.keep hb2; clear C; have C := C'; clear C'
      obtain ⟨⟨t1, p2⟩, f2⟩ : ∃ r, tkF s ((e6 : Int) + 1) = r := ⟨_, rfl⟩
      rw [f2] at hk2 ⊢
      simp only at hk2
      have f2' : tkF s ((e6 + 1 : Nat) : Int) = (t1, p2) := f2
      have hin5 := vsF_in s 1 [] p2 (by omega) (by omega) (fun _ h => by cases h)
      have hcase := vs1 s p2
      go_wp2_with fail
      refine (l4Vars_spec s p2 1 _ hB1 (by omega) (by omega) (by omega)).mono ?_
      rintro e w3 ⟨⟨A5, kp5, rfl, row5⟩, hb3⟩
      have R' := R.keep hb3; clear R; have R := R'; clear R'
      have B' := bthen B hb3; clear B; have B := B'; clear B'
      have C' := C.keep hb3; clear C; have C := C'; clear C'
      obtain ⟨⟨L5, p5⟩, f5⟩ : ∃ r, vsF s 1 ([], p2) = r := ⟨_, rfl⟩
      rw [f5] at row5 hin5 hcase ⊢
      simp only at row5 hin5
      rcases hcase with hcase | ⟨m, e8, hcase, hm, he8⟩
      · simp only [Prod.mk.injEq] at hcase
        obtain ⟨hL5, hp5⟩ := hcase
        have hneg5 : p5 < 0 := by omega
        have HN := NO (fun x h1 h2 => by
          obtain ⟨g6, g8, g9, q1, _, _, q2, q3, _⟩ := ins_parseS h1 h2
          rw [f1] at q1; simp only [Prod.mk.injEq, Int.natCast_inj] at q1; obtain ⟨_, rfl⟩ := q1
          rw [f2'] at q2; simp only [Prod.mk.injEq] at q2; obtain ⟨_, rfl⟩ := q2
          rw [f5] at q3; simp only [Prod.mk.injEq] at q3; omega)
        clear NO f1 f2 f2' f5 row5 hin5 hL5 hp5 C
        have hRt := R.there (n := 16) rfl
        obtain ⟨WF, hWF⟩ : ∃ W, W = w3.setCells w.heap.size 0 (#[.int .i64 0, .int .i64 0, .int .i64 0, .int .i64 0, .int .i64 0, .int .i64 0, .int .i64 0, .int .i64 0, .string ⟨#[]⟩, .string ⟨#[]⟩, .string ⟨#[]⟩, .int .i64 0, .slice none 0 0, .int .i64 0, .slice none 0 0, .bool false] : Array Value).toList := ⟨_, rfl⟩
        have cF : Ch (fun b => b = w.heap.size) w3 WF := by rw [hWF]; exact ch_setCells _ _ _
        have RF : BoxL WF w.heap.size [.int .i64 0, .int .i64 0, .int .i64 0, .int .i64 0, .int .i64 0, .int .i64 0, .int .i64 0, .int .i64 0, .string ⟨#[]⟩, .string ⟨#[]⟩, .string ⟨#[]⟩, .int .i64 0, .slice none 0 0, .int .i64 0, .slice none 0 0, .bool false] := by rw [hWF]; exact R.setCells rfl
        have hWr := RF.range
        have hgs : w.heap.size < w3.heap.size := R.lt
        have hBF : Below w.heap.size w WF := cF.belowB B (by omega) (fun k hk => by have hk : k = _ := hk; omega)
        have HWF := Lib.hid hWF; clear hWF cF RF R
        repeat (first | ((with_reducible refine wpList_store_mid ?_ 50 (.tmp 2) (.tmp 75) ?_ w.heap.size 0 #[.int .i64 0, .int .i64 0, .int .i64 0, .int .i64 0, .int .i64 0, .int .i64 0, .int .i64 0, .int .i64 0, .string ⟨#[]⟩, .string ⟨#[]⟩, .string ⟨#[]⟩, .int .i64 0, .slice none 0 0, .int .i64 0, .slice none 0 0, .bool false] ?_ ?_ ?_ ?_ zOne16 ?_); all_goals (first | rw [← HWF.out] | exact hRt | exact sizeInst | rfl)) | go_values | go_skip | go_guarded | go_step | go_upon | (simp only []; go_at_K))
        try simp only [Exit.inBlock, Exit.then]
        refine bodyPost_ret (results_cell_tmp Try.results28 rfl hWr Try.underlying50 rfl sizeInst) rfl ?_
        rw [HN.out.1, HN.out.2]
        exact ⟨⟨none, 0, 0, none, 0, 0, [], [], rfl, StrO.nil, RowO.nil, List.nodup_nil, fun b hb => by cases hb⟩, hBF⟩
      · simp only [Prod.mk.injEq] at hcase
        obtain ⟨rfl, rfl⟩ := hcase
        obtain ⟨g5, hA5, hg5, hg5w, hc5⟩ := rowCell row5 (by simp)
        subst hA5
        have m0 : w3.cell? ⟨g5, 0, none⟩ = some (.int .i64 (m : Int)) := hc5 0 _ rfl
        clear hc5 row5 hin5
        have hng8 : ¬ ((e8 : Int) < 0) := by omega
        by_cases hm18 : 18 < m
        · have HN := NO (fun x h1 h2 => by
            obtain ⟨g6, g8, g9, q1, _, _, q2, q3, _⟩ := ins_parseS h1 h2
            have hl := (insOk_bd h1).len
            rw [f1] at q1; simp only [Prod.mk.injEq, Int.natCast_inj] at q1; obtain ⟨_, rfl⟩ := q1
            rw [f2'] at q2; simp only [Prod.mk.injEq] at q2; obtain ⟨_, rfl⟩ := q2
            rw [f5] at q3; simp only [Prod.mk.injEq, List.cons.injEq, and_true] at q3; omega)
          have h18 : (18 : Int) < (m : Int) := by omega
          clear NO f1 f2 f2' f5 C
          have hRt := R.there (n := 16) rfl
          obtain ⟨WF, hWF⟩ : ∃ W, W = w3.setCells w.heap.size 0 (#[.int .i64 0, .int .i64 0, .int .i64 0, .int .i64 0, .int .i64 0, .int .i64 0, .int .i64 0, .int .i64 0, .string ⟨#[]⟩, .string ⟨#[]⟩, .string ⟨#[]⟩, .int .i64 0, .slice none 0 0, .int .i64 0, .slice none 0 0, .bool false] : Array Value).toList := ⟨_, rfl⟩
          have cF : Ch (fun b => b = w.heap.size) w3 WF := by rw [hWF]; exact ch_setCells _ _ _
          have RF : BoxL WF w.heap.size [.int .i64 0, .int .i64 0, .int .i64 0, .int .i64 0, .int .i64 0, .int .i64 0, .int .i64 0, .int .i64 0, .string ⟨#[]⟩, .string ⟨#[]⟩, .string ⟨#[]⟩, .int .i64 0, .slice none 0 0, .int .i64 0, .slice none 0 0, .bool false] := by rw [hWF]; exact R.setCells rfl
          have hWr := RF.range
          have hgs : w.heap.size < w3.heap.size := R.lt
          have hBF : Below w.heap.size w WF := cF.belowB B (by omega) (fun k hk => by have hk : k = _ := hk; omega)
          have HWF := Lib.hid hWF; clear hWF cF RF R
          repeat (first | ((with_reducible refine wpList_store_mid ?_ 50 (.tmp 2) (.tmp 75) ?_ w.heap.size 0 #[.int .i64 0, .int .i64 0, .int .i64 0, .int .i64 0, .int .i64 0, .int .i64 0, .int .i64 0, .int .i64 0, .string ⟨#[]⟩, .string ⟨#[]⟩, .string ⟨#[]⟩, .int .i64 0, .slice none 0 0, .int .i64 0, .slice none 0 0, .bool false] ?_ ?_ ?_ ?_ zOne16 ?_); all_goals (first | rw [← HWF.out] | exact hRt | exact sizeInst | rfl)) | go_values | go_skip | go_guarded | go_step | go_upon | (simp only []; go_at_K))
          try simp only [Exit.inBlock, Exit.then]
          refine bodyPost_ret (results_cell_tmp Try.results28 rfl hWr Try.underlying50 rfl sizeInst) rfl ?_
          rw [HN.out.1, HN.out.2]
          exact ⟨⟨none, 0, 0, none, 0, 0, [], [], rfl, StrO.nil, RowO.nil, List.nodup_nil, fun b hb => by cases hb⟩, hBF⟩
        · have h18 : ¬ ((18 : Int) < (m : Int)) := by omega
          go_wp2_with fail
          refine (readCmd_spec t1 _ (by omega)).mono ?_
          rintro e w4 ⟨⟨A1, n1, c1, fc, rfl, O, hN1, hOb⟩, hb4⟩
          have R' := R.keep hb4; clear R; have R := R'; clear R'
          have B' := bthen B hb4; clear B; have B := B'; clear B'
          have C' := C.keep hb4; clear C; have C := C'; clear C'
          have m0' := keep_cell hb4 m0; clear m0; have m0 := m0'; clear m0'
          have hcB := ins_noBd t1
          obtain ⟨xc, hxc⟩ : ∃ x, rdCm t1 = x := ⟨_, rfl⟩
          obtain ⟨bc, hbc⟩ : ∃ x, rdCmB t1 = x := ⟨_, rfl⟩
          rw [hxc] at O hcB ⊢
          rw [hbc]
          have HXC := Lib.hid hxc; clear hxc hbc
          unfold cmV
          have e5_ := C.cell 5 _ rfl
          have y5_ := C.fz 5 (by simp)
          have e6_ := C.cell 6 _ rfl
          have y6_ := C.fz 6 (by simp)
          have e7_ := C.cell 7 _ rfl
          have y7_ := C.fz 7 (by simp)
          have e8_ := C.cell 8 _ rfl
          have y8_ := C.fz 8 (by simp)
          have e9_ := C.cell 9 _ rfl
          have y9_ := C.fz 9 (by simp)
          have e10_ := C.cell 10 _ rfl
          have y10_ := C.fz 10 (by simp)
          have e11_ := C.cell 11 _ rfl
          have y11_ := C.fz 11 (by simp)
          have e12_ := C.cell 12 _ rfl
          have y12_ := C.fz 12 (by simp)
          have hCL := C.lt
          go_wp2
          obtain ⟨WS, hWS⟩ : ∃ W, W = ((((((((w4.setCell ⟨h, 5, none⟩ (.int .i64 xc.kd)).setCell ⟨h, 6, none⟩ (.int .i64 xc.cl)).setCell ⟨h, 7, none⟩ (.int .i64 xc.no)).setCell ⟨h, 8, none⟩ (.string xc.s)).setCell ⟨h, 9, none⟩ (.string xc.nm)).setCell ⟨h, 10, none⟩ (.string xc.tg)).setCell ⟨h, 11, none⟩ (.int .i64 xc.n)).setCell ⟨h, 12, none⟩ (.slice A1 n1 c1)) := ⟨_, rfl⟩
          rw [← hWS]
          have dC : Ch (fun k => k = h) w4 WS := by rw [hWS]; exact (((((((Ch.set).trans Ch.set).trans Ch.set).trans Ch.set).trans Ch.set).trans Ch.set).trans Ch.set).trans Ch.set
          have C' : BoxL WS h [.int .i64 (a : Int), .int .i64 (b : Int), .int .i64 ((c : Int) - 1), .int .i64 ((d : Int) - 1), .int .i64 (u : Int), .int .i64 xc.kd, .int .i64 xc.cl, .int .i64 xc.no, .string xc.s, .string xc.nm, .string xc.tg, .int .i64 xc.n, .slice A1 n1 c1, .int .i64 (v : Int), .slice none 0 0, .bool qb] := by rw [hWS]; exact ((((((((C.set (j := 5) (v := .int .i64 xc.kd) (by simp)).set (j := 6) (v := .int .i64 xc.cl) (by simp)).set (j := 7) (v := .int .i64 xc.no) (by simp)).set (j := 8) (v := .string xc.s) (by simp)).set (j := 9) (v := .string xc.nm) (by simp)).set (j := 10) (v := .string xc.tg) (by simp)).set (j := 11) (v := .int .i64 xc.n) (by simp)).set (j := 12) (v := .slice A1 n1 c1) (by simp))
          clear C hWS e5_ y5_ e6_ y6_ e7_ y7_ e8_ y8_ e9_ y9_ e10_ y10_ e11_ y11_ e12_ y12_
          have C := C'; clear C'
          have hOl := O.lt
          have hzW4 : W.heap.size ≤ w3.heap.size := Nat.le_trans hb2.size hb3.size
          have R' := R.ch dC (ne_blk (by omega)); clear R; have R := R'; clear R'
          have B' := dC.belowB B (by omega) (fun k hk => by have hk : k = h := hk; omega); clear B; have B := B'; clear B'
          have O' := O.ch dC (fun b hb h2 => by have h2 : b = h := h2; have := hOb b hb; omega); clear O; have O := O'; clear O'
          have hzW2 := hb2.size
          have hg5h : g5 ≠ h := by omega
          have m1 : WS.cell? ⟨g5, 0, none⟩ = some (.int .i64 (m : Int)) := dC.cell m0 (ne_blk hg5h)
          clear m0
          have hdz := dC.size
          have alc := (Below.refl WS.heap.size WS).alloc (Nat.le_refl _) (.cells #[.int .i64 xc.kd, .int .i64 xc.cl, .int .i64 xc.no, .string xc.s, .string xc.nm, .string xc.tg, .int .i64 xc.n, .slice A1 n1 c1] 47)
          obtain ⟨WA, hWA⟩ : ∃ W, W = WS.alloc (.cells #[.int .i64 xc.kd, .int .i64 xc.cl, .int .i64 xc.no, .string xc.s, .string xc.nm, .string xc.tg, .int .i64 xc.n, .slice A1 n1 c1] 47) := ⟨_, rfl⟩
          rw [← hWA] at alc ⊢
          have R' := R.keep alc; clear R; have R := R'; clear R'
          have C' := C.keep alc; clear C; have C := C'; clear C'
          have B' := bthen B alc; clear B; have B := B'; clear B'
          have O' := O.keep alc; clear O; have O := O'; clear O'
          have m1' := keep_cell alc m1; clear m1; have m1 := m1'; clear m1'
          clear hWA dC
          have hzA := alc.size
          have hOw : ∀ b ∈ fc, b < WA.heap.size := fun b hb => by have := hOb b hb; omega
          have hhA : h < WA.heap.size := C.lt
          have hgA : g5 < WA.heap.size := cell_lt m1
          have hwA : w.heap.size < WA.heap.size := R.lt
          have J0 := Lib.hid (InK.start f1 HQB.out f2' f5)
          clear f1 f2 f2' f5 alc hdz hOl
          go_loopw [5, 11] (fun at_ i wr => ∃ (ds : List Idd) (p : Int) (A2 : Option Addr) (cap : Nat), at_ = .int .i64 p ∧ i = .int .i64 (ds.length : Nat) ∧ ds.length ≤ m ∧ InK s a b c d u v qb t1 m ds p ∧ -1 ≤ p ∧ p ≤ s.size ∧ BoxL wr w.heap.size [.int .i64 0, .int .i64 0, .int .i64 0, .int .i64 0, .int .i64 0, .int .i64 0, .int .i64 0, .int .i64 0, .string ⟨#[]⟩, .string ⟨#[]⟩, .string ⟨#[]⟩, .int .i64 0, .slice none 0 0, .int .i64 0, .slice none 0 0, .bool false] ∧ BoxL wr h [.int .i64 (a : Int), .int .i64 (b : Int), .int .i64 ((c : Int) - 1), .int .i64 ((d : Int) - 1), .int .i64 (u : Int), .int .i64 xc.kd, .int .i64 xc.cl, .int .i64 xc.no, .string xc.s, .string xc.nm, .string xc.tg, .int .i64 xc.n, .slice A1 n1 c1, .int .i64 (v : Int), .slice A2 ds.length cap, .bool qb] ∧ wr.cell? ⟨g5, 0, none⟩ = some (.int .i64 (m : Int)) ∧ StrO fc wr A1 n1 c1 xc.ch ∧ wr.ownsRow WA.heap.size 46 2 (.slice A2 ds.length cap) ds.length (ds.map iddL).flatten ∧ Below w.heap.size w wr ∧ WA.heap.size ≤ wr.heap.size) (fun _ i _ => m - (intOf i).toNat)
          case atStart => exact ⟨[], (e8 : Int), none, 0, rfl, by simp, Nat.zero_le _, J0.out, by omega, by omega, R, C, m1, O, by simpa using World.ownsRow_nil _ _ _ _, B, Nat.le_refl _⟩
          case round =>
            clear R C m1 B O J0
            obtain ⟨ds, p, A2, cap, rfl, rfl, hl, hj, hp1, hp2, R, C, m1, O, own, B, hzW⟩ := hrel
            have HJ := Lib.hid hj; clear hj
            by_cases hlt : ds.length < m
            · have ilt : (ds.length : Int) < (m : Int) := by omega
              have hl18 : ds.length < 18 := by omega
              have hin6 := vsF_in s 2 [] p (by omega) (by omega) (fun _ h => by cases h)
              have hln6 := vsF_len s 2 [] p
              go_wp2_with fail
              refine (l4Vars_spec s p 2 _ hB1 (by omega) (by omega) (by omega)).mono ?_
              rintro e w6 ⟨⟨A6, kp6, rfl, row6⟩, hb6⟩
              have R' := R.keep hb6; clear R; have R := R'; clear R'
              have C' := C.keep hb6; clear C; have C := C'; clear C'
              have B' := bthen B hb6; clear B; have B := B'; clear B'
              have O' := O.keep hb6; clear O; have O := O'; clear O'
              have m1' := keep_cell hb6 m1; clear m1; have m1 := m1'; clear m1'
              have own' := own_chL own (Ch.of_below (S := fun _ => False) hb6) (fun _ _ h => h); clear own; have own := own'; clear own'
              have hz6 := Nat.le_trans hzW hb6.size
              obtain ⟨⟨L6, p6⟩, f6⟩ : ∃ r, vsF s 2 ([], p) = r := ⟨_, rfl⟩
              rw [f6] at row6 hin6 hln6 ⊢; simp only at row6 hin6 hln6
              by_cases hneg6 : p6 < 0
              · have HN := Lib.hid (rdIn_no (HJ.out.no hlt f6 hneg6))
                clear HJ f6 row6 hin6 hln6 C own O m1
                have hRt := R.there (n := 16) rfl
                obtain ⟨WF, hWF⟩ : ∃ W, W = w6.setCells w.heap.size 0 (#[.int .i64 0, .int .i64 0, .int .i64 0, .int .i64 0, .int .i64 0, .int .i64 0, .int .i64 0, .int .i64 0, .string ⟨#[]⟩, .string ⟨#[]⟩, .string ⟨#[]⟩, .int .i64 0, .slice none 0 0, .int .i64 0, .slice none 0 0, .bool false] : Array Value).toList := ⟨_, rfl⟩
                have cF : Ch (fun b => b = w.heap.size) w6 WF := by rw [hWF]; exact ch_setCells _ _ _
                have RF : BoxL WF w.heap.size [.int .i64 0, .int .i64 0, .int .i64 0, .int .i64 0, .int .i64 0, .int .i64 0, .int .i64 0, .int .i64 0, .string ⟨#[]⟩, .string ⟨#[]⟩, .string ⟨#[]⟩, .int .i64 0, .slice none 0 0, .int .i64 0, .slice none 0 0, .bool false] := by rw [hWF]; exact R.setCells rfl
                have hWr := RF.range
                have hgs : w.heap.size < w6.heap.size := R.lt
                have hBF : Below w.heap.size w WF := cF.belowB B (by omega) (fun k hk => by have hk : k = _ := hk; omega)
                have HWF := Lib.hid hWF; clear hWF cF RF R
                repeat (first | ((with_reducible refine wpList_store_mid ?_ 50 (.tmp 2) (.tmp 98) ?_ w.heap.size 0 #[.int .i64 0, .int .i64 0, .int .i64 0, .int .i64 0, .int .i64 0, .int .i64 0, .int .i64 0, .int .i64 0, .string ⟨#[]⟩, .string ⟨#[]⟩, .string ⟨#[]⟩, .int .i64 0, .slice none 0 0, .int .i64 0, .slice none 0 0, .bool false] ?_ ?_ ?_ ?_ zOne16 ?_); all_goals (first | rw [← HWF.out] | exact hRt | exact sizeInst | rfl)) | go_values | go_skip | go_guarded | go_step | go_upon | (simp only []; go_at_K))
                try simp only [Exit.inBlock, Exit.then]
                refine bodyPost_ret (results_cell_tmp Try.results28 rfl hWr Try.underlying50 rfl sizeInst) rfl ?_
                rw [HN.out.1, HN.out.2]
                exact ⟨⟨none, 0, 0, none, 0, 0, [], [], rfl, StrO.nil, RowO.nil, List.nodup_nil, fun b hb => by cases hb⟩, hBF⟩
              · obtain ⟨e9, rfl⟩ : ∃ e : Nat, p6 = e := ⟨p6.toNat, by omega⟩
                have hl6 := hln6 (by omega)
                obtain ⟨ra, rb, rfl⟩ : ∃ a b, L6 = [a, b] := by
                  match L6, hl6 with
                  | [a, b], _ => exact ⟨a, b, rfl⟩
                have hra := hin6.2.2 ra (by simp); have hrb := hin6.2.2 rb (by simp)
                have he9 : e9 ≤ s.size := by omega
                have hng9 : ¬ ((e9 : Int) < 0) := by omega
                obtain ⟨g6, hA6, hg6, hg6w, hc6⟩ := rowCell row6 (by simp)
                subst hA6
                have n0 : w6.cell? ⟨g6, 0, none⟩ = some (.int .i64 (ra : Int)) := hc6 0 _ rfl
                have n1_ : w6.cell? ⟨g6, 1, none⟩ = some (.int .i64 (rb : Int)) := hc6 1 _ rfl
                have J2 := Lib.hid (HJ.out.step hlt f6)
                clear HJ f6 hc6 row6 hin6 hln6 hl6 hneg6
                have hhw : h < w6.heap.size := C.lt
                go_wp2
                refine wp_region_dagb [99, 100, 101, 102, 103, 104, 105, 106, 107, 108, 109, 110] (by kernel_rfl) (by kernel_rfl) (fun D vs w' => ∃ v99 v100 v101 v102 v103 v104 v105 v106 v107 v108 v109 v110 : Value, vs = [v99, v100, v101, v102, v103, v104, v105, v106, v107, v108, v109, v110] ∧ Below w.heap.size w w' ∧ BoxL w' w.heap.size [.int .i64 0, .int .i64 0, .int .i64 0, .int .i64 0, .int .i64 0, .int .i64 0, .int .i64 0, .int .i64 0, .string ⟨#[]⟩, .string ⟨#[]⟩, .string ⟨#[]⟩, .int .i64 0, .slice none 0 0, .int .i64 0, .slice none 0 0, .bool false] ∧ w'.cell? ⟨g5, 0, none⟩ = some (.int .i64 (m : Int)) ∧ StrO fc w' A1 n1 c1 xc.ch ∧ WA.heap.size ≤ w'.heap.size ∧ (D 10 = false → w'.cell? ⟨g6, 0, none⟩ = some (.int .i64 (ra : Int))) ∧ (D 10 = false → w'.cell? ⟨g6, 1, none⟩ = some (.int .i64 (rb : Int))) ∧ (D 12 = false → BoxL w' h [.int .i64 (a : Int), .int .i64 (b : Int), .int .i64 ((c : Int) - 1), .int .i64 ((d : Int) - 1), .int .i64 (u : Int), .int .i64 xc.kd, .int .i64 xc.cl, .int .i64 xc.no, .string xc.s, .string xc.nm, .string xc.tg, .int .i64 xc.n, .slice A1 n1 c1, .int .i64 (v : Int), .slice A2 ds.length cap, .bool qb]) ∧ (D 10 = false → w'.ownsRow WA.heap.size 46 2 (.slice A2 ds.length cap) ds.length (ds.map iddL).flatten) ∧ (D 0 = true → v99 = .pointer (some ⟨h, 14, none⟩)) ∧ (D 1 = true → v100 = .slice A2 ds.length cap) ∧ (D 2 = true → v101 = .slice (some ⟨g6, 0, none⟩) 2 kp6) ∧ (D 3 = true → v102 = .pointer (some ⟨g6, 0, none⟩)) ∧ (D 4 = true → v103 = .int .i64 (ra : Int)) ∧ (D 5 = true → v104 = .slice (some ⟨g6, 0, none⟩) 2 kp6) ∧ (D 6 = true → v105 = .pointer (some ⟨g6, 1, none⟩)) ∧ (D 7 = true → v106 = .int .i64 (rb : Int)) ∧ (D 8 = true → v107 = .agg #[.int .i64 (ra : Int), .int .i64 (rb : Int)]) ∧ (D 9 = true → ∃ gb : Nat, v108 = .slice (some ⟨gb, 0, none⟩) 1 1 ∧ (D 10 = false → CellsAt w' (some ⟨gb, 0, none⟩) 1 2 [.int .i64 (ra : Int), .int .i64 (rb : Int)])) ∧ (D 10 = true → ∃ (A' : Option Addr) (c' : Nat), v109 = .slice A' (ds.length + 1) c' ∧ w'.ownsRow WA.heap.size 46 2 (.slice A' (ds.length + 1) c') (ds.length + 1) ((ds.map iddL).flatten ++ [.int .i64 (ra : Int), .int .i64 (rb : Int)])) ∧ (D 11 = true → v110 = .pointer (some ⟨h, 14, none⟩)) ∧ (D 12 = true → ∃ (A' : Option Addr) (c' : Nat), BoxL w' h [.int .i64 (a : Int), .int .i64 (b : Int), .int .i64 ((c : Int) - 1), .int .i64 ((d : Int) - 1), .int .i64 (u : Int), .int .i64 xc.kd, .int .i64 xc.cl, .int .i64 xc.no, .string xc.s, .string xc.nm, .string xc.tg, .int .i64 xc.n, .slice A1 n1 c1, .int .i64 (v : Int), .slice A' (ds.length + 1) c', .bool qb] ∧ w'.ownsRow WA.heap.size 46 2 (.slice A' (ds.length + 1) c') (ds.length + 1) ((ds.map iddL).flatten ++ [.int .i64 (ra : Int), .int .i64 (rb : Int)])))
                  ⟨_, _, _, _, _, _, _, _, _, _, _, _, rfl, B.drew, (R.keep (Below.refl _ _).drew), (keep_cell (Below.refl _ _).drew m1), (O.keep (Below.refl _ _).drew), (by simpa using hz6), (fun _ => keep_cell (Below.refl _ _).drew n0), (fun _ => keep_cell (Below.refl _ _).drew n1_), (fun _ => C.keep (Below.refl _ _).drew), (fun _ => own_chL own (Ch.of_below (S := fun _ => False) (Below.refl _ _).drew) (fun _ _ h => h)), (fun h => by cases h), (fun h => by cases h), (fun h => by cases h), (fun h => by cases h), (fun h => by cases h), (fun h => by cases h), (fun h => by cases h), (fun h => by cases h), (fun h => by cases h), (fun h => by cases h), (fun h => by cases h), (fun h => by cases h), (fun h => by cases h)⟩ ?_ ?_
                · intro i D vs w' hi hD hdep hcl hI
                  have hi' : i < 13 := hi
                  obtain ⟨v99, v100, v101, v102, v103, v104, v105, v106, v107, v108, v109, v110, rfl, hB, hR, hm1, hO, hz, h6a, h6b, hC, hown, k0, k1, k2, k3, k4, k5, k6, k7, k8, k9, k10, k11, k12⟩ := hI
                  simp only [putAll, List.setIfInBounds_toArray, List.set_cons_succ, List.set_cons_zero]
                  rcases (show i = 0 ∨ i = 1 ∨ i = 2 ∨ i = 3 ∨ i = 4 ∨ i = 5 ∨ i = 6 ∨ i = 7 ∨ i = 8 ∨ i = 9 ∨ i = 10 ∨ i = 11 ∨ i = 12 by omega) with rfl | rfl | rfl | rfl | rfl | rfl | rfl | rfl | rfl | rfl | rfl | rfl | rfl
                  · refine wpOp_step (by simp only [List.getElem?_toArray, List.getElem?_cons_zero]; rfl) (fun K hK => ?_)
                    go_simp
                    refine hK _ _ ⟨[.pointer (some ⟨h, 14, none⟩), v100, v101, v102, v103, v104, v105, v106, v107, v108, v109, v110], ?_, _, _, _, _, _, _, _, _, _, _, _, _, rfl, hB, hR, hm1, hO, hz, h6a, h6b, hC, hown, (fun _ => rfl), k1, k2, k3, k4, k5, k6, k7, k8, k9, k10, k11, k12⟩
                    simp only [putAll, List.setIfInBounds_toArray, List.set_cons_succ, List.set_cons_zero] <;> rfl
                  · have e0 := k0 (hdep 0 (by kernel_rfl))
                    subst e0
                    have n12 : D 12 = false := Bool.eq_false_iff.2 (fun h => absurd (hcl 10 1 (hcl 12 10 h (by kernel_rfl)) (by kernel_rfl)) (by rw [hD]; simp))
                    have q7 := (hC n12).cell 14 _ rfl
                    refine wpOp_step (by simp only [List.getElem?_toArray, List.getElem?_cons_succ, List.getElem?_cons_zero]; rfl) (fun K hK => ?_)
                    go_simp
                    refine hK _ _ ⟨[.pointer (some ⟨h, 14, none⟩), .slice A2 ds.length cap, v101, v102, v103, v104, v105, v106, v107, v108, v109, v110], ?_, _, _, _, _, _, _, _, _, _, _, _, _, rfl, hB, hR, hm1, hO, hz, h6a, h6b, hC, hown, (fun _ => rfl), (fun _ => rfl), k2, k3, k4, k5, k6, k7, k8, k9, k10, k11, k12⟩
                    simp only [putAll, List.setIfInBounds_toArray, List.set_cons_succ, List.set_cons_zero] <;> rfl
                  · refine wpOp_step (by simp only [List.getElem?_toArray, List.getElem?_cons_succ, List.getElem?_cons_zero]; rfl) (fun K hK => ?_)
                    go_simp
                    refine hK _ _ ⟨[v99, v100, .slice (some ⟨g6, 0, none⟩) 2 kp6, v102, v103, v104, v105, v106, v107, v108, v109, v110], ?_, _, _, _, _, _, _, _, _, _, _, _, _, rfl, hB, hR, hm1, hO, hz, h6a, h6b, hC, hown, k0, k1, (fun _ => rfl), k3, k4, k5, k6, k7, k8, k9, k10, k11, k12⟩
                    simp only [putAll, List.setIfInBounds_toArray, List.set_cons_succ, List.set_cons_zero] <;> rfl
                  · have e2 := k2 (hdep 2 (by kernel_rfl))
                    subst e2
                    refine wpOp_step (by simp only [List.getElem?_toArray, List.getElem?_cons_succ, List.getElem?_cons_zero]; rfl) (fun K hK => ?_)
                    go_simp
                    refine hK _ _ ⟨[v99, v100, .slice (some ⟨g6, 0, none⟩) 2 kp6, .pointer (some ⟨g6, 0, none⟩), v103, v104, v105, v106, v107, v108, v109, v110], ?_, _, _, _, _, _, _, _, _, _, _, _, _, rfl, hB, hR, hm1, hO, hz, h6a, h6b, hC, hown, k0, k1, (fun _ => rfl), (fun _ => rfl), k4, k5, k6, k7, k8, k9, k10, k11, k12⟩
                    simp only [putAll, List.setIfInBounds_toArray, List.set_cons_succ, List.set_cons_zero] <;> rfl
                  · have e3 := k3 (hdep 3 (by kernel_rfl))
                    subst e3
                    have n10 : D 10 = false := Bool.eq_false_iff.2 (fun h => absurd (hcl 8 4 (hcl 9 8 (hcl 10 9 h (by kernel_rfl)) (by kernel_rfl)) (by kernel_rfl)) (by rw [hD]; simp))
                    have q := h6a n10
                    refine wpOp_step (by simp only [List.getElem?_toArray, List.getElem?_cons_succ, List.getElem?_cons_zero]; rfl) (fun K hK => ?_)
                    go_simp
                    refine hK _ _ ⟨[v99, v100, v101, .pointer (some ⟨g6, 0, none⟩), .int .i64 (ra : Int), v104, v105, v106, v107, v108, v109, v110], ?_, _, _, _, _, _, _, _, _, _, _, _, _, rfl, hB, hR, hm1, hO, hz, h6a, h6b, hC, hown, k0, k1, k2, (fun _ => rfl), (fun _ => rfl), k5, k6, k7, k8, k9, k10, k11, k12⟩
                    simp only [putAll, List.setIfInBounds_toArray, List.set_cons_succ, List.set_cons_zero] <;> rfl
                  · refine wpOp_step (by simp only [List.getElem?_toArray, List.getElem?_cons_succ, List.getElem?_cons_zero]; rfl) (fun K hK => ?_)
                    go_simp
                    refine hK _ _ ⟨[v99, v100, v101, v102, v103, .slice (some ⟨g6, 0, none⟩) 2 kp6, v105, v106, v107, v108, v109, v110], ?_, _, _, _, _, _, _, _, _, _, _, _, _, rfl, hB, hR, hm1, hO, hz, h6a, h6b, hC, hown, k0, k1, k2, k3, k4, (fun _ => rfl), k6, k7, k8, k9, k10, k11, k12⟩
                    simp only [putAll, List.setIfInBounds_toArray, List.set_cons_succ, List.set_cons_zero] <;> rfl
                  · have e5 := k5 (hdep 5 (by kernel_rfl))
                    subst e5
                    refine wpOp_step (by simp only [List.getElem?_toArray, List.getElem?_cons_succ, List.getElem?_cons_zero]; rfl) (fun K hK => ?_)
                    go_simp
                    refine hK _ _ ⟨[v99, v100, v101, v102, v103, .slice (some ⟨g6, 0, none⟩) 2 kp6, .pointer (some ⟨g6, 1, none⟩), v106, v107, v108, v109, v110], ?_, _, _, _, _, _, _, _, _, _, _, _, _, rfl, hB, hR, hm1, hO, hz, h6a, h6b, hC, hown, k0, k1, k2, k3, k4, (fun _ => rfl), (fun _ => rfl), k7, k8, k9, k10, k11, k12⟩
                    simp only [putAll, List.setIfInBounds_toArray, List.set_cons_succ, List.set_cons_zero] <;> rfl
                  · have e6 := k6 (hdep 6 (by kernel_rfl))
                    subst e6
                    have n10 : D 10 = false := Bool.eq_false_iff.2 (fun h => absurd (hcl 8 7 (hcl 9 8 (hcl 10 9 h (by kernel_rfl)) (by kernel_rfl)) (by kernel_rfl)) (by rw [hD]; simp))
                    have q := h6b n10
                    refine wpOp_step (by simp only [List.getElem?_toArray, List.getElem?_cons_succ, List.getElem?_cons_zero]; rfl) (fun K hK => ?_)
                    go_simp
                    refine hK _ _ ⟨[v99, v100, v101, v102, v103, v104, .pointer (some ⟨g6, 1, none⟩), .int .i64 (rb : Int), v107, v108, v109, v110], ?_, _, _, _, _, _, _, _, _, _, _, _, _, rfl, hB, hR, hm1, hO, hz, h6a, h6b, hC, hown, k0, k1, k2, k3, k4, k5, (fun _ => rfl), (fun _ => rfl), k8, k9, k10, k11, k12⟩
                    simp only [putAll, List.setIfInBounds_toArray, List.set_cons_succ, List.set_cons_zero] <;> rfl
                  · have e4 := k4 (hdep 4 (by kernel_rfl))
                    subst e4
                    have e7 := k7 (hdep 7 (by kernel_rfl))
                    subst e7
                    refine wpOp_step (by simp only [List.getElem?_toArray, List.getElem?_cons_succ, List.getElem?_cons_zero]; rfl) (fun K hK => ?_)
                    go_simp
                    refine hK _ _ ⟨[v99, v100, v101, v102, .int .i64 (ra : Int), v104, v105, .int .i64 (rb : Int), .agg #[.int .i64 (ra : Int), .int .i64 (rb : Int)], v108, v109, v110], ?_, _, _, _, _, _, _, _, _, _, _, _, _, rfl, hB, hR, hm1, hO, hz, h6a, h6b, hC, hown, k0, k1, k2, k3, (fun _ => rfl), k5, k6, (fun _ => rfl), (fun _ => rfl), k9, k10, k11, k12⟩
                    simp only [putAll, List.setIfInBounds_toArray, List.set_cons_succ, List.set_cons_zero] <;> rfl
                  · have e8 := k8 (hdep 8 (by kernel_rfl))
                    subst e8
                    have n10 : D 10 = false := Bool.eq_false_iff.2 (fun h => absurd (hcl 10 9 h (by kernel_rfl)) (by rw [hD]; simp))
                    have n12 : D 12 = false := Bool.eq_false_iff.2 (fun h => absurd (hcl 10 9 (hcl 12 10 h (by kernel_rfl)) (by kernel_rfl)) (by rw [hD]; simp))
                    have hal := (Below.refl w'.heap.size w').alloc (Nat.le_refl _) (.cells #[.int .i64 (ra : Int), .int .i64 (rb : Int)] 46)
                    refine wpOp_step (by simp only [List.getElem?_toArray, List.getElem?_cons_succ, List.getElem?_cons_zero]; rfl) (fun K hK => ?_)
                    go_simp
                    refine hK _ _ ⟨[v99, v100, v101, v102, v103, v104, v105, v106, .agg #[.int .i64 (ra : Int), .int .i64 (rb : Int)], .slice (some ⟨w'.heap.size, 0, none⟩) 1 1, v109, v110], ?_, _, _, _, _, _, _, _, _, _, _, _, _, rfl, (bthen hB hal), (hR.keep hal), (keep_cell hal hm1), (hO.keep hal), (Nat.le_trans hz hal.size), (fun h' => keep_cell hal (h6a h')), (fun h' => keep_cell hal (h6b h')), (fun h' => (hC h').keep hal), (fun h' => own_chL (hown h') (Ch.of_below (S := fun _ => False) hal) (fun _ _ h => h)), k0, k1, k2, k3, k4, k5, k6, k7, (fun _ => rfl), (fun _ => ⟨_, rfl, fun _ => new1c _ [.int .i64 (ra : Int), .int .i64 (rb : Int)] 2 rfl _⟩), (fun h => by rw [show D 10 = true from by simpa using h] at n10; cases n10), k11, (fun h => by rw [show D 12 = true from by simpa using h] at n12; cases n12)⟩
                    simp only [putAll, List.setIfInBounds_toArray, List.set_cons_succ, List.set_cons_zero] <;> rfl
                  · have e1 := k1 (hdep 1 (by kernel_rfl))
                    subst e1
                    obtain ⟨gb, rfl, hcl4⟩ := k9 (hdep 9 (by kernel_rfl))
                    have n12 : D 12 = false := Bool.eq_false_iff.2 (fun h => absurd (hcl 12 10 h (by kernel_rfl)) (by rw [hD]; simp))
                    refine wpOp_step (by simp only [List.getElem?_toArray, List.getElem?_cons_succ, List.getElem?_cons_zero]; rfl) (fun K hK => ?_)
                    refine step_app (by rfl) (.tmp 100) (.tmp 108) 48 (by rfl) WA.heap.size 46 _ 2 16 Try.underlying48 infoIdV rfl (by omega) (.slice A2 ds.length cap) ds.length (ds.map iddL).flatten (by rfl) (hown hD) (some ⟨gb, 0, none⟩) 1 1 [.int .i64 (ra : Int), .int .i64 (rb : Int)] (by rfl) (hcl4 hD) (by simp [Value.oneCell']) (fun h => by cases h) (by unfold maxLen; omega) (by omega) hz ?_
                    intro A' c' wq own5 hg5q hbq hobq
                    refine hK _ _ ⟨[v99, .slice A2 ds.length cap, v101, v102, v103, v104, v105, v106, v107, .slice (some ⟨gb, 0, none⟩) 1 1, .slice A' (ds.length + 1) c', v110], ?_, _, _, _, _, _, _, _, _, _, _, _, _, rfl, (hB.trans (hbq.mono (by omega))), (hR.below hbq hwA), ((hbq.cell (p := ⟨g5, 0, none⟩) hgA).trans hm1), (hO.ch (Ch.of_grow hg5q) (fun b hb h2 => by have h3 := hOw b hb; have h4 := (own_lo (hown hD) b (mem_blkL.2 (blk_of h2))).1; omega)), (Nat.le_trans hz hbq.size), (fun h => absurd h (by simp)), (fun h => absurd h (by simp)), (fun h' => (hC h').below hbq hhA), (fun h => absurd h (by simp)), k0, (fun _ => rfl), k2, k3, k4, k5, k6, k7, k8, (fun _ => ⟨gb, rfl, fun h => absurd h (by simp)⟩), (fun _ => ⟨A', c', rfl, own5⟩), k11, (fun h => by rw [show D 12 = true from by simpa using h] at n12; cases n12)⟩
                    simp only [Act.put, putAll, List.setIfInBounds_toArray, List.set_cons_succ, List.set_cons_zero] <;> rfl
                  · refine wpOp_step (by simp only [List.getElem?_toArray, List.getElem?_cons_succ, List.getElem?_cons_zero]; rfl) (fun K hK => ?_)
                    go_simp
                    refine hK _ _ ⟨[v99, v100, v101, v102, v103, v104, v105, v106, v107, v108, v109, .pointer (some ⟨h, 14, none⟩)], ?_, _, _, _, _, _, _, _, _, _, _, _, _, rfl, hB, hR, hm1, hO, hz, h6a, h6b, hC, hown, k0, k1, k2, k3, k4, k5, k6, k7, k8, k9, k10, (fun _ => rfl), k12⟩
                    simp only [putAll, List.setIfInBounds_toArray, List.set_cons_succ, List.set_cons_zero] <;> rfl
                  · obtain ⟨A', c', rfl, own5⟩ := k10 (hdep 10 (by kernel_rfl))
                    have e11 := k11 (hdep 11 (by kernel_rfl))
                    subst e11
                    have hCn := hC hD
                    have q7 := hCn.cell 14 _ rfl
                    have y7 := hCn.fz 14 (by simp)
                    have d10 : D 10 = true := hdep 10 (by kernel_rfl)
                    have one : Ch (fun k => k = h) w' (w'.setCell ⟨h, 14, none⟩ (.slice A' (ds.length + 1) c')) := Ch.set
                    have own6 := own_chL own5 one (fun b hb h2 => by have h2 : b = h := h2; have := (own_lo own5 b hb).1; omega)
                    refine wpOp_step (by simp only [List.getElem?_toArray, List.getElem?_cons_succ, List.getElem?_cons_zero]; rfl) (fun K hK => ?_)
                    go_simp
                    refine hK _ _ ⟨[v99, v100, v101, v102, v103, v104, v105, v106, v107, v108, .slice A' (ds.length + 1) c', .pointer (some ⟨h, 14, none⟩)], ?_, _, _, _, _, _, _, _, _, _, _, _, _, rfl, (one.belowB hB (by omega) (fun k hk => by have hk : k = h := hk; omega)), (hR.ch one (ne_blk (by omega))), (one.cell hm1 (ne_blk (by omega))), (hO.ch one (fun b hb h2 => by have h2 : b = h := h2; have := hOb b hb; omega)), (Nat.le_trans hz one.size), (fun h' => by rw [show D 10 = false from by simpa using h'] at d10; cases d10), (fun h' => by rw [show D 10 = false from by simpa using h'] at d10; cases d10), (fun h => absurd h (by simp)), (fun h' => by rw [show D 10 = false from by simpa using h'] at d10; cases d10), k0, k1, k2, k3, k4, k5, k6, k7, k8, (fun _ => by obtain ⟨gb, e4, h5⟩ := k9 (hcl 10 9 d10 (by kernel_rfl)); exact ⟨gb, e4, fun h' => by rw [show D 10 = false from by simpa using h'] at d10; cases d10⟩), (fun _ => ⟨A', c', rfl, own6⟩), (fun _ => rfl), (fun _ => ⟨A', c', hCn.set (j := 14) (by simp), own6⟩)⟩
                    simp only [putAll, List.setIfInBounds_toArray, List.set_cons_succ, List.set_cons_zero] <;> rfl
                · intro D vs w' hD hI
                  obtain ⟨v99, v100, v101, v102, v103, v104, v105, v106, v107, v108, v109, v110, rfl, hB, hR, hm1, hO, hz, h6a, h6b, hC, hown, k0, k1, k2, k3, k4, k5, k6, k7, k8, k9, k10, k11, k12⟩ := hI
                  simp only [putAll, List.setIfInBounds_toArray, List.set_cons_succ, List.set_cons_zero]
                  obtain ⟨A', c', C6, own6⟩ := k12 (hD 12 (show 12 < 13 by decide))
                  clear hD hC hown h6a h6b
                  go_wp2
                  refine ⟨⟨ds ++ [⟨ra, rb⟩], (e9 : Int), A', c', rfl, by simp, by simp; omega, J2.out, by omega, by omega, hR, by simpa using C6, hm1, hO, by simpa [iddL] using own6, hB, hz⟩, by simp [intOf]; omega⟩
            · have hkm : ds.length = m := by omega
              have HR := rdi_end (bad := false) (HJ.out.end_ (by omega))
              obtain ⟨X, hX⟩ : ∃ X : Ins, X = ⟨⟨(a : Int), (b : Int)⟩, (c : Int) - 1, (d : Int) - 1, (u : Int), rdCm t1, (v : Int), ds, qb⟩ := ⟨_, rfl⟩
              rw [← hX] at HR
              rw [HXC.out] at hX
              have hXc : X.cmd = xc := by rw [hX]
              have hXd : X.deps = ds := by rw [hX]
              have hcB1 : cmB X.cmd := by rw [hXc]; exact hcB
              have hcB2 : iddsB X.deps := by rw [hXd]; unfold iddsB; omega
              have h1r : StrR wr A1 n1 c1 X.cmd.ch := by rw [hXc]; exact O.at_
              have h2r : RowR iddR 2 wr A2 ds.length cap X.deps := by rw [hXd]; exact (idd_row (own_up own (Nat.zero_le _)) rfl).at_ iddK (by omega)
              have hShow : Calls Try.prog 24 #[.agg #[.int .i64 (a : Int), .int .i64 (b : Int), .int .i64 ((c : Int) - 1), .int .i64 ((d : Int) - 1), .int .i64 (u : Int), .int .i64 xc.kd, .int .i64 xc.cl, .int .i64 xc.no, .string xc.s, .string xc.nm, .string xc.tg, .int .i64 xc.n, .slice A1 n1 c1, .int .i64 (v : Int), .slice A2 ds.length cap, .bool qb]] wr fun e w' => e = .returned (.string (insText X)) ∧ Below wr.heap.size wr w' := by
                have hcV : insV X (.slice A1 n1 c1) (.slice A2 ds.length cap) = .agg #[.int .i64 (a : Int), .int .i64 (b : Int), .int .i64 ((c : Int) - 1), .int .i64 ((d : Int) - 1), .int .i64 (u : Int), .int .i64 xc.kd, .int .i64 xc.cl, .int .i64 xc.no, .string xc.s, .string xc.nm, .string xc.tg, .int .i64 xc.n, .slice A1 n1 c1, .int .i64 (v : Int), .slice A2 ds.length cap, .bool qb] := by rw [hX]; rfl
                rw [← hcV]; exact showInst_spec X _ _ _ _ _ _ _ h1r h2r hcB1 hcB2
              clear hcB1 hcB2 h1r h2r hXc hXd
              have ilt : ¬ ((ds.length : Int) < (m : Int)) := by omega
              have HX := Lib.hid hX; clear hX hkm
              have hCr := C.range
              have hhr : h < wr.heap.size := C.lt
              repeat (first | ((with_reducible refine wpList_load_o 50 (.tmp 6) h 0 [.int .i64 (a : Int), .int .i64 (b : Int), .int .i64 ((c : Int) - 1), .int .i64 ((d : Int) - 1), .int .i64 (u : Int), .int .i64 xc.kd, .int .i64 xc.cl, .int .i64 xc.no, .string xc.s, .string xc.nm, .string xc.tg, .int .i64 xc.n, .slice A1 n1 c1, .int .i64 (v : Int), .slice A2 ds.length cap, .bool qb] _ hCr Try.underlying50 sizeInst ?_ ?_ ?_ ?_ ?_ ?_); (rfl); (rfl); (rfl); (rfl); (rfl)) | go_values | go_skip | go_guarded | go_step | go_upon | (simp only []; go_at_K))
              refine hShow.mono ?_
              rintro e w9 ⟨rfl, hb9⟩
              clear hShow hCr
              have R' := R.keep hb9; clear R; have R := R'; clear R'
              have C' := C.keep hb9; clear C; have C := C'; clear C'
              have O' := O.keep hb9; clear O; have O := O'; clear O'
              have B' := bthen B hb9; clear B; have B := B'; clear B'
              have hz9 := hb9.size
              rcases HR with ⟨_, hne, htx, hr, hrb⟩ | ⟨hbad, hr, hrb⟩
              · have g1 : ((insText X).toList == s.toList) = true := by rw [htx]; simp
                have HRR := Lib.hid hr; have HRB := Lib.hid hrb
                clear htx hr hrb hne HJ
                have hRt := R.there (n := 16) rfl
                obtain ⟨WF, hWF⟩ : ∃ W, W = w9.setCells w.heap.size 0 (#[.int .i64 (a : Int), .int .i64 (b : Int), .int .i64 ((c : Int) - 1), .int .i64 ((d : Int) - 1), .int .i64 (u : Int), .int .i64 xc.kd, .int .i64 xc.cl, .int .i64 xc.no, .string xc.s, .string xc.nm, .string xc.tg, .int .i64 xc.n, .slice A1 n1 c1, .int .i64 (v : Int), .slice A2 ds.length cap, .bool qb] : Array Value).toList := ⟨_, rfl⟩
                have cF : Ch (fun b => b = w.heap.size) w9 WF := by rw [hWF]; exact ch_setCells _ _ _
                have RF : BoxL WF w.heap.size [.int .i64 (a : Int), .int .i64 (b : Int), .int .i64 ((c : Int) - 1), .int .i64 ((d : Int) - 1), .int .i64 (u : Int), .int .i64 xc.kd, .int .i64 xc.cl, .int .i64 xc.no, .string xc.s, .string xc.nm, .string xc.tg, .int .i64 xc.n, .slice A1 n1 c1, .int .i64 (v : Int), .slice A2 ds.length cap, .bool qb] := by rw [hWF]; exact R.setCells rfl
                have hOne : (#[.int .i64 (a : Int), .int .i64 (b : Int), .int .i64 ((c : Int) - 1), .int .i64 ((d : Int) - 1), .int .i64 (u : Int), .int .i64 xc.kd, .int .i64 xc.cl, .int .i64 xc.no, .string xc.s, .string xc.nm, .string xc.tg, .int .i64 xc.n, .slice A1 n1 c1, .int .i64 (v : Int), .slice A2 ds.length cap, .bool qb] : Array Value).all (·.oneCell') = true := all_oneCell_toArray (cs := [.int .i64 (a : Int), .int .i64 (b : Int), .int .i64 ((c : Int) - 1), .int .i64 ((d : Int) - 1), .int .i64 (u : Int), .int .i64 xc.kd, .int .i64 xc.cl, .int .i64 xc.no, .string xc.s, .string xc.nm, .string xc.tg, .int .i64 xc.n, .slice A1 n1 c1, .int .i64 (v : Int), .slice A2 ds.length cap, .bool qb]) (by simp [Value.oneCell'])
                have hWr := RF.range
                have hBF : Below w.heap.size w WF := cF.belowB B (by omega) (fun k hk => by have hk : k = _ := hk; omega)
                have ho9 := own_chL own (Ch.of_below (S := fun _ => False) hb9) (fun _ _ h => h)
                have hoF := own_chL ho9 cF (fun b hb h2 => by have h2 : b = w.heap.size := h2; have := (own_lo ho9 b hb).1; omega)
                have OF := O.ch cF (fun b hb h2 => by have h2 : b = w.heap.size := h2; have := hOb b hb; omega)
                have hlo := own_lo hoF
                have hsz := cF.size
                have hCr := C.range
                have HWF := Lib.hid hWF; clear hWF cF RF R own ho9 C O
                repeat (first | ((with_reducible refine wpList_store_mid ?_ 50 (.tmp 2) (.tmp 117) ?_ w.heap.size 0 #[.int .i64 (a : Int), .int .i64 (b : Int), .int .i64 ((c : Int) - 1), .int .i64 ((d : Int) - 1), .int .i64 (u : Int), .int .i64 xc.kd, .int .i64 xc.cl, .int .i64 xc.no, .string xc.s, .string xc.nm, .string xc.tg, .int .i64 xc.n, .slice A1 n1 c1, .int .i64 (v : Int), .slice A2 ds.length cap, .bool qb] ?_ ?_ ?_ ?_ hOne ?_); all_goals (first | rw [← HWF.out] | exact hRt | exact sizeInst | rfl)) | ((with_reducible refine wpList_load_o 50 (.tmp 6) h 0 [.int .i64 (a : Int), .int .i64 (b : Int), .int .i64 ((c : Int) - 1), .int .i64 ((d : Int) - 1), .int .i64 (u : Int), .int .i64 xc.kd, .int .i64 xc.cl, .int .i64 xc.no, .string xc.s, .string xc.nm, .string xc.tg, .int .i64 xc.n, .slice A1 n1 c1, .int .i64 (v : Int), .slice A2 ds.length cap, .bool qb] _ hCr Try.underlying50 sizeInst ?_ ?_ ?_ ?_ ?_ ?_); (rfl); (rfl); (rfl); (rfl); (rfl)) | go_values | go_skip | go_guarded | go_step | go_upon | (simp only []; go_at_K))
                try simp only [Exit.inBlock, Exit.then]
                refine bodyPost_ret (results_cell_tmp Try.results28 rfl hWr Try.underlying50 rfl sizeInst) rfl ?_
                rw [HRR.out, HRB.out, HX.out]
                refine ⟨⟨A1, n1, c1, A2, _, cap, fc, _, rfl, OF, idd_row (own_up hoF (Nat.zero_le _)) rfl, ?_, ?_⟩, hBF⟩
                · refine List.nodup_append.2 ⟨hN1, by cases A2 <;> simp [blkL], fun a ha b hb hab => ?_⟩
                  have h1 := hOw a ha; have h2 := hlo b hb; omega
                · intro b hb
                  rcases List.mem_append.1 hb with hb | hb
                  · have h1 := hOb b hb; have h2 := hOw b hb; omega
                  · have h2 := hlo b hb; omega
              · have HN := Lib.hid (show rdIn s = insNil ∧ rdInB s = false from ⟨hr, hrb⟩)
                have g1 : ((insText X).toList == s.toList) = false := by
                  rw [str_beq]
                  rcases hbad with h | h | h
                  · cases h
                  · have h0 : s.size = 0 := by rw [h]; rfl
                    omega
                  · simpa using h
                clear hbad hr hrb HX HJ
                have hRt := R.there (n := 16) rfl
                obtain ⟨WF, hWF⟩ : ∃ W, W = w9.setCells w.heap.size 0 (#[.int .i64 0, .int .i64 0, .int .i64 0, .int .i64 0, .int .i64 0, .int .i64 0, .int .i64 0, .int .i64 0, .string ⟨#[]⟩, .string ⟨#[]⟩, .string ⟨#[]⟩, .int .i64 0, .slice none 0 0, .int .i64 0, .slice none 0 0, .bool false] : Array Value).toList := ⟨_, rfl⟩
                have cF : Ch (fun b => b = w.heap.size) w9 WF := by rw [hWF]; exact ch_setCells _ _ _
                have RF : BoxL WF w.heap.size [.int .i64 0, .int .i64 0, .int .i64 0, .int .i64 0, .int .i64 0, .int .i64 0, .int .i64 0, .int .i64 0, .string ⟨#[]⟩, .string ⟨#[]⟩, .string ⟨#[]⟩, .int .i64 0, .slice none 0 0, .int .i64 0, .slice none 0 0, .bool false] := by rw [hWF]; exact R.setCells rfl
                have hWr := RF.range
                have hgs : w.heap.size < w9.heap.size := R.lt
                have hBF : Below w.heap.size w WF := cF.belowB B (by omega) (fun k hk => by have hk : k = _ := hk; omega)
                have HWF := Lib.hid hWF; clear hWF cF RF R
                repeat (first | ((with_reducible refine wpList_store_mid ?_ 50 (.tmp 2) (.tmp 116) ?_ w.heap.size 0 #[.int .i64 0, .int .i64 0, .int .i64 0, .int .i64 0, .int .i64 0, .int .i64 0, .int .i64 0, .int .i64 0, .string ⟨#[]⟩, .string ⟨#[]⟩, .string ⟨#[]⟩, .int .i64 0, .slice none 0 0, .int .i64 0, .slice none 0 0, .bool false] ?_ ?_ ?_ ?_ zOne16 ?_); all_goals (first | rw [← HWF.out] | exact hRt | exact sizeInst | rfl)) | go_values | go_skip | go_guarded | go_step | go_upon | (simp only []; go_at_K))
                try simp only [Exit.inBlock, Exit.then]
                refine bodyPost_ret (results_cell_tmp Try.results28 rfl hWr Try.underlying50 rfl sizeInst) rfl ?_
                rw [HN.out.1, HN.out.2]
                exact ⟨⟨none, 0, 0, none, 0, 0, [], [], rfl, StrO.nil, RowO.nil, List.nodup_nil, fun b hb => by cases hb⟩, hBF⟩
end Go.Proofs.Ytdphdnllhmnelaa
