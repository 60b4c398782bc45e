/- Contract of the program's Sha. -/
import Derived.Test.YtfbfomlgjghcmaaDoorShaI
import Derived.Test.YtfbfomlgjghcmaaDoorByteRow
import Derived.Test.YtfbfomlgjghcmaaDoorDag
namespace Go.Proofs.YtfbfomlgjghcmaaDoor
open Go.RowKit

/-- 'make([]T, n)' as an operation of a region that draws its order -/
theorem step_mk {P : Program} {ops : Array Oper} {o : Oper} {a : Act} {w : World} {K : Act → World → Prop} {Q : Exit → Act → World → Prop} {E : Prop} (hgd : o.guard = none) (l c : Operand) (t : TypeId) (hop : o.op = Op.makeSlice t l c)
    (base : Nat) (e : TypeId) (z : Value) (size bytes : Nat) (ht : P.underlying t = some (.slice e)) (hinfo : (P.info? e).map (fun i => (i.zero, i.size, i.bytes)) = some (some z, size, bytes))
    (kl kc : IntKind) (L C : Int) (n : Nat) (hl : a.eval l = .int kl L) (hc : a.eval c = .int kc C) (hL : L = (n : Int)) (hC : C = (n : Int)) (b2 : bytes * n ≤ 281474976710656) (b3 : n ≤ maxLen) (b4 : base ≤ w.heap.size)
    (h : ∀ w', w'.ownsRow base e size (.slice (some ⟨w.heap.size, 0, none⟩) n n) n (madeCells z.cells (n * size)).toList → Below base w w' → K (a.put o.dst (.slice (some ⟨w.heap.size, 0, none⟩) n n)) w') :
    if Region.wanted o (yielded ops a.tmps) = true then Oper.wp P o a w K Q else E := by
  have hw : Region.wanted o (yielded ops a.tmps) = true := by simp [Region.wanted, hgd]
  rw [if_pos hw]
  obtain ⟨i, hi, hz, hsize, hby⟩ := info_parts hinfo
  obtain ⟨w', hrun, r1, r2⟩ := run_make_full (P := P) w base t e i z size ht hi hz hsize kl kc n (by rw [hby]; exact b2) b3 b4
  subst hL
  subst hC
  unfold Oper.wp
  simp [execOp, hop, hl, hc, hrun, Result.andThen]
  exact h w' r1 ((Below.refl base w).grown r2 b4 (fun k hk => by cases hk))
theorem zeros_row (n : Nat) : (madeCells (Value.int .u8 0).cells (n * 1)).toList = (List.replicate n (0 : UInt8)).map byteV := by
  rw [Nat.mul_one, List.map_replicate]
  exact toList_madeCells_one _ n
theorem pad_eq (s : ByteArray) (h : 8 * s.size < 72057594037927936) : s ++ ⟨#[128]⟩ ++ ⟨Array.replicate (zN s.size + 1) (0 : UInt8)⟩ ++ fixS ((8 * s.size : Nat) : Int) 7 = padT s := by
  rw [fix7 h, padT, padL_seven h]
  apply ByteArray.ext
  apply Array.ext'
  simp [ByteArray.data_append]
theorem idx8 (a : Nat → Value) (j : Nat) (hj : j < 8) (w : World) : (Instr.index 61 (.agg #[a 0, a 1, a 2, a 3, a 4, a 5, a 6, a 7]) (.int .i64 (j : Int))).run Tryd.prog w = .ok (a j) w := by
  rcases (show j = 0 ∨ j = 1 ∨ j = 2 ∨ j = 3 ∨ j = 4 ∨ j = 5 ∨ j = 6 ∨ j = 7 by omega) with rfl | rfl | rfl | rfl | rfl | rfl | rfl | rfl <;> kernel_rfl
theorem keys_off8 {w : World} (h : KeysAt w) {g : Nat} (hg : g ≠ 0) (x0 x1 x2 x3 x4 x5 x6 x7 : Value) :
    KeysAt ((((((((w.setCell ⟨g, 0, none⟩ x0).setCell ⟨g, 1, none⟩ x1).setCell ⟨g, 2, none⟩ x2).setCell ⟨g, 3, none⟩ x3).setCell ⟨g, 4, none⟩ x4).setCell ⟨g, 5, none⟩ x5).setCell ⟨g, 6, none⟩ x6).setCell ⟨g, 7, none⟩ x7) :=
  fun j hj => setoff (setoff (setoff (setoff (setoff (setoff (setoff (setoff (h j hj) (.inl hg)) (.inl hg)) (.inl hg)) (.inl hg)) (.inl hg)) (.inl hg)) (.inl hg)) (.inl hg)
theorem own_keep {w w' : World} {base e sz n : Nat} {v : Value} {xs : List Value} (h : w.ownsRow base e sz v n xs) (hb : Below w.heap.size w w') : w'.ownsRow base e sz v n xs :=
  own_ch (S := fun _ => False) h (Ch.of_below hb) (fun _ _ h => h)

set_option maxRecDepth 8000 in
set_option maxHeartbeats 4000000 in
theorem sha_impl (s : ByteArray) (w : World) (hs : s.size ≤ 1099511627776) (hk : KeysAt w) :
    Calls Tryd.prog 45 #[.string s] w fun e w' => e = .returned (.string (shaS s)) ∧ Below w.heap.size w w' := by
  obtain ⟨z, hz⟩ : ∃ z, z = zN s.size := ⟨_, rfl⟩
  have z1 : (64 - ((s.size : Int) + 9) % 64) % 64 = (z : Int) := by rw [hz]; unfold zN; omega
  have hz64 : z < 64 := by rw [hz]; exact zN_lt _
  obtain ⟨n8, hn8⟩ : ∃ n : Nat, n = 8 * s.size := ⟨_, rfl⟩
  have z2 : 8 * (s.size : Int) = (n8 : Int) := by omega
  have hn8b : n8 ≤ 8796093022208 := by omega
  have z3 : IntKind.i64.wrap ((z : Int) + 1) = (z : Int) + 1 := by rw [IntKind.wrap_i64]; omega
  have hfs := fixS_size (n8 : Int) 7
  have HZ := Lib.hid hz
  have HN := Lib.hid hn8
  clear hz hn8
  go_enter Tryd.func45, Tryd.ntmps45
  go_wp2
  rw [z1]
  generalize Value.int .i64 ((s.size : Int) + 9) = u13
  generalize Value.int .i64 (((s.size : Int) + 9) % 64) = u14
  generalize Value.int .i64 (64 - ((s.size : Int) + 9) % 64) = u15
  refine wp_region_dag (by kernel_rfl) (by kernel_rfl) (fun D a' w' => ∃ v5 v20 v21 v22 v23 v24 v25 v26 v27 v28 v29 : Value, a' = { tmps := List.toArray (.string s :: undef :: .string ⟨#[]⟩ :: .int .i64 (z : Int) :: .int .i64 (n8 : Int) :: v5 :: undef :: undef :: undef :: undef :: undef :: .string s :: .int .i64 (s.size : Int) :: u13 :: u14 :: u15 :: .int .i64 (z : Int) :: .string s :: .int .i64 (s.size : Int) :: .int .i64 (n8 : Int) :: v20 :: v21 :: v22 :: v23 :: v24 :: v25 :: v26 :: v27 :: v28 :: v29 :: undef :: undef :: undef :: undef :: undef :: undef :: undef :: undef :: undef :: undef :: undef :: undef :: undef :: undef :: undef :: undef :: undef :: undef :: undef :: undef :: undef :: undef :: undef :: undef :: undef :: []), defers := [] } ∧ Below w.heap.size w w' ∧ (D 0 = true → v20 = .string s) ∧ (D 1 = true → v21 = .string (s ++ ⟨#[128]⟩)) ∧ (D 2 = true → v22 = .int .i64 (z : Int)) ∧ (D 3 = true → v23 = .int .i64 ((z : Int) + 1)) ∧ (D 4 = true → ∃ g, v24 = .slice (some ⟨g, 0, none⟩) (z + 1) (z + 1) ∧ w'.ownsRow w.heap.size 5 1 (.slice (some ⟨g, 0, none⟩) (z + 1) (z + 1)) (z + 1) ((List.replicate (z + 1) (0 : UInt8)).map byteV)) ∧ (D 5 = true → v25 = .string ⟨Array.replicate (z + 1) (0 : UInt8)⟩) ∧ (D 6 = true → v26 = .string (s ++ ⟨#[128]⟩ ++ ⟨Array.replicate (z + 1) (0 : UInt8)⟩)) ∧ (D 7 = true → v27 = .int .i64 (n8 : Int)) ∧ (D 8 = true → v28 = .string (fixS (n8 : Int) 7)) ∧ (D 9 = true → v29 = .string (s ++ ⟨#[128]⟩ ++ ⟨Array.replicate (z + 1) (0 : UInt8)⟩ ++ fixS (n8 : Int) 7)) ∧ (D 10 = true → v5 = .string (s ++ ⟨#[128]⟩ ++ ⟨Array.replicate (z + 1) (0 : UInt8)⟩ ++ fixS (n8 : Int) 7)))
    ⟨undef, undef, undef, undef, undef, undef, undef, undef, undef, undef, undef, rfl, (Below.refl _ _).drew, (fun h => by cases h), (fun h => by cases h), (fun h => by cases h), (fun h => by cases h), (fun h => by cases h), (fun h => by cases h), (fun h => by cases h), (fun h => by cases h), (fun h => by cases h), (fun h => by cases h), (fun h => by cases h)⟩ ?_ ?_
  · intro i D a' w' hi hD hdep hI
    have hi' : i < 11 := hi
    obtain ⟨v5, v20, v21, v22, v23, v24, v25, v26, v27, v28, v29, rfl, hb, k0, k1, k2, k3, k4, k5, k6, k7, k8, k9, k10⟩ := hI
    rcases (show i = 0 ∨ i = 1 ∨ i = 2 ∨ i = 3 ∨ i = 4 ∨ i = 5 ∨ i = 6 ∨ i = 7 ∨ i = 8 ∨ i = 9 ∨ i = 10 by omega) with rfl | rfl | rfl | rfl | rfl | rfl | rfl | rfl | rfl | rfl | rfl
    · refine wpOp_step (by simp only [List.getElem?_toArray, List.getElem?_cons_succ, List.getElem?_cons_zero]; rfl) (fun K hK => ?_)
      go_simp
      exact hK _ _ ⟨v5, _, v21, v22, v23, v24, v25, v26, v27, v28, v29, rfl, hb, (fun _ => rfl), k1, k2, k3, k4, k5, k6, k7, k8, k9, k10⟩
    · have e0 := k0 (hdep 0 (by kernel_rfl))
      subst e0
      refine wpOp_step (by simp only [List.getElem?_toArray, List.getElem?_cons_succ, List.getElem?_cons_zero]; rfl) (fun K hK => ?_)
      go_simp
      rw [if_neg (by omega)]
      go_simp
      exact hK _ _ ⟨v5, _, _, v22, v23, v24, v25, v26, v27, v28, v29, rfl, hb, (fun _ => rfl), (fun _ => rfl), k2, k3, k4, k5, k6, k7, k8, k9, k10⟩
    · refine wpOp_step (by simp only [List.getElem?_toArray, List.getElem?_cons_succ, List.getElem?_cons_zero]; rfl) (fun K hK => ?_)
      go_simp
      exact hK _ _ ⟨v5, v20, v21, _, v23, v24, v25, v26, v27, v28, v29, rfl, hb, k0, k1, (fun _ => rfl), k3, k4, k5, k6, k7, k8, k9, k10⟩
    · have e2 := k2 (hdep 2 (by kernel_rfl))
      subst e2
      refine wpOp_step (by simp only [List.getElem?_toArray, List.getElem?_cons_succ, List.getElem?_cons_zero]; rfl) (fun K hK => ?_)
      go_simp
      exact hK _ _ ⟨v5, v20, v21, _, _, v24, v25, v26, v27, v28, v29, rfl, hb, k0, k1, (fun _ => rfl), (fun _ => rfl), k4, k5, k6, k7, k8, k9, k10⟩
    · have e3 := k3 (hdep 3 (by kernel_rfl))
      subst e3
      refine wpOp_step (by simp only [List.getElem?_toArray, List.getElem?_cons_succ, List.getElem?_cons_zero]; rfl) (fun K hK => ?_)
      refine step_mk (P := Tryd.prog) rfl _ _ 33 rfl w.heap.size 5 _ 1 1 Tryd.underlying33 infoByteV .i64 .i64 _ _ (z + 1) rfl rfl (by omega) (by omega) (by omega) (by unfold maxLen; omega) hb.size ?_
      intro w4 hown4 hb4
      exact hK _ _ ⟨v5, v20, v21, v22, _, _, v25, v26, v27, v28, v29, rfl, hb.trans hb4, k0, k1, k2, (fun _ => rfl), (fun _ => ⟨_, rfl, by rw [zeros_row] at hown4; exact hown4⟩), k5, k6, k7, k8, k9, k10⟩
    · obtain ⟨g, rfl, hown⟩ := k4 (hdep 4 (by kernel_rfl))
      obtain ⟨g', eg, hcv⟩ := conv_own hown (Nat.succ_pos z)
      injection eg with eg; injection eg with eg; subst eg
      refine wpOp_step (by simp only [List.getElem?_toArray, List.getElem?_cons_succ, List.getElem?_cons_zero]; rfl) (fun K hK => ?_)
      go_simp
      exact hK _ _ ⟨v5, v20, v21, v22, v23, _, _, v26, v27, v28, v29, rfl, hb, k0, k1, k2, k3, (fun _ => ⟨g, rfl, hown⟩), (fun _ => rfl), k6, k7, k8, k9, k10⟩
    · have e1 := k1 (hdep 1 (by kernel_rfl))
      subst e1
      have e5 := k5 (hdep 5 (by kernel_rfl))
      subst e5
      refine wpOp_step (by simp only [List.getElem?_toArray, List.getElem?_cons_succ, List.getElem?_cons_zero]; rfl) (fun K hK => ?_)
      go_simp
      rw [if_neg (by omega)]
      go_simp
      exact hK _ _ ⟨v5, v20, _, v22, v23, v24, _, _, v27, v28, v29, rfl, hb, k0, (fun _ => rfl), k2, k3, k4, (fun _ => rfl), (fun _ => rfl), k7, k8, k9, k10⟩
    · refine wpOp_step (by simp only [List.getElem?_toArray, List.getElem?_cons_succ, List.getElem?_cons_zero]; rfl) (fun K hK => ?_)
      go_simp
      exact hK _ _ ⟨v5, v20, v21, v22, v23, v24, v25, v26, _, v28, v29, rfl, hb, k0, k1, k2, k3, k4, k5, k6, (fun _ => rfl), k8, k9, k10⟩
    · have e7 := k7 (hdep 7 (by kernel_rfl))
      subst e7
      refine wpOp_step (by simp only [List.getElem?_toArray, List.getElem?_cons_succ, List.getElem?_cons_zero]; rfl) (fun K hK => ?_)
      go_simp
      refine (fixed_impl _ _ _ (by omega)).mono ?_
      rintro e w4 ⟨rfl, hb4⟩
      exact hK _ _ ⟨v5, v20, v21, v22, v23, v24, v25, v26, _, _, v29, rfl, bthen hb hb4, k0, k1, k2, k3, (fun h => by obtain ⟨g, e, ho⟩ := k4 h; exact ⟨g, e, own_keep ho hb4⟩), k5, k6, (fun _ => rfl), (fun _ => rfl), k9, k10⟩
    · have e6 := k6 (hdep 6 (by kernel_rfl))
      subst e6
      have e8 := k8 (hdep 8 (by kernel_rfl))
      subst e8
      refine wpOp_step (by simp only [List.getElem?_toArray, List.getElem?_cons_succ, List.getElem?_cons_zero]; rfl) (fun K hK => ?_)
      go_simp
      rw [if_neg (by omega)]
      go_simp
      exact hK _ _ ⟨v5, v20, v21, v22, v23, v24, v25, _, v27, _, _, rfl, hb, k0, k1, k2, k3, k4, k5, (fun _ => rfl), k7, (fun _ => rfl), (fun _ => rfl), k10⟩
    · have e9 := k9 (hdep 9 (by kernel_rfl))
      subst e9
      refine wpOp_step (by simp only [List.getElem?_toArray, List.getElem?_cons_succ, List.getElem?_cons_zero]; rfl) (fun K hK => ?_)
      go_simp
      exact hK _ _ ⟨_, v20, v21, v22, v23, v24, v25, v26, v27, v28, _, rfl, hb, k0, k1, k2, k3, k4, k5, k6, k7, k8, (fun _ => rfl), (fun _ => rfl)⟩
  · intro D a' w' hD hI
    obtain ⟨v5, v20, v21, v22, v23, v24, v25, v26, v27, v28, v29, rfl, hb, k0, k1, k2, k3, k4, k5, k6, k7, k8, k9, k10⟩ := hI
    have e5 := k10 (hD 10 (show 10 < 11 by decide))
    subst e5
    clear k0 k1 k2 k3 k4 k5 k6 k7 k8 k9 k10 hD
    clear hfs z3
    have hpad : s ++ ⟨#[128]⟩ ++ ⟨Array.replicate (z + 1) (0 : UInt8)⟩ ++ fixS (n8 : Int) 7 = padT s := by
      rw [HZ.out, HN.out]; exact pad_eq s (by omega)
    rw [hpad]
    clear hpad
    have hts := padT_size' s
    have htb : (padT s).size ≤ 2199023255552 := by rw [padT_size]; have := zN_lt s.size; omega
    have HSH := Lib.hid (show shaS s = ⟨(outL (hS (padT s) (nB s.size)) 8).toArray⟩ from rfl)
    generalize padT s = t at *
    generalize nB s.size = N at *
    have hkk := hk.keep hb
    have h8 := (Arr.new w' #[u32V hF 0, u32V hF 1, u32V hF 2, u32V hF 3, u32V hF 4, u32V hF 5, u32V hF 6, u32V hF 7] 61 (u32V hF) (eight rfl rfl rfl rfl rfl rfl rfl rfl))
    have hal := (Below.refl w'.heap.size w').alloc (Nat.le_refl _) (.cells #[u32V hF 0, u32V hF 1, u32V hF 2, u32V hF 3, u32V hF 4, u32V hF 5, u32V hF 6, u32V hF 7] 61)
    have hk8 := hkk.keep hal
    have hb8 := bthen hb hal
    have hg0 : w.heap.size ≤ w'.heap.size := hb.size
    go_wp2
    go_loopg [7] N (fun gk i wr => ∃ k : Nat, k ≤ N ∧ gk = N - k ∧ i = .int .i64 ((64 * k : Nat) : Int) ∧ Arr wr w'.heap.size 8 (u32V (hS t k)) ∧ KeysAt wr ∧ Below w.heap.size w wr)
    case atStart => exact ⟨0, Nat.zero_le _, rfl, rfl, h8, hk8, hb8⟩
    case round =>
      clear h8 hal hk8 hb8 hkk
      obtain ⟨k, hkN, hgk, rfl, har, hks, hbr⟩ := hrel
      have HG := Lib.hid hgk; clear hgk
      have hsz64 : k < N → (blkAt t k).size = 64 := fun h => blkAt_size (by omega)
      have HSB := Lib.hid hsz64
      clear hsz64
      by_cases hlt : k < N
      · have hsz64 := HSB.out hlt
        obtain ⟨m, hm⟩ : ∃ m, m = 64 * k := ⟨_, rfl⟩
        have hin : (m : Int) < (t.size : Int) := by omega
        have hw64 : IntKind.i64.wrap ((m : Int) + 64) = (m : Int) + 64 := by rw [IntKind.wrap_i64]; omega
        have hle1 : (m : Int) + 64 ≤ (t.size : Int) := by omega
        have hle2 : (m : Int) ≤ (m : Int) + 64 := by omega
        have hn64 : ((m : Int) + 64).toNat = m + 64 := by omega
        have HBK := Lib.hid (show blkAt t k = t.extract m (m + 64) by rw [hm]; rfl)
        rw [← hm]
        have HM := Lib.hid hm
        clear hm
        go_wp2
        generalize Value.int .i64 (64 * (N : Int)) = u33
        generalize Value.bool (decide ((m : Int) < 64 * (N : Int))) = u34
        have hG0 : w'.heap.size ≠ 0 := by have := cell_lt (hk 0 (by decide)); omega
        have hG := hg0
        generalize w'.heap.size = G at *
        refine wp_region_dag (by kernel_rfl) (by kernel_rfl) (fun D a' w' => ∃ v37 v38 v39 v40 v41 v42 v43 : Value, a' = { tmps := List.toArray (.string s :: undef :: .string ⟨#[]⟩ :: .int .i64 (z : Int) :: .int .i64 (n8 : Int) :: .string t :: .pointer (some ⟨G, 0, none⟩) :: .int .i64 (m : Int) :: undef :: undef :: undef :: .string s :: .int .i64 (s.size : Int) :: u13 :: u14 :: u15 :: .int .i64 (z : Int) :: .string s :: .int .i64 (s.size : Int) :: .int .i64 (n8 : Int) :: v20 :: v21 :: v22 :: v23 :: v24 :: v25 :: v26 :: v27 :: v28 :: v29 :: .agg #[.int .u32 1779033703, .int .u32 3144134277, .int .u32 1013904242, .int .u32 2773480762, .int .u32 1359893119, .int .u32 2600822924, .int .u32 528734635, .int .u32 1541459225] :: .int .i64 (m : Int) :: .string t :: u33 :: u34 :: u35 :: u36 :: v37 :: v38 :: v39 :: v40 :: v41 :: v42 :: v43 :: undef :: undef :: undef :: undef :: undef :: undef :: undef :: undef :: undef :: undef :: undef :: []), defers := [] } ∧ Below w.heap.size w w' ∧ KeysAt w' ∧ (D 7 = false → Arr w' G 8 (u32V (hS t k))) ∧ (D 7 = true → D 6 = true) ∧ (D 6 = true → D 0 = true) ∧ (D 0 = true → v37 = agg8 (hS t k)) ∧ (D 1 = true → v38 = .string t) ∧ (D 2 = true → v39 = .int .i64 (m : Int)) ∧ (D 3 = true → v40 = .int .i64 (m : Int)) ∧ (D 4 = true → v41 = .int .i64 ((m : Int) + 64)) ∧ (D 5 = true → v42 = .string (blkAt t k)) ∧ (D 6 = true → v43 = agg8 (hS t (k + 1))) ∧ (D 7 = true → Arr w' G 8 (u32V (hS t (k + 1)))))
          ⟨u37, u38, u39, u40, u41, u42, u43, rfl, hbr.drew, hks, (fun _ => har), (fun h => by cases h), (fun h => by cases h), (fun h => by cases h), (fun h => by cases h), (fun h => by cases h), (fun h => by cases h), (fun h => by cases h), (fun h => by cases h), (fun h => by cases h), (fun h => by cases h)⟩ ?_ ?_
        · intro i D a' w' hi hD hdep hI
          have hi' : i < 8 := hi
          obtain ⟨v37, v38, v39, v40, v41, v42, v43, rfl, hb, hks, har, k60, k06, k0, k1, k2, k3, k4, k5, k6, k7⟩ := hI
          rcases (show i = 0 ∨ i = 1 ∨ i = 2 ∨ i = 3 ∨ i = 4 ∨ i = 5 ∨ i = 6 ∨ i = 7 by omega) with rfl | rfl | rfl | rfl | rfl | rfl | rfl | rfl
          · have d7 : D 7 = false := Bool.eq_false_iff.2 (fun h7 => by rw [k06 (k60 h7)] at hD; cases hD)
            have ha := har d7
            obtain ⟨c0, f0⟩ := ha 0 (by decide)
            obtain ⟨c1, f1⟩ := ha 1 (by decide)
            obtain ⟨c2, f2⟩ := ha 2 (by decide)
            obtain ⟨c3, f3⟩ := ha 3 (by decide)
            obtain ⟨c4, f4⟩ := ha 4 (by decide)
            obtain ⟨c5, f5⟩ := ha 5 (by decide)
            obtain ⟨c6, f6⟩ := ha 6 (by decide)
            obtain ⟨c7, f7⟩ := ha 7 (by decide)
            simp only [u32V] at c0 c1 c2 c3 c4 c5 c6 c7
            refine wpOp_step (by simp only [List.getElem?_toArray, List.getElem?_cons_succ, List.getElem?_cons_zero]; rfl) (fun K hK => ?_)
            go_simp
            exact hK _ _ ⟨_, v38, v39, v40, v41, v42, v43, rfl, hb, hks, har, k60, (fun _ => rfl), (fun _ => rfl), k1, k2, k3, k4, k5, k6, k7⟩
          · refine wpOp_step (by simp only [List.getElem?_toArray, List.getElem?_cons_succ, List.getElem?_cons_zero]; rfl) (fun K hK => ?_)
            go_simp
            exact hK _ _ ⟨v37, _, v39, v40, v41, v42, v43, rfl, hb, hks, har, k60, k06, k0, (fun _ => rfl), k2, k3, k4, k5, k6, k7⟩
          · refine wpOp_step (by simp only [List.getElem?_toArray, List.getElem?_cons_succ, List.getElem?_cons_zero]; rfl) (fun K hK => ?_)
            go_simp
            exact hK _ _ ⟨v37, v38, _, v40, v41, v42, v43, rfl, hb, hks, har, k60, k06, k0, k1, (fun _ => rfl), k3, k4, k5, k6, k7⟩
          · refine wpOp_step (by simp only [List.getElem?_toArray, List.getElem?_cons_succ, List.getElem?_cons_zero]; rfl) (fun K hK => ?_)
            go_simp
            exact hK _ _ ⟨v37, v38, v39, _, v41, v42, v43, rfl, hb, hks, har, k60, k06, k0, k1, k2, (fun _ => rfl), k4, k5, k6, k7⟩
          · have e3 := k3 (hdep 3 (by kernel_rfl))
            subst e3
            refine wpOp_step (by simp only [List.getElem?_toArray, List.getElem?_cons_succ, List.getElem?_cons_zero]; rfl) (fun K hK => ?_)
            go_simp
            exact hK _ _ ⟨v37, v38, v39, _, _, v42, v43, rfl, hb, hks, har, k60, k06, k0, k1, k2, (fun _ => rfl), (fun _ => rfl), k5, k6, k7⟩
          · have e1 := k1 (hdep 1 (by kernel_rfl))
            subst e1
            have e2 := k2 (hdep 2 (by kernel_rfl))
            subst e2
            have e4 := k4 (hdep 4 (by kernel_rfl))
            subst e4
            refine wpOp_step (by simp only [List.getElem?_toArray, List.getElem?_cons_succ, List.getElem?_cons_zero]; rfl) (fun K hK => ?_)
            go_simp
            rw [if_pos ⟨by omega, by omega⟩]
            go_simp
            exact hK _ _ ⟨v37, _, _, v40, _, _, v43, rfl, hb, hks, har, k60, k06, k0, (fun _ => rfl), (fun _ => rfl), k3, (fun _ => rfl), (fun _ => by rw [HBK.out]), k6, k7⟩
          · have e0 := k0 (hdep 0 (by kernel_rfl))
            subst e0
            have e5 := k5 (hdep 5 (by kernel_rfl))
            subst e5
            refine wpOp_step (by simp only [List.getElem?_toArray, List.getElem?_cons_succ, List.getElem?_cons_zero]; rfl) (fun K hK => ?_)
            go_simp
            refine (shaBlock_any _ _ _ (fun j _ => hS_lt _ _ _) hsz64 hks).mono ?_
            rintro e w4 ⟨rfl, hb4⟩
            exact hK _ _ ⟨_, v38, v39, v40, v41, _, _, rfl, bthen hb hb4, (hks.keep hb4), (fun h => (har h).keep hb4), (fun _ => rfl), (fun _ => hdep 0 (by kernel_rfl)), (fun _ => rfl), k1, k2, k3, k4, (fun _ => rfl), (fun _ => rfl), (fun h => absurd (k60 h) (by rw [hD]; simp))⟩
          · have e6 := k6 (hdep 6 (by kernel_rfl))
            subst e6
            have ha := har hD
            obtain ⟨c0, f0⟩ := ha 0 (by decide)
            obtain ⟨c1, f1⟩ := ha 1 (by decide)
            obtain ⟨c2, f2⟩ := ha 2 (by decide)
            obtain ⟨c3, f3⟩ := ha 3 (by decide)
            obtain ⟨c4, f4⟩ := ha 4 (by decide)
            obtain ⟨c5, f5⟩ := ha 5 (by decide)
            obtain ⟨c6, f6⟩ := ha 6 (by decide)
            obtain ⟨c7, f7⟩ := ha 7 (by decide)
            simp only [agg8, u32V]
            refine wpOp_step (by simp only [List.getElem?_toArray, List.getElem?_cons_succ, List.getElem?_cons_zero]; rfl) (fun K hK => ?_)
            go_simp
            exact hK _ _ ⟨v37, v38, v39, v40, v41, v42, _, rfl, (below_set8 hb hG _ _ _ _ _ _ _ _), (keys_off8 hks hG0 _ _ _ _ _ _ _ _), (fun h => by cases h), (fun _ => hdep 6 (by kernel_rfl)), k06, k0, k1, k2, k3, k4, k5, (fun _ => rfl), (fun _ => ha.set8 rfl rfl rfl rfl rfl rfl rfl rfl)⟩
        · intro D a' w' hD hI
          obtain ⟨v37, v38, v39, v40, v41, v42, v43, rfl, hb, hks, har, k60, k06, k0, k1, k2, k3, k4, k5, k6, k7⟩ := hI
          have har := k7 (hD 7 (show 7 < 8 by decide))
          clear k0 k1 k2 k3 k4 k5 k6 k7 hD k60 k06
          go_wp2
          have hgk := HG.out
          have hmm := HM.out
          go_roundg (N - (k + 1))
          case measure => omega
          case rel => exact ⟨k + 1, by omega, rfl, by congr 1; omega, har, hks, hb⟩
      · have hk0 : k = N := by omega
        subst hk0
        clear HG HSB hkN
        have hlh := hS_lt t k
        generalize hS t k = H at *
        have cs := fun j hj => (har j hj).1
        have c0 := cs 0 (by decide)
        have c1 := cs 1 (by decide)
        have c2 := cs 2 (by decide)
        have c3 := cs 3 (by decide)
        have c4 := cs 4 (by decide)
        have c5 := cs 5 (by decide)
        have c6 := cs 6 (by decide)
        have c7 := cs 7 (by decide)
        clear cs
        simp only [u32V] at c0 c1 c2 c3 c4 c5 c6 c7
        go_wp2
        clear c0 c1 c2 c3 c4 c5 c6 c7 har hks
        have hol : ∀ j, (⟨(outL H j).toArray⟩ : ByteArray).size = 4 * j := fun j => by show (outL H j).toArray.size = _; rw [List.size_toArray, outL_length]
        have hnx : ∀ j, (⟨(outL H j).toArray⟩ : ByteArray) ++ fixS ((H j : Nat) : Int) 4 = ⟨(outL H (j + 1)).toArray⟩ := fun j => by
          rw [fix4 (hlh j)]; apply ByteArray.ext; simp [ByteArray.data_append, outL]
        have HNX := Lib.hid hnx; clear hnx
        have HOL := Lib.hid hol; clear hol
        have hfs : ∀ x : Int, (fixS x 4).size ≤ 7 := fun x => fixS_size x 4
        have HLH := Lib.hid hlh; clear hlh
        go_loopg [45, 8] 8 (fun gk i o w4 => ∃ k : Nat, k ≤ 8 ∧ gk = 8 - k ∧ i = .int .i64 k ∧ o = .string ⟨(outL H k).toArray⟩ ∧ Below w.heap.size w w4)
        case atStart => exact ⟨0, by omega, rfl, rfl, rfl, hbr⟩
        case round =>
          obtain ⟨k, hk8, hgk, rfl, rfl, hb4⟩ := hrel
          have HG := Lib.hid hgk; clear hgk
          have hln := HOL.out k
          have hlk := HLH.out k
          have hlf := hfs ((H k : Nat) : Int)
          have hnx := HNX.out k
          have HN2 := Lib.hid hnx
          clear hnx
          have HO := Lib.hid (show (⟨(outL H k).toArray⟩ : ByteArray) = ⟨(outL H k).toArray⟩ from rfl)
          generalize hoo : (⟨(outL H k).toArray⟩ : ByteArray) = o at *
          clear HO
          have HO := Lib.hid hoo
          clear hoo
          by_cases hlt8 : k < 8
          · have ix := idx8 (u32V H) k hlt8 wr
            simp only [u32V] at ix
            have ik : (k : Int) < 8 := by omega
            clear hfs
            go_wp2_with ((go_at_call 55; refine (fixed_impl _ _ _ (by omega)).mono ?_; rintro e w5 ⟨rfl, hb5⟩))
            have hgk := HG.out
            rw [HN2.out]
            go_roundg (7 - k)
            case measure => omega
            case rel => exact ⟨k + 1, by omega, by omega, by go_num, rfl, bthen hb4 hb5⟩
          · have hk0 : k = 8 := by omega
            subst hk0
            have HFS := Lib.hid hfs
            clear hfs
            go_wp2
            go_returns
            exact ⟨by rw [HSH.out, HO.out]; rfl, hb4⟩
end Go.Proofs.YtfbfomlgjghcmaaDoor
