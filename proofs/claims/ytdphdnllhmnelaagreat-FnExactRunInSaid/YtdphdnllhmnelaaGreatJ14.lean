/- Contracts and lemmas: CopyCat, CatFind, KCmd. -/
import Derived.Test.YtdphdnllhmnelaaGreatJ13
import Derived.Test.YtdphdnllhmnelaaGreatJ7
import Derived.Test.YtdphdnllhmnelaaGreatJ4
import Derived.Test.YtdphdnllhmnelaaGreatJ5
import Derived.Deep.RegionHeld3
import Derived.StillTailTactics
import Derived.BigQuiet
import Derived.Deep.QuietTactic
/- Copies of a catalog: the program's copyCatalog. -/
namespace Go.Proofs.YtdphdnllhmnelaaGreat
open Go.RowKit
theorem Ch.nam {S : Nat → Prop} {w w' : World} (_ : Ch S w w') : ∃ V, V = w' := ⟨_, rfl⟩
/-- a catalog that fits: what a copy of it costs is little -/
def ctlW (x : Ctl) : Prop := x.sets.length ≤ 1000 ∧ ∀ s ∈ x.sets, s.snaps.length ≤ 1000 ∧ ∀ p ∈ s.snaps, p.ch.length ≤ 1000
theorem results_cell1 {P : Program} {fn : Func} {c : Tmp} {ty : TypeId} (h : fn.results = #[.cell c ty]) {tmps : Array Value} {w : World} {b : Nat} {cs : List Value} {d : TypeDesc} (hp : tmps.getD c undef = .pointer (some ⟨b, 0, none⟩))
    (hc : w.rangeAt b 0 cs) (hu : P.underlying ty = some d) (hd : d.isRow = true) (hi : (P.info? ty).map (·.size) = some cs.length) : (results fn tmps).run P w = .ok (.agg cs.toArray) w := by
  have hl := run_loadVar_mid (P := P) w b 0 ty cs d hc hu hd hi
  have hp' : tmps[c]?.getD undef = .pointer (some ⟨b, 0, none⟩) := by simpa using hp
  simp [results, h, hp', asAddr, Sem.run_bind, hl]
theorem cstInfo : (Tryz.prog.info? 165).map (fun i => (i.zero, i.size, i.bytes)) = some (some (.agg #[.string ByteArray.empty, .slice none 0 0]), 2, 40) := by kernel_rfl
theorem snpInfo : (Tryz.prog.info? 195).map (fun i => (i.zero, i.size, i.bytes)) = some (some (.agg #[.string ByteArray.empty, .string ByteArray.empty, .slice none 0 0]), 3, 56) := by kernel_rfl
theorem sizeCat0 : (Tryz.prog.info? 27).map (·.size) = some 1 := by kernel_rfl
theorem StrR.nilcap {w : World} {A : Option Addr} {n c : Nat} {l : List ByteArray} (h : StrR w A n c l) : A = none → c = 0 := by unfold StrR at h; exact h.2
theorem StrR.at_r' {w : World} {A : Option Addr} {n c : Nat} {l : List ByteArray} (h : StrR w A n c l) : StrsAt w A n l := by unfold StrR at h; exact h.1
theorem strO_in {lo hi n c : Nat} {w : World} {A : Option Addr} {l : List ByteArray} (h : StrsIn lo hi w A n c l) : ∃ fp, fp.Nodup ∧ (∀ b ∈ fp, lo ≤ b ∧ b < hi) ∧ StrO fp w A n c l := StrO.of_in h
theorem cstF_of {f : List Nat} {w : World} {A : Option Addr} {n c : Nat} {y : Cst} (h : RowO snpF 195 3 f w A n c y.snaps) : cstF f w [.string y.nm, .slice A n c] y := ⟨A, n, c, f, rfl, rfl, h⟩
theorem snpF_of {f : List Nat} {w : World} {A : Option Addr} {n c : Nat} {y : Snp} (h : StrO f w A n c y.ch) : snpF f w [.string y.nm, .string y.tg, .slice A n c] y := ⟨A, n, c, f, rfl, rfl, h⟩
attribute [local irreducible] StrsAt StrR StrO RowR RowO
set_option maxRecDepth 8000 in
set_option maxHeartbeats 8000000 in
theorem copyCat_impl (x : Ctl) (A : Option Addr) (n c : Nat) (w : World) (h : RowR cstR 2 w A n c x.sets) (hW : ctlW x) :
    Calls Tryz.prog 168 #[ctlV x (.slice A n c)] w fun e w' => (∃ A' n' c' fp, e = .returned (ctlV x (.slice A' n' c')) ∧ RowO cstF 165 2 fp w' A' n' c' x.sets ∧ fp.Nodup ∧ ∀ b ∈ fp, w.heap.size ≤ b ∧ b < w'.heap.size) ∧ Below w.heap.size w w' := by
  have HL := Lib.hid h.len
  have hn : n ≤ 1000 := by have := h.len; have := hW.1; omega
  unfold ctlV
  go_enter Tryz.func168, Tryz.ntmps168
  go_wp2_with fail
  have al0 := (Below.refl (w).heap.size (w)).alloc (Nat.le_refl _) (.cells #[.slice A n c] 27)
  have X0 := BoxL.new (w) [.slice A n c] 27
  have al1 := (Below.refl ((w).alloc (.cells #[.slice A n c] 27)).heap.size ((w).alloc (.cells #[.slice A n c] 27))).alloc (Nat.le_refl _) (.cells #[.slice none 0 0] 27)
  have X1 := BoxL.new ((w).alloc (.cells #[.slice A n c] 27)) [.slice none 0 0] 27
  have al2 := (Below.refl (((w).alloc (.cells #[.slice A n c] 27)).alloc (.cells #[.slice none 0 0] 27)).heap.size (((w).alloc (.cells #[.slice A n c] 27)).alloc (.cells #[.slice none 0 0] 27))).alloc (Nat.le_refl _) (.cells #[.slice none 0 0] 27)
  have X2 := BoxL.new (((w).alloc (.cells #[.slice A n c] 27)).alloc (.cells #[.slice none 0 0] 27)) [.slice none 0 0] 27
  obtain ⟨W, hW0⟩ : ∃ W, W = (((w).alloc (.cells #[.slice A n c] 27)).alloc (.cells #[.slice none 0 0] 27)).alloc (.cells #[.slice none 0 0] 27) := ⟨_, rfl⟩
  have P0 : BoxL W w.heap.size [.slice A n c] := by rw [hW0]; exact (X0.keep al1).keep al2
  have R0 : BoxL W (w.heap.size + 1) [.slice none 0 0] := by rw [hW0]; have := X1.keep al2; simpa using this
  have O0 : BoxL W (w.heap.size + 1 + 1) [.slice none 0 0] := by rw [hW0]; simpa using X2
  have B0 : Below w.heap.size w W := by rw [hW0]; exact bthen (bthen al0 al1) al2
  rw [← hW0]
  clear X0 X1 X2 al0 al1 al2 hW0
  obtain ⟨g, hg⟩ : ∃ g, w.heap.size = g := ⟨_, rfl⟩
  have HG := Lib.hid hg
  simp only [hg] at P0 R0 O0 ⊢
  clear hg
  have hOl := O0.lt
  go_loopw [13] (fun i wr => ∃ (k : Nat) (P : Option Addr) (cp : Nat) (fp : List Nat), k ≤ n ∧ i = .int .i64 k ∧ BoxL wr g [.slice A n c] ∧ BoxL wr (g + 1) [.slice none 0 0] ∧ BoxL wr (g + 1 + 1) [.slice P k cp] ∧ RowO cstF 165 2 fp wr P k cp (x.sets.take k) ∧ fp.Nodup ∧ (∀ b ∈ fp, W.heap.size ≤ b) ∧ Below w.heap.size w wr ∧ W.heap.size ≤ wr.heap.size) (fun i _ => n - (intOf i).toNat)
  case atStart => exact ⟨0, none, 0, [], Nat.zero_le _, rfl, P0, R0, O0, by rw [List.take_zero]; exact RowO.nil, List.nodup_nil, (fun b hb => by cases hb), B0, Nat.le_refl _⟩
  case round =>
    clear P0 R0 O0 B0
    obtain ⟨k, P, cp, fp, hk, rfl, BP, BR, BO, RO, hND, hFP, hB, hz⟩ := hrel
    by_cases hlt : k < n
    · skip
      have k1 := h.keep cstK hB
      obtain ⟨b, off, rfl⟩ := k1.head (by omega)
      obtain ⟨bl, y, cs, hy, ⟨B1, m1, d1, rfl, y1⟩, hcell⟩ := k1.elem_at hlt
      have hyW := bounds_el hW.2 hy
      have f0 : wr.cell? ⟨b, off + k * 2, none⟩ = some (.string y.nm) := hcell 0 _ rfl
      have f1 : wr.cell? ⟨b, off + k * 2 + 1, none⟩ = some (.slice B1 m1 d1) := hcell 1 _ rfl
      have HT := Lib.hid (take_more hy)
      have HM := Lib.hid y1.len
      have hm1 : m1 ≤ 1000 := by have := y1.len; have := hyW.1; omega
      have p0 := BP.cell 0 _ rfl; have pl := BP.lt
      have hRl := RO.lt cstK
      clear hcell hy
      have al0 := (Below.refl (wr).heap.size (wr)).alloc (Nat.le_refl _) (.cells #[.string y.nm, .slice B1 m1 d1] 165)
      have X0 := BoxL.new (wr) [.string y.nm, .slice B1 m1 d1] 165
      have al1 := (Below.refl ((wr).alloc (.cells #[.string y.nm, .slice B1 m1 d1] 165)).heap.size ((wr).alloc (.cells #[.string y.nm, .slice B1 m1 d1] 165))).alloc (Nat.le_refl _) (.cells #[.string y.nm, .slice none 0 0] 165)
      have X1 := BoxL.new ((wr).alloc (.cells #[.string y.nm, .slice B1 m1 d1] 165)) [.string y.nm, .slice none 0 0] 165
      go_wp2_with fail
      obtain ⟨V, hV⟩ : ∃ V, V = ((wr).alloc (.cells #[.string y.nm, .slice B1 m1 d1] 165)).alloc (.cells #[.string y.nm, .slice none 0 0] 165) := ⟨_, rfl⟩
      have BS : BoxL V wr.heap.size [.string y.nm, .slice B1 m1 d1] := by rw [hV]; exact X0.keep al1
      have BX : BoxL V (wr.heap.size + 1) [.string y.nm, .slice none 0 0] := by rw [hV]; simpa using X1
      have alV : Below wr.heap.size wr V := by rw [hV]; exact bthen al0 al1
      rw [← hV]
      clear X0 X1 al0 al1 hV
      obtain ⟨gs, hgs⟩ : ∃ g, wr.heap.size = g := ⟨_, rfl⟩
      have HGS := Lib.hid hgs
      simp only [hgs] at BS BX ⊢
      clear hgs
      obtain ⟨gx, hgx⟩ : ∃ g, gs + 1 = g := ⟨_, rfl⟩
      have HGX := Lib.hid hgx
      simp only [hgx] at BX ⊢
      have hsx : gs < gx := by omega
      clear hgx
      have hgs1 : gs = wr.heap.size := HGS.out.symm
      have hzx : wr.heap.size ≤ gs := by omega
      clear hgs1
      have BP' := BP.keep alV; have BR' := BR.keep alV; have BO' := BO.keep alV; have RO' := RO.keep cstK alV; have hB' := bthen hB alV
      have y2 := y1.keep snpK alV
      have hVz := alV.size
      have hbw : b < wr.heap.size := bl
      have hxV := BX.lt
      clear BP BR BO RO hB p0 pl f0 f1 k1 bl
      go_loopw [23] (fun i wq => ∃ (j : Nat) (Q : Option Addr) (cq : Nat) (fq : List Nat), j ≤ m1 ∧ i = .int .i64 j ∧ BoxL wq gx [.string y.nm, .slice Q j cq] ∧ RowO snpF 195 3 fq wq Q j cq (y.snaps.take j) ∧ fq.Nodup ∧ (∀ b ∈ fq, V.heap.size ≤ b) ∧ Ch (fun b => b = gx ∨ V.heap.size ≤ b) V wq ∧ V.heap.size ≤ wq.heap.size) (fun i _ => m1 - (intOf i).toNat)
      case atStart => exact ⟨0, none, 0, [], Nat.zero_le _, rfl, BX, by rw [List.take_zero]; exact RowO.nil, List.nodup_nil, (fun b hb => by cases hb), Ch.refl _, Nat.le_refl _⟩
      case round =>
        clear BX
        obtain ⟨j, Q, cq, fq, hj, rfl, BX, RQ, hNQ, hFQ, hCh, hzq⟩ := hrel
        obtain ⟨wq, hwq⟩ := Ch.nam hCh; subst hwq
        have hBq : Below w.heap.size w wq := hCh.belowB hB' (by have := hB'.size; omega) (fun b hb => by have := HG.out; rcases hb with hb | hb <;> omega)
        have nP : ∀ t : Nat, t < g + 3 → ¬ (t = gx ∨ V.heap.size ≤ t) := fun t ht => by omega
        have BPq := BP'.ch hCh (nP _ (by omega)); have BRq := BR'.ch hCh (nP _ (by omega)); have BOq := BO'.ch hCh (nP _ (by omega))
        have BSq := BS.ch hCh (by omega)
        by_cases hltj : j < m1
        · skip
          have yq : RowR snpR 3 wq B1 m1 d1 y.snaps := y1.keep snpK (alV.trans (hCh.below (B := wr.heap.size) (fun b hb => by rcases hb with hb | hb <;> omega) (by omega)))
          have s0 := BSq.cell 0 _ rfl; have s1 := BSq.cell 1 _ rfl; have sl := BSq.lt
          obtain ⟨sb, so, rfl⟩ := yq.head (by omega)
          obtain ⟨sbl, v, cs2, hv, ⟨E1, em, ed, rfl, v1⟩, hcellv⟩ := yq.elem_at hltj
          have hvW := bounds_el hyW.2 hv
          have t0 : wq.cell? ⟨sb, so + j * 3, none⟩ = some (.string v.nm) := hcellv 0 _ rfl
          have t1 : wq.cell? ⟨sb, so + j * 3 + 1, none⟩ = some (.string v.tg) := hcellv 1 _ rfl
          have t2 : wq.cell? ⟨sb, so + j * 3 + 2, none⟩ = some (.slice E1 em ed) := hcellv 2 _ rfl
          have HTV := Lib.hid (take_more hv)
          have HE := Lib.hid v1.len
          have hem : em ≤ 1000 := by have := v1.len; omega
          have hRQl := RQ.lt snpK
          clear hcellv hv
          have aly := (Below.refl wq.heap.size wq).alloc (Nat.le_refl _) (.cells #[.string v.nm, .string v.tg, .slice E1 em ed] 195)
          have BY := BoxL.new wq [.string v.nm, .string v.tg, .slice E1 em ed] 195
          go_wp2_with fail
          obtain ⟨Y, hY⟩ : ∃ V, V = wq.alloc (.cells #[.string v.nm, .string v.tg, .slice E1 em ed] 195) := ⟨_, rfl⟩
          rw [← hY] at aly BY ⊢
          obtain ⟨gy, hgy⟩ : ∃ g, wq.heap.size = g := ⟨_, rfl⟩
          have HGY := Lib.hid hgy
          simp only [hgy] at BY ⊢
          have hzy : wq.heap.size ≤ gy := by omega
          clear hY hgy
          have vY := v1.keep aly
          have BX2 := BX.keep aly; have RQ2 := RQ.keep snpK aly
          have hChY := hCh.trans (Ch.of_below (S := fun b => b = gx ∨ V.heap.size ≤ b) aly)
          have hYl := aly.size
          clear t0 t1 t2 s0 s1 sl BX RQ v1
          obtain ⟨css, fps, rfl, own, hlQ, EQ⟩ := RQ2.ex
          have HLQ := Lib.hid hlQ; clear hlQ
          have hyl := BY.lt; have hxl := BX2.lt
          have hgxy : gx < gy := by omega
          have hNQ2 : (blkL Q ++ fps.flatten).Nodup := hNQ
          have hlt2 : ∀ b ∈ blkL Q ++ fps.flatten, b < wq.heap.size := hRQl
          have hge2 : ∀ b ∈ blkL Q ++ fps.flatten, V.heap.size ≤ b := hFQ
          refine wp_region_dagb [27, 28, 29, 30, 31, 32, 33, 34, 35, 36, 37, 38, 39] (by kernel_rfl) (by kernel_rfl) (fun D vs w' => ∃ v27 v28 v29 v30 v31 v32 v33 v34 v35 v36 v37 v38 v39 : Value, vs = [v27, v28, v29, v30, v31, v32, v33, v34, v35, v36, v37, v38, v39] ∧ (D 11 = false → Below Y.heap.size Y w') ∧ Ch (fun b => b = gx ∨ V.heap.size ≤ b) V w' ∧ Y.heap.size ≤ w'.heap.size ∧ (D 13 = false → BoxL w' gx [.string y.nm, .slice Q j cq]) ∧ BoxL w' gy [.string v.nm, .string v.tg, .slice E1 em ed] ∧ (D 11 = false → w'.ownsRow 0 195 3 (.slice Q j cq) j css.flatten) ∧ (D 11 = false → Els snpF w' css fps (y.snaps.take j)) ∧ (D 0 = true → v27 = .pointer (some ⟨gx, 1, none⟩)) ∧ (D 1 = true → v28 = .slice Q j cq) ∧ (D 2 = true → v29 = .pointer (some ⟨gy, 0, none⟩)) ∧ (D 3 = true → v30 = .string v.nm) ∧ (D 4 = true → v31 = .pointer (some ⟨gy, 1, none⟩)) ∧ (D 5 = true → v32 = .string v.tg) ∧ (D 6 = true → v33 = .pointer (some ⟨gy, 2, none⟩)) ∧ (D 7 = true → v34 = .slice E1 em ed) ∧ (D 8 = true → (D 9 = false → ∃ (E2 : Option Addr) (ed2 : Nat) (f2 : List Nat), v35 = .slice E2 em ed2 ∧ f2.Nodup ∧ (∀ b ∈ f2, Y.heap.size ≤ b ∧ b < w'.heap.size) ∧ StrO f2 w' E2 em ed2 v.ch)) ∧ (D 9 = true → (D 10 = false → ∃ (E2 : Option Addr) (ed2 : Nat) (f2 : List Nat), v36 = .agg #[.string v.nm, .string v.tg, .slice E2 em ed2] ∧ f2.Nodup ∧ (∀ b ∈ f2, Y.heap.size ≤ b ∧ b < w'.heap.size) ∧ StrO f2 w' E2 em ed2 v.ch)) ∧ (D 10 = true → (D 11 = false → ∃ (gb : Nat) (E2 : Option Addr) (ed2 : Nat) (f2 : List Nat), v37 = .slice (some ⟨gb, 0, none⟩) 1 1 ∧ CellsAt w' (some ⟨gb, 0, none⟩) 1 3 [.string v.nm, .string v.tg, .slice E2 em ed2] ∧ f2.Nodup ∧ (∀ b ∈ f2, Y.heap.size ≤ b ∧ b < w'.heap.size) ∧ StrO f2 w' E2 em ed2 v.ch)) ∧ (D 11 = true → (D 13 = false → ∃ (A' : Option Addr) (c' : Nat) (fp' : List Nat), v38 = .slice A' (j + 1) c' ∧ RowO snpF 195 3 fp' w' A' (j + 1) c' (y.snaps.take j ++ [v]) ∧ fp'.Nodup ∧ ∀ b ∈ fp', V.heap.size ≤ b)) ∧ (D 12 = true → v39 = .pointer (some ⟨gx, 1, none⟩)) ∧ (D 13 = true → ∃ (A' : Option Addr) (c' : Nat) (fp' : List Nat), BoxL w' gx [.string y.nm, .slice A' (j + 1) c'] ∧ RowO snpF 195 3 fp' w' A' (j + 1) c' (y.snaps.take j ++ [v]) ∧ fp'.Nodup ∧ ∀ b ∈ fp', V.heap.size ≤ b))
            ⟨_, _, _, _, _, _, _, _, _, _, _, _, _, rfl, (fun _ => (Below.refl _ _).drew), (hChY.trans (Ch.of_below (S := (fun b => b = gx ∨ V.heap.size ≤ b)) (Below.refl _ _).drew)), (by simp), (fun _ => BX2.keep (Below.refl _ _).drew), (BY.keep (Below.refl _ _).drew), (fun _ => own_chL own (Ch.of_below (S := fun _ => False) (Below.refl _ _).drew) (fun _ _ h => h)), (fun _ => EQ.keep snpK (Below.refl _ _).drew), (fun h => by cases h), (fun h => by cases h), (fun h => by cases h), (fun h => by cases h), (fun h => by cases h), (fun h => by cases h), (fun h => by cases h), (fun h => by cases h), (fun h => by cases h), (fun h => by cases h), (fun h => by cases h), (fun h => by cases h), (fun h => by cases h), (fun h => by cases h)⟩ ?_ ?_
          · intro i D vs w' hi hD hdep hcl hI
            have hi' : i < 14 := hi
            obtain ⟨v27, v28, v29, v30, v31, v32, v33, v34, v35, v36, v37, v38, v39, rfl, hb, hC, hzz, hX, hYb, hown, hE, k0, k1, k2, k3, k4, k5, k6, k7, k8, k9, k10, k11, k12, k13⟩ := hI
            simp only [putAll, List.setIfInBounds_toArray, List.set_cons_succ, List.set_cons_zero]
            rcases (show i = 0 ∨ i = 1 ∨ i = 2 ∨ i = 3 ∨ i = 4 ∨ i = 5 ∨ i = 6 ∨ i = 7 ∨ i = 8 ∨ i = 9 ∨ i = 10 ∨ i = 11 ∨ i = 12 ∨ i = 13 by omega) with rfl | rfl | rfl | rfl | rfl | rfl | rfl | rfl | rfl | rfl | rfl | rfl | rfl | rfl
            · refine wpOp_step (by simp only [List.getElem?_toArray, List.getElem?_cons_zero]; rfl) (fun K hK => ?_)
              go_simp
              refine hK _ _ ⟨[.pointer (some ⟨gx, 1, none⟩), v28, v29, v30, v31, v32, v33, v34, v35, v36, v37, v38, v39], ?_, _, _, _, _, _, _, _, _, _, _, _, _, _, rfl, hb, hC, hzz, hX, hYb, hown, hE, (fun _ => rfl), k1, k2, k3, k4, k5, k6, k7, k8, k9, k10, k11, k12, k13⟩
              simp only [putAll, List.setIfInBounds_toArray, List.set_cons_succ, List.set_cons_zero] <;> rfl
            · have e0 := k0 (hdep 0 (by kernel_rfl))
              subst e0
              have n13 : D 13 = false := Bool.eq_false_iff.2 (fun h => absurd (hcl 11 1 (hcl 13 11 h (by kernel_rfl)) (by kernel_rfl)) (by rw [hD]; simp))
              have q7 := (hX n13).cell 1 _ rfl
              refine wpOp_step (by simp only [List.getElem?_toArray, List.getElem?_cons_succ, List.getElem?_cons_zero]; rfl) (fun K hK => ?_)
              go_simp
              refine hK _ _ ⟨[.pointer (some ⟨gx, 1, none⟩), .slice Q j cq, v29, v30, v31, v32, v33, v34, v35, v36, v37, v38, v39], ?_, _, _, _, _, _, _, _, _, _, _, _, _, _, rfl, hb, hC, hzz, hX, hYb, hown, hE, (fun _ => rfl), (fun _ => rfl), k2, k3, k4, k5, k6, k7, k8, k9, k10, k11, k12, k13⟩
              simp only [putAll, List.setIfInBounds_toArray, List.set_cons_succ, List.set_cons_zero] <;> rfl
            · refine wpOp_step (by simp only [List.getElem?_toArray, List.getElem?_cons_succ, List.getElem?_cons_zero]; rfl) (fun K hK => ?_)
              go_simp
              refine hK _ _ ⟨[v27, v28, .pointer (some ⟨gy, 0, none⟩), v30, v31, v32, v33, v34, v35, v36, v37, v38, v39], ?_, _, _, _, _, _, _, _, _, _, _, _, _, _, rfl, hb, hC, hzz, hX, hYb, hown, hE, k0, k1, (fun _ => rfl), k3, k4, k5, k6, k7, k8, k9, k10, k11, k12, k13⟩
              simp only [putAll, List.setIfInBounds_toArray, List.set_cons_succ, List.set_cons_zero] <;> rfl
            · have e2 := k2 (hdep 2 (by kernel_rfl))
              subst e2
              have q7 := hYb.cell 0 _ rfl
              refine wpOp_step (by simp only [List.getElem?_toArray, List.getElem?_cons_succ, List.getElem?_cons_zero]; rfl) (fun K hK => ?_)
              go_simp
              refine hK _ _ ⟨[v27, v28, .pointer (some ⟨gy, 0, none⟩), .string v.nm, v31, v32, v33, v34, v35, v36, v37, v38, v39], ?_, _, _, _, _, _, _, _, _, _, _, _, _, _, rfl, hb, hC, hzz, hX, hYb, hown, hE, k0, k1, (fun _ => rfl), (fun _ => rfl), k4, k5, k6, k7, k8, k9, k10, k11, k12, k13⟩
              simp only [putAll, List.setIfInBounds_toArray, List.set_cons_succ, List.set_cons_zero] <;> rfl
            · refine wpOp_step (by simp only [List.getElem?_toArray, List.getElem?_cons_succ, List.getElem?_cons_zero]; rfl) (fun K hK => ?_)
              go_simp
              refine hK _ _ ⟨[v27, v28, v29, v30, .pointer (some ⟨gy, 1, none⟩), v32, v33, v34, v35, v36, v37, v38, v39], ?_, _, _, _, _, _, _, _, _, _, _, _, _, _, rfl, hb, hC, hzz, hX, hYb, hown, hE, k0, k1, k2, k3, (fun _ => rfl), k5, k6, k7, k8, k9, k10, k11, k12, k13⟩
              simp only [putAll, List.setIfInBounds_toArray, List.set_cons_succ, List.set_cons_zero] <;> rfl
            · have e4 := k4 (hdep 4 (by kernel_rfl))
              subst e4
              have q7 := hYb.cell 1 _ rfl
              refine wpOp_step (by simp only [List.getElem?_toArray, List.getElem?_cons_succ, List.getElem?_cons_zero]; rfl) (fun K hK => ?_)
              go_simp
              refine hK _ _ ⟨[v27, v28, v29, v30, .pointer (some ⟨gy, 1, none⟩), .string v.tg, v33, v34, v35, v36, v37, v38, v39], ?_, _, _, _, _, _, _, _, _, _, _, _, _, _, rfl, hb, hC, hzz, hX, hYb, hown, hE, k0, k1, k2, k3, (fun _ => rfl), (fun _ => rfl), k6, k7, k8, k9, k10, k11, k12, k13⟩
              simp only [putAll, List.setIfInBounds_toArray, List.set_cons_succ, List.set_cons_zero] <;> rfl
            · refine wpOp_step (by simp only [List.getElem?_toArray, List.getElem?_cons_succ, List.getElem?_cons_zero]; rfl) (fun K hK => ?_)
              go_simp
              refine hK _ _ ⟨[v27, v28, v29, v30, v31, v32, .pointer (some ⟨gy, 2, none⟩), v34, v35, v36, v37, v38, v39], ?_, _, _, _, _, _, _, _, _, _, _, _, _, _, rfl, hb, hC, hzz, hX, hYb, hown, hE, k0, k1, k2, k3, k4, k5, (fun _ => rfl), k7, k8, k9, k10, k11, k12, k13⟩
              simp only [putAll, List.setIfInBounds_toArray, List.set_cons_succ, List.set_cons_zero] <;> rfl
            · have e6 := k6 (hdep 6 (by kernel_rfl))
              subst e6
              have q7 := hYb.cell 2 _ rfl
              refine wpOp_step (by simp only [List.getElem?_toArray, List.getElem?_cons_succ, List.getElem?_cons_zero]; rfl) (fun K hK => ?_)
              go_simp
              refine hK _ _ ⟨[v27, v28, v29, v30, v31, v32, .pointer (some ⟨gy, 2, none⟩), .slice E1 em ed, v35, v36, v37, v38, v39], ?_, _, _, _, _, _, _, _, _, _, _, _, _, _, rfl, hb, hC, hzz, hX, hYb, hown, hE, k0, k1, k2, k3, k4, k5, (fun _ => rfl), (fun _ => rfl), k8, k9, k10, k11, k12, k13⟩
              simp only [putAll, List.setIfInBounds_toArray, List.set_cons_succ, List.set_cons_zero] <;> rfl
            · have e7 := k7 (hdep 7 (by kernel_rfl))
              subst e7
              have n9 : D 9 = false := Bool.eq_false_iff.2 (fun h => absurd (hcl 9 8 h (by kernel_rfl)) (by rw [hD]; simp))
              have n10 : D 10 = false := Bool.eq_false_iff.2 (fun h => absurd (hcl 9 8 (hcl 10 9 h (by kernel_rfl)) (by kernel_rfl)) (by rw [hD]; simp))
              have n11 : D 11 = false := Bool.eq_false_iff.2 (fun h => absurd (hcl 9 8 (hcl 10 9 (hcl 11 10 h (by kernel_rfl)) (by kernel_rfl)) (by kernel_rfl)) (by rw [hD]; simp))
              have n13 : D 13 = false := Bool.eq_false_iff.2 (fun h => absurd (hcl 9 8 (hcl 10 9 (hcl 11 10 (hcl 13 11 h (by kernel_rfl)) (by kernel_rfl)) (by kernel_rfl)) (by kernel_rfl)) (by rw [hD]; simp))
              refine wpOp_step (by simp only [List.getElem?_toArray, List.getElem?_cons_succ, List.getElem?_cons_zero]; rfl) (fun K hK => ?_)
              go_simp
              refine (copyTextsT E1 em ed v.ch _ (vY.keep (hb n11)).at_r' vY.nilcap (by omega)).mono ?_
              rintro e w4_ ⟨E2, ed2, rfl, hin, hb4⟩
              obtain ⟨f2, hn2, hf2, so2⟩ := strO_in hin
              refine hK _ _ ⟨[v27, v28, v29, v30, v31, v32, v33, .slice E1 em ed, .slice E2 em ed2, v36, v37, v38, v39], ?_, _, _, _, _, _, _, _, _, _, _, _, _, _, rfl, (fun h' => bthen (hb h') hb4), (hC.trans (Ch.of_below hb4)), (Nat.le_trans hzz hb4.size), (fun h' => (hX h').keep hb4), (hYb.keep hb4), (fun h' => own_chL (hown h') (Ch.of_below (S := fun _ => False) hb4) (fun _ _ h => h)), (fun h' => (hE h').keep snpK hb4), k0, k1, k2, k3, k4, k5, k6, (fun _ => rfl), (fun _ _ => ⟨E2, ed2, f2, rfl, hn2, fun b hb => ⟨by have := (hf2 b hb).1; omega, (hf2 b hb).2⟩, so2⟩), (fun h => by rw [show D 9 = true from by simpa using h] at n9; cases n9), (fun h => by rw [show D 10 = true from by simpa using h] at n10; cases n10), (fun h => by rw [show D 11 = true from by simpa using h] at n11; cases n11), k12, (fun h => by rw [show D 13 = true from by simpa using h] at n13; cases n13)⟩
              simp only [putAll, List.setIfInBounds_toArray, List.set_cons_succ, List.set_cons_zero] <;> rfl
            · have e3 := k3 (hdep 3 (by kernel_rfl))
              subst e3
              have e5 := k5 (hdep 5 (by kernel_rfl))
              subst e5
              obtain z8 := k8 (hdep 8 (by kernel_rfl))
              obtain ⟨E2, ed2, f2, rfl, hn2, hf2, so2⟩ := z8 hD
              refine wpOp_step (by simp only [List.getElem?_toArray, List.getElem?_cons_succ, List.getElem?_cons_zero]; rfl) (fun K hK => ?_)
              go_simp
              refine hK _ _ ⟨[v27, v28, v29, .string v.nm, v31, .string v.tg, v33, v34, .slice E2 em ed2, .agg #[.string v.nm, .string v.tg, .slice E2 em ed2], v37, v38, v39], ?_, _, _, _, _, _, _, _, _, _, _, _, _, _, rfl, hb, hC, hzz, hX, hYb, hown, hE, k0, k1, k2, (fun _ => rfl), k4, (fun _ => rfl), k6, k7, (fun _ h => absurd h (by simp)), (fun _ _ => ⟨E2, ed2, f2, rfl, hn2, hf2, so2⟩), k10, k11, k12, k13⟩
              simp only [putAll, List.setIfInBounds_toArray, List.set_cons_succ, List.set_cons_zero] <;> rfl
            · obtain z9 := k9 (hdep 9 (by kernel_rfl))
              have n11 : D 11 = false := Bool.eq_false_iff.2 (fun h => absurd (hcl 11 10 h (by kernel_rfl)) (by rw [hD]; simp))
              have n13 : D 13 = false := Bool.eq_false_iff.2 (fun h => absurd (hcl 11 10 (hcl 13 11 h (by kernel_rfl)) (by kernel_rfl)) (by rw [hD]; simp))
              obtain ⟨E2, ed2, f2, rfl, hn2, hf2, so2⟩ := z9 hD
              have hal := (Below.refl w'.heap.size w').alloc (Nat.le_refl _) (.cells #[.string v.nm, .string v.tg, .slice E2 em ed2] 195)
              refine wpOp_step (by simp only [List.getElem?_toArray, List.getElem?_cons_succ, List.getElem?_cons_zero]; rfl) (fun K hK => ?_)
              go_simp
              refine hK _ _ ⟨[v27, v28, v29, v30, v31, v32, v33, v34, v35, .agg #[.string v.nm, .string v.tg, .slice E2 em ed2], .slice (some ⟨w'.heap.size, 0, none⟩) 1 1, v38, v39], ?_, _, _, _, _, _, _, _, _, _, _, _, _, _, rfl, (fun h' => bthen (hb h') hal), (hC.trans (Ch.of_below hal)), (Nat.le_trans hzz hal.size), (fun h' => (hX h').keep hal), (hYb.keep hal), (fun h' => own_chL (hown h') (Ch.of_below (S := fun _ => False) hal) (fun _ _ h => h)), (fun h' => (hE h').keep snpK hal), k0, k1, k2, k3, k4, k5, k6, k7, (fun _ h => by have d9 := hdep 9 (by kernel_rfl); rw [show D 9 = false from by simpa using h] at d9; cases d9), (fun _ h => absurd h (by simp)), (fun _ _ => ⟨_, E2, ed2, f2, rfl, new1c _ [.string v.nm, .string v.tg, .slice E2 em ed2] 3 rfl _, hn2, fun b hb => ⟨(hf2 b hb).1, Nat.lt_of_lt_of_le (hf2 b hb).2 hal.size⟩, so2.keep hal⟩), (fun h => by rw [show D 11 = true from by simpa using h] at n11; cases n11), k12, (fun h => by rw [show D 13 = true from by simpa using h] at n13; cases n13)⟩
              simp only [putAll, List.setIfInBounds_toArray, List.set_cons_succ, List.set_cons_zero] <;> rfl
            · have e1 := k1 (hdep 1 (by kernel_rfl))
              subst e1
              obtain z10 := k10 (hdep 10 (by kernel_rfl))
              have n13 : D 13 = false := Bool.eq_false_iff.2 (fun h => absurd (hcl 13 11 h (by kernel_rfl)) (by rw [hD]; simp))
              obtain ⟨gb, E2, ed2, f2, rfl, hcl4, hn2, hf2, so2⟩ := z10 hD
              refine wpOp_step (by simp only [List.getElem?_toArray, List.getElem?_cons_succ, List.getElem?_cons_zero]; rfl) (fun K hK => ?_)
              refine step_app (by rfl) (.tmp 28) (.tmp 37) 163 (by rfl) 0 195 _ 3 56 Tryz.underlying163 snpInfo rfl (by omega) (.slice Q j cq) j css.flatten (by rfl) (hown hD) (some ⟨gb, 0, none⟩) 1 1 [.string v.nm, .string v.tg, .slice E2 em ed2] (by rfl) hcl4 (by simp [Value.oneCell']) (fun h => by cases h) (by unfold maxLen; omega) (by omega) (Nat.zero_le _) ?_
              intro A' c' wq2 own5 hg5 hb5 hob5
              have hNN : ((blkL Q ++ fps.flatten) ++ f2).Nodup := nodup_new (m := Y.heap.size) hNQ2 hn2 (fun x hx => by have := hlt2 x hx; omega) (fun x hx => (hf2 x hx).1)
              obtain ⟨fp', RO5, hN5, hF5, hc5⟩ := row_app1 (x := v) snpK HLQ.out (hE hD) (snpF_of so2) hNN own5 hg5 hob5 (Nat.le_refl _)
              have hq5 : ∀ b ∈ blkL Q, V.heap.size ≤ b ∧ b < wq.heap.size := fun b hb => ⟨hge2 b (List.mem_append_left _ hb), hlt2 b (List.mem_append_left _ hb)⟩
              refine hK _ _ ⟨[v27, .slice Q j cq, v29, v30, v31, v32, v33, v34, v35, v36, .slice (some ⟨gb, 0, none⟩) 1 1, .slice A' (j + 1) c', v39], ?_, _, _, _, _, _, _, _, _, _, _, _, _, _, rfl, (fun h => absurd h (by simp)), (hC.trans (hc5.mono (fun b hb => .inr (hq5 b hb).1))), (Nat.le_trans hzz hc5.size), (fun h' => (hX h').ch hc5 (fun hb => by have := (hq5 _ hb).1; omega)), (hYb.ch hc5 (fun hb => by have := (hq5 _ hb).2; omega)), (fun h => absurd h (by simp)), (fun h => absurd h (by simp)), k0, (fun _ => rfl), k2, k3, k4, k5, k6, k7, (fun _ h => by have d9 := hcl 10 9 (hdep 10 (by kernel_rfl)) (by kernel_rfl); rw [show D 9 = false from by simpa using h] at d9; cases d9), (fun _ h => by have d10 := hdep 10 (by kernel_rfl); rw [show D 10 = false from by simpa using h] at d10; cases d10), (fun _ h => absurd h (by simp)), (fun _ _ => ⟨A', c', fp', rfl, RO5, hN5, fun b hb => by have h3 := hF5 b hb; have h4 := hge2 b; have h5 := hf2 b; rcases h3 with h1 | h1 | h1; (exact h4 h1); (have := (h5 h1).1; omega); omega⟩), k12, (fun h => by rw [show D 13 = true from by simpa using h] at n13; cases n13)⟩
              simp only [Act.put, putAll, List.setIfInBounds_toArray, List.set_cons_succ, List.set_cons_zero] <;> rfl
            · refine wpOp_step (by simp only [List.getElem?_toArray, List.getElem?_cons_succ, List.getElem?_cons_zero]; rfl) (fun K hK => ?_)
              go_simp
              refine hK _ _ ⟨[v27, v28, v29, v30, v31, v32, v33, v34, v35, v36, v37, v38, .pointer (some ⟨gx, 1, none⟩)], ?_, _, _, _, _, _, _, _, _, _, _, _, _, _, rfl, hb, hC, hzz, hX, hYb, hown, hE, k0, k1, k2, k3, k4, k5, k6, k7, k8, k9, k10, k11, (fun _ => rfl), k13⟩
              simp only [putAll, List.setIfInBounds_toArray, List.set_cons_succ, List.set_cons_zero] <;> rfl
            · obtain z11 := k11 (hdep 11 (by kernel_rfl))
              have e12 := k12 (hdep 12 (by kernel_rfl))
              subst e12
              obtain ⟨A', c', fp', rfl, RO5, hN5, hF5⟩ := z11 hD
              have hXn := hX hD
              have q7 := hXn.cell 1 _ rfl
              have y7 := hXn.fz 1 (by simp)
              have d11 : D 11 = true := hdep 11 (by kernel_rfl)
              have one : Ch (fun k => k = gx) w' (w'.setCell ⟨gx, 1, none⟩ (.slice A' (j + 1) c')) := Ch.set
              refine wpOp_step (by simp only [List.getElem?_toArray, List.getElem?_cons_succ, List.getElem?_cons_zero]; rfl) (fun K hK => ?_)
              go_simp
              refine hK _ _ ⟨[v27, v28, v29, v30, v31, v32, v33, v34, v35, v36, v37, .slice A' (j + 1) c', .pointer (some ⟨gx, 1, none⟩)], ?_, _, _, _, _, _, _, _, _, _, _, _, _, _, rfl, (fun h' => by rw [show D 11 = false from by simpa using h'] at d11; cases d11), (hC.trans (one.mono (fun b hb => .inl hb))), (Nat.le_trans hzz one.size), (fun h => absurd h (by simp)), (hYb.ch one (ne_blk (by omega))), (fun h' => by rw [show D 11 = false from by simpa using h'] at d11; cases d11), (fun h' => by rw [show D 11 = false from by simpa using h'] at d11; cases d11), k0, k1, k2, k3, k4, k5, k6, k7, (fun _ h => by have d9 := hcl 10 9 (hcl 11 10 d11 (by kernel_rfl)) (by kernel_rfl); rw [show D 9 = false from by simpa using h] at d9; cases d9), (fun _ h => by have d10 := hcl 11 10 d11 (by kernel_rfl); rw [show D 10 = false from by simpa using h] at d10; cases d10), (fun _ h => by rw [show D 11 = false from by simpa using h] at d11; cases d11), (fun _ h => absurd h (by simp)), (fun _ => rfl), (fun _ => ⟨A', c', fp', hXn.set (j := 1) (by simp), RO5.ch snpK one (fun b hb h2 => by have h2 : b = gx := h2; have := hF5 b hb; omega), hN5, hF5⟩)⟩
              simp only [putAll, List.setIfInBounds_toArray, List.set_cons_succ, List.set_cons_zero] <;> rfl
          · intro D vs w' hD hI
            obtain ⟨v27, v28, v29, v30, v31, v32, v33, v34, v35, v36, v37, v38, v39, rfl, hb, hC, hzz, hX, hYb, hown, hE, k0, k1, k2, k3, k4, k5, k6, k7, k8, k9, k10, k11, k12, k13⟩ := hI
            simp only [putAll, List.setIfInBounds_toArray, List.set_cons_succ, List.set_cons_zero]
            obtain ⟨A', c', fp', X6, RO6, hN6, hF6⟩ := k13 (hD 13 (show 13 < 14 by decide))
            clear hD hb hX hown hE
            go_wp2
            exact ⟨⟨j + 1, A', c', fp', by omega, by go_num, X6, by rw [HTV.out]; exact RO6, hN6, hF6, hC, by omega⟩, by simp [intOf]; omega⟩
        · skip
          have HJ := Lib.hid (show y.snaps.take j = y.snaps from List.take_of_length_le (by have := HM.out; omega))
          rw [HJ.out] at RQ
          have ROq := RO'.ch cstK hCh (fun b hb => by have := hRl b hb; omega)
          obtain ⟨css2, fps2, rfl, own2, hlP, E2⟩ := ROq.ex
          have HLP := Lib.hid hlP; clear hlP
          have x0 := BX.cell 0 _ rfl; have x1 := BX.cell 1 _ rfl; have xl := BX.lt
          have o0 := BOq.cell 0 _ rfl; have of0 := BOq.fz 0 (by simp); have ol := BOq.lt
          have iltq : ¬ ((j : Int) < (m1 : Int)) := by omega
          have hk5 : k ≤ 1000 := by omega
          go_wp2_with (first | (at_builtin; refine wpList_app1g (P := Tryz.prog) wq rfl (.tmp 42) (.tmp 44) 25 rfl 0 165 _ 2 40 Tryz.underlying25 cstInfo rfl (by omega) (.slice P k cp) _ _ rfl own2 #[.string y.nm, .slice Q j cq] _ rfl (by simp) rfl (by simp [Value.oneCell']) (by unfold maxLen; omega) (by omega) (Nat.zero_le _) ?_; intro A' c' w8 own8 hgr hb8 hob; refine stop_of ?_) | fail)
          have hge8 : ∀ b ∈ blkL P ++ fps2.flatten, W.heap.size ≤ b ∧ b < wr.heap.size := fun b hb => ⟨hFP b hb, hRl b hb⟩
          have hNN : ((blkL P ++ fps2.flatten) ++ fq).Nodup := nodup_new (m := V.heap.size) hND hNQ (fun x hx => by have := (hge8 x hx).2; omega) (fun x hx => hFQ x hx)
          obtain ⟨fp', RO8, hN8, hF8, hc8⟩ := row_app1 (x := y) cstK HLP.out E2 (cstF_of RQ) hNN own8 hgr hob (by omega)
          have hq8 : ∀ b ∈ blkL P, W.heap.size ≤ b := fun b hb => (hge8 b (List.mem_append_left _ hb)).1
          have BP8 := BPq.ch hc8 (fun hb => by have := hq8 _ hb; omega); have BR8 := BRq.ch hc8 (fun hb => by have := hq8 _ hb; omega); have BO8 := BOq.ch hc8 (fun hb => by have := hq8 _ hb; omega)
          have hB8 := hc8.belowB hBq (by have := hBq.size; omega) (fun b hb => by have := hq8 b hb; have := HG.out; omega)
          have hz8 := hc8.size
          clear own2 E2 own8 hgr hob o0 of0 ol x0 x1 xl BX ROq
          have o0 := BO8.cell 0 _ rfl; have of0 := BO8.fz 0 (by simp); have ol := BO8.lt
          unfold Stop
          go_wp2
          have d : Ch (fun k => k = g + 1 + 1) w8 (w8.setCell ⟨g + 1 + 1, 0, none⟩ (.slice A' (k + 1) c')) := Ch.set
          have hF9 : ∀ b ∈ fp', W.heap.size ≤ b := fun b hb => by
            rcases hF8 b hb with h1 | h1 | h1
            · exact (hge8 b h1).1
            · have := hFQ b h1; omega
            · omega
          have RO9 := RO8.ch cstK d (fun b hb h2 => by have h2 : b = g + 1 + 1 := h2; have := hF9 b hb; omega)
          have hdz := d.size
          refine ⟨⟨k + 1, A', c', fp', by omega, by go_num, BP8.ch d (ne_blk (by omega)), BR8.ch d (ne_blk (by omega)), by simpa using BO8.set (j := 0) (v := .slice A' (k + 1) c') (by simp), by rw [HT.out]; exact RO9, hN8, hF9, d.belowB hB8 (by have := hB8.size; omega) (fun b hb => by have hb : b = _ := hb; have := HG.out; omega), by omega⟩, by simp [intOf]; omega⟩
    · skip
      have hkn : k = n := by omega
      have HK := Lib.hid (show x.sets.take k = x.sets from List.take_of_length_le (by have := HL.out; omega))
      rw [HK.out] at RO
      have o0 := BO.cell 0 _ rfl; have ol := BO.lt; have r0 := BR.cell 0 _ rfl; have rf := BR.fz 0 (by simp); have rl := BR.lt; have p0 := BP.cell 0 _ rfl; have pl := BP.lt
      have ilt : ¬ ((k : Int) < (n : Int)) := by omega
      clear hkn
      have hWr : (wr.setCell ⟨g + 1, 0, none⟩ (.slice P k cp)).rangeAt (g + 1) 0 [.slice P k cp] := by have := (BR.set (j := 0) (v := .slice P k cp) (by simp)).range; simpa using this
      repeat (first | go_values | go_skip | go_guarded | go_step | go_upon | (simp only []; go_at_K))
      try simp only [Exit.inBlock, Exit.then]
      refine bodyPost_ret (results_cell1 Tryz.results168 rfl hWr Tryz.underlying27 rfl sizeCat0) rfl ?_
      have d : Ch (fun t => t = g + 1) wr (wr.setCell ⟨g + 1, 0, none⟩ (.slice P k cp)) := Ch.set
      have RO9 := RO.ch cstK d (fun b hb h2 => by have h2 : b = g + 1 := h2; have := hFP b hb; omega)
      exact ⟨⟨P, k, cp, fp, rfl, RO9, hND, fun b hb => ⟨by have := hFP b hb; have := HG.out; omega, RO9.lt cstK b hb⟩⟩, d.belowB hB (by have := hB.size; omega) (fun b hb => by have hb : b = _ := hb; have := HG.out; omega)⟩
end Go.Proofs.YtdphdnllhmnelaaGreat
/- Where a snapshot of a name stands in a set, a set of a name in a catalog: both sides. -/
namespace Go.Proofs.YtdphdnllhmnelaaGreat
open Go.RowKit
attribute [local irreducible] RowR StrR
/-- where the first of a name stands, from k on; -1: nowhere -/
def snpFnd : List Snp → Nat → ByteArray → Int
  | [], _, _ => -1
  | x :: l, k, s => if x.nm = s then (k : Int) else snpFnd l (k + 1) s
theorem snpFnd_drop {l : List Snp} {k : Nat} (s : ByteArray) (hk : k < l.length) : snpFnd (l.drop k) k s = if (snpAt l k).nm = s then (k : Int) else snpFnd (l.drop (k + 1)) (k + 1) s := by
  rw [List.drop_eq_getElem_cons hk, snpFnd, snpAt_get hk]
theorem snpFnd_in (s : ByteArray) : ∀ (l : List Snp) (k : Nat), snpFnd l k s = -1 ∧ (∀ x ∈ l, x.nm ≠ s) ∨ ∃ j : Nat, j < l.length ∧ snpFnd l k s = ((k + j : Nat) : Int) ∧ (snpAt l j).nm = s ∧ ∀ i, i < j → (snpAt l i).nm ≠ s
  | [], k => .inl ⟨rfl, fun x h => by cases h⟩
  | x :: l, k => by
    by_cases h : x.nm = s
    · exact .inr ⟨0, by simp, by unfold snpFnd; rw [if_pos h]; rfl, h, fun i hi => absurd hi (by omega)⟩
    · rcases snpFnd_in s l (k + 1) with ⟨h1, h2⟩ | ⟨j, h1, h2, h3, h4⟩
      · refine .inl ⟨by unfold snpFnd; rw [if_neg h]; exact h1, fun y hy => ?_⟩
        rcases List.mem_cons.1 hy with rfl | hy
        · exact h
        · exact h2 y hy
      · refine .inr ⟨j + 1, by simp; omega, by unfold snpFnd; rw [if_neg h, h2]; congr 1; omega, h3, fun i hi => ?_⟩
        match i with
        | 0 => exact h
        | i + 1 => exact h4 i (by omega)
theorem sizeCSnap0 : (Tryz.prog.info? 195).map (·.size) = some 3 := by kernel_rfl
set_option maxRecDepth 8000 in
theorem snp_fn (x : Snp) (s : ByteArray) (A1 : Option Addr) (n1 c1 : Nat) (B : Nat) (w : World) (h0 : w.cell? ⟨B, 0, none⟩ = some (.string s)) :
    Calls Tryz.prog 219 #[snpV x (.slice A1 n1 c1), .pointer (some ⟨B, 0, none⟩)] w fun r w' => r = .returned (.bool (decide (x.nm = s))) ∧ Below w.heap.size w w' := by
  have hlt := cell_lt h0
  have hsb := str_beq x.nm s
  unfold snpV
  by_cases hx : x.nm = s
  · have HX := Lib.hid hx
    rw [decide_eq_true hx] at hsb
    clear hx
    go_enter Tryz.func219, Tryz.ntmps219
    go_wp2
    go_returns
    exact ⟨ret_bool (by simp [HX.out]), by go_grown⟩
  · have HX := Lib.hid hx
    rw [decide_eq_false hx] at hsb
    clear hx
    go_enter Tryz.func219, Tryz.ntmps219
    go_wp2
    go_returns
    exact ⟨ret_bool (by simp [HX.out]), by go_grown⟩
set_option maxRecDepth 8000 in
theorem snp_idx (A : Option Addr) (n c : Nat) (l : List Snp) (s : ByteArray) (B : Nat) (w : World) (h : RowR snpR 3 w A n c l) (hn : n ≤ 9223372036854775807) (h0 : w.cell? ⟨B, 0, none⟩ = some (.string s)) :
    Calls Tryz.prog 218 #[.slice A n c, .func (.func 219) #[] #[.pointer (some ⟨B, 0, none⟩)]] w fun r w' => r = .returned (.int .i64 (snpFnd l 0 s)) ∧ Below w.heap.size w w' := by
  have HL := Lib.hid h.len.symm
  go_enter Tryz.func218, Tryz.ntmps218
  go_wp2
  go_loopw [8] (fun i wr => ∃ k : Nat, k ≤ n ∧ i = .int .i64 k ∧ snpFnd l 0 s = snpFnd (l.drop k) k s ∧ Below w.heap.size w wr) (fun i _ => n - (intOf i).toNat)
  case atStart => exact ⟨0, Nat.zero_le _, rfl, rfl, Below.refl _ _⟩
  case round =>
    obtain ⟨k, hk, rfl, hx, hbr⟩ := hrel
    have HX := Lib.hid hx; clear hx
    by_cases hlt : k < n
    · obtain ⟨b, off, rfl⟩ := h.head (by omega)
      obtain ⟨bl, x, cs, hx, ⟨A1, n1, c1, rfl, _⟩, hcell⟩ := h.elem_at hlt
      have hcr : wr.rangeAt b (off + k * 3) (snpL x (.slice A1 n1 c1)) := fun j v hv => (hbr.cell (p := ⟨b, off + k * 3 + j, none⟩) bl).trans (hcell j v hv)
      have HP := Lib.hid (snpFnd_drop s (show k < l.length by have := HL.out; omega))
      have HA := Lib.hid (snpAt_of hx)
      have g0 := keep_cell hbr h0
      clear hx hcell
      unfold snpL at hcr
      repeat (first | ((with_reducible refine wpList_load_o 195 (.tmp 14) b (off + k * 3) _ _ hcr Tryz.underlying195 sizeCSnap0 ?_ ?_ ?_ ?_ ?_ ?_); (rfl); (rfl); (rfl); (rfl); (rfl)) | go_values | go_skip | go_guarded | go_step | go_upon | (simp only []; go_at_K))
      refine (snp_fn x s _ _ _ B _ g0).mono ?_
      rintro r w1 ⟨rfl, hb1⟩
      by_cases hq : x.nm = s
      · rw [decide_eq_true hq]
        have HQ := Lib.hid hq
        clear hq
        go_wp2
        go_returns
        exact ⟨by rw [HX.out, HP.out, HA.out, if_pos HQ.out]; rfl, bthen hbr hb1⟩
      · rw [decide_eq_false hq]
        have HQ := Lib.hid hq
        clear hq
        go_wp2
        exact ⟨⟨k + 1, by omega, by go_num, by rw [HX.out, HP.out, HA.out, if_neg HQ.out], bthen hbr hb1⟩, by simp [intOf]; omega⟩
    · go_wp2
      go_returns
      obtain rfl : k = n := by omega
      exact ⟨by rw [HX.out, List.drop_eq_nil_of_le (by have := HL.out; omega)]; rfl, hbr⟩
set_option maxRecDepth 8000 in
theorem snpFnd_impl (x : Cst) (s : ByteArray) (A : Option Addr) (n c : Nat) (w : World) (h : RowR snpR 3 w A n c x.snaps) (hn : n ≤ 9223372036854775807) :
    Calls Tryz.prog 205 #[cstV x (.slice A n c), .string s] w fun r w' => r = .returned (.int .i64 (snpFnd x.snaps 0 s)) ∧ Below w.heap.size w w' := by
  have al1 := (Below.refl w.heap.size w).alloc (Nat.le_refl _) (.cells #[.string x.nm, .slice A n c] 165)
  have al2 := al1.alloc al1.size (.cells #[.string s] 9)
  have g0 : ((w.alloc (.cells #[.string x.nm, .slice A n c] 165)).alloc (.cells #[.string s] 9)).cell? ⟨w.heap.size + 1, 0, none⟩ = some (.string s) := by simp [go_sem]
  unfold cstV
  go_enter Tryz.func205, Tryz.ntmps205
  go_wp2_with fail
  refine (snp_idx A n c x.snaps s _ _ (h.keep snpK al2) hn g0).mono ?_
  rintro r w1 ⟨rfl, hb1⟩
  go_wp2
  go_returns
  exact ⟨rfl, bthen al2 hb1⟩
set_option maxRecDepth 8000 in
theorem snpFnd_spec (x : Cst) (s : ByteArray) (A : Option Addr) (n c : Nat) (w : World) (h : RowR snpR 3 w A n c x.snaps) (hn : n ≤ 9223372036854775807) :
    Calls Tryz.prog 195 #[cstV x (.slice A n c), .string s] w fun r w' => r = .returned (.int .i64 (snpFnd x.snaps 0 s)) ∧ Below w.heap.size w w' := by
  have HL := Lib.hid h.len.symm
  have al := (Below.refl w.heap.size w).alloc (Nat.le_refl _) (.cells #[.string x.nm, .slice A n c] 165)
  have BX := BoxL.new w [.string x.nm, .slice A n c] 165
  unfold cstV
  go_enter Tryz.func195, Tryz.ntmps195
  go_wp2_with fail
  obtain ⟨W, hW⟩ : ∃ W, W = w.alloc (.cells #[.string x.nm, .slice A n c] 165) := ⟨_, rfl⟩
  rw [← hW] at al BX ⊢
  obtain ⟨g, hg⟩ : ∃ g, w.heap.size = g := ⟨_, rfl⟩
  have HG := Lib.hid hg
  simp only [hg] at BX ⊢
  clear hW hg
  have er := BX.cell 1 _ rfl
  have hgl := BX.lt
  go_loop [5] (fun i => ∃ k : Nat, k ≤ n ∧ i = .int .i64 k ∧ snpFnd x.snaps 0 s = snpFnd (x.snaps.drop k) k s) (fun i => n - (intOf i).toNat)
  case atStart => exact ⟨0, Nat.zero_le _, rfl, rfl⟩
  case round =>
    obtain ⟨k, hk, rfl, hx⟩ := hrel
    have HX := Lib.hid hx; clear hx
    by_cases hlt : k < n
    · have h2 := h.keep snpK al
      obtain ⟨b, off, rfl⟩ := h2.head (by omega)
      obtain ⟨bl, y, cs, hy, ⟨A1, n1, c1, rfl, _⟩, hcell⟩ := h2.elem_at hlt
      have e0 : W.cell? ⟨b, off + k * 3, none⟩ = some (.string y.nm) := hcell 0 _ rfl
      have HP := Lib.hid (snpFnd_drop s (show k < x.snaps.length by have := HL.out; omega))
      have HA := Lib.hid (snpAt_of hy)
      have hsb := str_beq y.nm s
      clear hy hcell h2
      by_cases hq : y.nm = s
      · rw [decide_eq_true hq] at hsb
        have HQ := Lib.hid hq
        clear hq
        go_wp2
        go_returns
        exact ⟨by rw [HX.out, HP.out, HA.out, if_pos HQ.out]; rfl, al⟩
      · rw [decide_eq_false hq] at hsb
        have HQ := Lib.hid hq
        clear hq
        go_wp2
        exact ⟨⟨k + 1, by omega, by go_num, by rw [HX.out, HP.out, HA.out, if_neg HQ.out]⟩, by simp [intOf]; omega⟩
    · go_wp2
      go_returns
      obtain rfl : k = n := by omega
      exact ⟨by rw [HX.out, List.drop_eq_nil_of_le (by have := HL.out; omega)]; rfl, al⟩
/-- where the first of a name stands, from k on; -1: nowhere -/
def cstFnd : List Cst → Nat → ByteArray → Int
  | [], _, _ => -1
  | x :: l, k, s => if x.nm = s then (k : Int) else cstFnd l (k + 1) s
theorem cstFnd_drop {l : List Cst} {k : Nat} (s : ByteArray) (hk : k < l.length) : cstFnd (l.drop k) k s = if (cstAt l k).nm = s then (k : Int) else cstFnd (l.drop (k + 1)) (k + 1) s := by
  rw [List.drop_eq_getElem_cons hk, cstFnd, cstAt_get hk]
theorem cstFnd_in (s : ByteArray) : ∀ (l : List Cst) (k : Nat), cstFnd l k s = -1 ∧ (∀ x ∈ l, x.nm ≠ s) ∨ ∃ j : Nat, j < l.length ∧ cstFnd l k s = ((k + j : Nat) : Int) ∧ (cstAt l j).nm = s ∧ ∀ i, i < j → (cstAt l i).nm ≠ s
  | [], k => .inl ⟨rfl, fun x h => by cases h⟩
  | x :: l, k => by
    by_cases h : x.nm = s
    · exact .inr ⟨0, by simp, by unfold cstFnd; rw [if_pos h]; rfl, h, fun i hi => absurd hi (by omega)⟩
    · rcases cstFnd_in s l (k + 1) with ⟨h1, h2⟩ | ⟨j, h1, h2, h3, h4⟩
      · refine .inl ⟨by unfold cstFnd; rw [if_neg h]; exact h1, fun y hy => ?_⟩
        rcases List.mem_cons.1 hy with rfl | hy
        · exact h
        · exact h2 y hy
      · refine .inr ⟨j + 1, by simp; omega, by unfold cstFnd; rw [if_neg h, h2]; congr 1; omega, h3, fun i hi => ?_⟩
        match i with
        | 0 => exact h
        | i + 1 => exact h4 i (by omega)
theorem sizeCSet0 : (Tryz.prog.info? 165).map (·.size) = some 2 := by kernel_rfl
set_option maxRecDepth 8000 in
theorem cst_fn (x : Cst) (s : ByteArray) (A1 : Option Addr) (n1 c1 : Nat) (B : Nat) (w : World) (h0 : w.cell? ⟨B, 0, none⟩ = some (.string s)) :
    Calls Tryz.prog 204 #[cstV x (.slice A1 n1 c1), .pointer (some ⟨B, 0, none⟩)] w fun r w' => r = .returned (.bool (decide (x.nm = s))) ∧ Below w.heap.size w w' := by
  have hlt := cell_lt h0
  have hsb := str_beq x.nm s
  unfold cstV
  by_cases hx : x.nm = s
  · have HX := Lib.hid hx
    rw [decide_eq_true hx] at hsb
    clear hx
    go_enter Tryz.func204, Tryz.ntmps204
    go_wp2
    go_returns
    exact ⟨ret_bool (by simp [HX.out]), by go_grown⟩
  · have HX := Lib.hid hx
    rw [decide_eq_false hx] at hsb
    clear hx
    go_enter Tryz.func204, Tryz.ntmps204
    go_wp2
    go_returns
    exact ⟨ret_bool (by simp [HX.out]), by go_grown⟩
set_option maxRecDepth 8000 in
theorem cst_idx (A : Option Addr) (n c : Nat) (l : List Cst) (s : ByteArray) (B : Nat) (w : World) (h : RowR cstR 2 w A n c l) (hn : n ≤ 9223372036854775807) (h0 : w.cell? ⟨B, 0, none⟩ = some (.string s)) :
    Calls Tryz.prog 203 #[.slice A n c, .func (.func 204) #[] #[.pointer (some ⟨B, 0, none⟩)]] w fun r w' => r = .returned (.int .i64 (cstFnd l 0 s)) ∧ Below w.heap.size w w' := by
  have HL := Lib.hid h.len.symm
  go_enter Tryz.func203, Tryz.ntmps203
  go_wp2
  go_loopw [8] (fun i wr => ∃ k : Nat, k ≤ n ∧ i = .int .i64 k ∧ cstFnd l 0 s = cstFnd (l.drop k) k s ∧ Below w.heap.size w wr) (fun i _ => n - (intOf i).toNat)
  case atStart => exact ⟨0, Nat.zero_le _, rfl, rfl, Below.refl _ _⟩
  case round =>
    obtain ⟨k, hk, rfl, hx, hbr⟩ := hrel
    have HX := Lib.hid hx; clear hx
    by_cases hlt : k < n
    · obtain ⟨b, off, rfl⟩ := h.head (by omega)
      obtain ⟨bl, x, cs, hx, ⟨A1, n1, c1, rfl, _⟩, hcell⟩ := h.elem_at hlt
      have hcr : wr.rangeAt b (off + k * 2) (cstL x (.slice A1 n1 c1)) := fun j v hv => (hbr.cell (p := ⟨b, off + k * 2 + j, none⟩) bl).trans (hcell j v hv)
      have HP := Lib.hid (cstFnd_drop s (show k < l.length by have := HL.out; omega))
      have HA := Lib.hid (cstAt_of hx)
      have g0 := keep_cell hbr h0
      clear hx hcell
      unfold cstL at hcr
      repeat (first | ((with_reducible refine wpList_load_o 165 (.tmp 14) b (off + k * 2) _ _ hcr Tryz.underlying165 sizeCSet0 ?_ ?_ ?_ ?_ ?_ ?_); (rfl); (rfl); (rfl); (rfl); (rfl)) | go_values | go_skip | go_guarded | go_step | go_upon | (simp only []; go_at_K))
      refine (cst_fn x s _ _ _ B _ g0).mono ?_
      rintro r w1 ⟨rfl, hb1⟩
      by_cases hq : x.nm = s
      · rw [decide_eq_true hq]
        have HQ := Lib.hid hq
        clear hq
        go_wp2
        go_returns
        exact ⟨by rw [HX.out, HP.out, HA.out, if_pos HQ.out]; rfl, bthen hbr hb1⟩
      · rw [decide_eq_false hq]
        have HQ := Lib.hid hq
        clear hq
        go_wp2
        exact ⟨⟨k + 1, by omega, by go_num, by rw [HX.out, HP.out, HA.out, if_neg HQ.out], bthen hbr hb1⟩, by simp [intOf]; omega⟩
    · go_wp2
      go_returns
      obtain rfl : k = n := by omega
      exact ⟨by rw [HX.out, List.drop_eq_nil_of_le (by have := HL.out; omega)]; rfl, hbr⟩
set_option maxRecDepth 8000 in
theorem cstFnd_impl (x : Ctl) (s : ByteArray) (A : Option Addr) (n c : Nat) (w : World) (h : RowR cstR 2 w A n c x.sets) (hn : n ≤ 9223372036854775807) :
    Calls Tryz.prog 172 #[ctlV x (.slice A n c), .string s] w fun r w' => r = .returned (.int .i64 (cstFnd x.sets 0 s)) ∧ Below w.heap.size w w' := by
  have al1 := (Below.refl w.heap.size w).alloc (Nat.le_refl _) (.cells #[.slice A n c] 27)
  have al2 := al1.alloc al1.size (.cells #[.string s] 9)
  have g0 : ((w.alloc (.cells #[.slice A n c] 27)).alloc (.cells #[.string s] 9)).cell? ⟨w.heap.size + 1, 0, none⟩ = some (.string s) := by simp [go_sem]
  unfold ctlV
  go_enter Tryz.func172, Tryz.ntmps172
  go_wp2_with fail
  refine (cst_idx A n c x.sets s _ _ (h.keep cstK al2) hn g0).mono ?_
  rintro r w1 ⟨rfl, hb1⟩
  go_wp2
  go_returns
  exact ⟨rfl, bthen al2 hb1⟩
set_option maxRecDepth 8000 in
theorem cstFnd_spec (x : Ctl) (s : ByteArray) (A : Option Addr) (n c : Nat) (w : World) (h : RowR cstR 2 w A n c x.sets) (hn : n ≤ 9223372036854775807) :
    Calls Tryz.prog 166 #[ctlV x (.slice A n c), .string s] w fun r w' => r = .returned (.int .i64 (cstFnd x.sets 0 s)) ∧ Below w.heap.size w w' := by
  have HL := Lib.hid h.len.symm
  have al := (Below.refl w.heap.size w).alloc (Nat.le_refl _) (.cells #[.slice A n c] 27)
  have BX := BoxL.new w [.slice A n c] 27
  unfold ctlV
  go_enter Tryz.func166, Tryz.ntmps166
  go_wp2_with fail
  obtain ⟨W, hW⟩ : ∃ W, W = w.alloc (.cells #[.slice A n c] 27) := ⟨_, rfl⟩
  rw [← hW] at al BX ⊢
  obtain ⟨g, hg⟩ : ∃ g, w.heap.size = g := ⟨_, rfl⟩
  have HG := Lib.hid hg
  simp only [hg] at BX ⊢
  clear hW hg
  have er := BX.cell 0 _ rfl
  have hgl := BX.lt
  go_loop [5] (fun i => ∃ k : Nat, k ≤ n ∧ i = .int .i64 k ∧ cstFnd x.sets 0 s = cstFnd (x.sets.drop k) k s) (fun i => n - (intOf i).toNat)
  case atStart => exact ⟨0, Nat.zero_le _, rfl, rfl⟩
  case round =>
    obtain ⟨k, hk, rfl, hx⟩ := hrel
    have HX := Lib.hid hx; clear hx
    by_cases hlt : k < n
    · have h2 := h.keep cstK al
      obtain ⟨b, off, rfl⟩ := h2.head (by omega)
      obtain ⟨bl, y, cs, hy, ⟨A1, n1, c1, rfl, _⟩, hcell⟩ := h2.elem_at hlt
      have e0 : W.cell? ⟨b, off + k * 2, none⟩ = some (.string y.nm) := hcell 0 _ rfl
      have HP := Lib.hid (cstFnd_drop s (show k < x.sets.length by have := HL.out; omega))
      have HA := Lib.hid (cstAt_of hy)
      have hsb := str_beq y.nm s
      clear hy hcell h2
      by_cases hq : y.nm = s
      · rw [decide_eq_true hq] at hsb
        have HQ := Lib.hid hq
        clear hq
        go_wp2
        go_returns
        exact ⟨by rw [HX.out, HP.out, HA.out, if_pos HQ.out]; rfl, al⟩
      · rw [decide_eq_false hq] at hsb
        have HQ := Lib.hid hq
        clear hq
        go_wp2
        exact ⟨⟨k + 1, by omega, by go_num, by rw [HX.out, HP.out, HA.out, if_neg HQ.out]⟩, by simp [intOf]; omega⟩
    · go_wp2
      go_returns
      obtain rfl : k = n := by omega
      exact ⟨by rw [HX.out, List.drop_eq_nil_of_le (by have := HL.out; omega)]; rfl, al⟩
end Go.Proofs.YtdphdnllhmnelaaGreat
/- Cmd: how it lies in memory, the laws' helpers on it. -/
namespace Go.Proofs.YtdphdnllhmnelaaGreat
open Go.RowKit
structure Cm where
  kd : Int
  cl : Int
  no : Int
  s : ByteArray
  nm : ByteArray
  tg : ByteArray
  n : Int
  ch : List ByteArray
def cmNil : Cm := ⟨0, 0, 0, ByteArray.empty, ByteArray.empty, ByteArray.empty, 0, []⟩
def cmAt (l : List Cm) (i : Nat) : Cm := l.getD i cmNil
theorem cmAt_get {l : List Cm} {k : Nat} (h : k < l.length) : cmAt l k = l[k] := by simp [cmAt, h]
theorem cmAt_of {l : List Cm} {k : Nat} {x : Cm} (h : l[k]? = some x) : cmAt l k = x := by simp [cmAt, h]
/-- its cells, its value -/
def cmL (x : Cm) (s1 : Value) : List Value := [.int .i64 x.kd, .int .i64 x.cl, .int .i64 x.no, .string x.s, .string x.nm, .string x.tg, .int .i64 x.n, s1]
def cmV (x : Cm) (s1 : Value) : Value := .agg #[.int .i64 x.kd, .int .i64 x.cl, .int .i64 x.no, .string x.s, .string x.nm, .string x.tg, .int .i64 x.n, s1]
def cmR (w : World) (cs : List Value) (x : Cm) : Prop := ∃ (A1 : Option Addr) (n1 c1 : Nat), cs = cmL x (.slice A1 n1 c1) ∧ StrR w A1 n1 c1 x.ch
def cmF (fp : List Nat) (w : World) (cs : List Value) (x : Cm) : Prop := ∃ (A1 : Option Addr) (n1 c1 : Nat) (f1 : List Nat), cs = cmL x (.slice A1 n1 c1) ∧ fp = f1 ∧ StrO f1 w A1 n1 c1 x.ch
theorem cmK : KindOk cmR cmF 8 where
  rlen := fun h => by obtain ⟨A1, n1, c1, rfl, h1⟩ := h; rfl
  rkeep := fun h hb => by obtain ⟨A1, n1, c1, rfl, h1⟩ := h; exact ⟨A1, n1, c1, rfl, h1.keep hb⟩
  flt := fun h b hb => by
    obtain ⟨A1, n1, c1, f1, rfl, rfl, h1⟩ := h
    exact h1.lt b hb
  fch := fun h hc hS => by
    obtain ⟨A1, n1, c1, f1, rfl, rfl, h1⟩ := h
    exact ⟨A1, n1, c1, _, rfl, rfl, h1.ch hc (fun b hb => hS b (by simp [hb]))⟩
  fr := fun h => by obtain ⟨A1, n1, c1, f1, rfl, rfl, h1⟩ := h; exact ⟨A1, n1, c1, rfl, h1.at_⟩
  one := fun h v hv => by
    obtain ⟨A1, n1, c1, rfl, h1⟩ := h
    simp only [cmL, List.mem_cons, List.not_mem_nil, or_false] at hv
    rcases hv with rfl | rfl | rfl | rfl | rfl | rfl | rfl | rfl <;> rfl
/-- its bounds -/
def cmB (x : Cm) : Prop := x.s.size ≤ 9223372036854775807 ∧ x.nm.size ≤ 9223372036854775807 ∧ x.tg.size ≤ 9223372036854775807 ∧ strB x.ch
def cmsB (l : List Cm) : Prop := l.length ≤ 9223372036854775807 ∧ ∀ y ∈ l, cmB y
def cmSz (x : Cm) : Nat := x.s.size + x.nm.size + x.tg.size + strsSz x.ch
def cmsSz (l : List Cm) : Nat := l.length + (l.map cmSz).sum
theorem cms_el {l : List Cm} {i : Nat} {x : Cm} (hx : l[i]? = some x) : cmSz x ≤ cmsSz l := by have := (sum_el cmSz hx).1; unfold cmsSz; omega
/-- its marks -/
def cmCnt (x : Cm) : Nat := 1 + 1 + 1 + 1 + 1 + 1 + 1 + strsCnt x.ch
def cmTop (x : Cm) : Nat := strsCnt x.ch
def cmsCnt (l : List Cm) : Nat := (l.map cmCnt).sum
def cmMk (k : Int) (x : Cm) : Cm := ⟨k, (k + 1), (k + 1 + 1), mtx (k + 1 + 1 + 1), mtx (k + 1 + 1 + 1 + 1), mtx (k + 1 + 1 + 1 + 1 + 1), (k + 1 + 1 + 1 + 1 + 1 + 1), strsMk (k + 1 + 1 + 1 + 1 + 1 + 1 + 1) x.ch⟩
def cmsMk (k : Int) : List Cm → List Cm
  | [] => []
  | x :: l => cmMk k x :: cmsMk (k + (cmCnt x : Nat)) l
def cmTopMk (k : Int) (x : Cm) : Cm := ⟨x.kd, x.cl, x.no, x.s, x.nm, x.tg, x.n, strsMk k x.ch⟩
theorem cmsMk_len (k : Int) : ∀ l : List Cm, (cmsMk k l).length = l.length
  | [] => rfl
  | x :: l => by simp [cmsMk, cmsMk_len]
theorem cmsMk_snoc (k : Int) (x : Cm) : ∀ l : List Cm, cmsMk k (l ++ [x]) = cmsMk k l ++ [cmMk (k + (cmsCnt l : Nat)) x]
  | [] => by simp [cmsMk, cmsCnt]
  | y :: l => by
    have := cmsMk_snoc (k + (cmCnt y : Nat)) x l
    have e : k + (cmCnt y : Nat) + ((cmsCnt l : Nat) : Int) = k + ((cmsCnt (y :: l) : Nat) : Int) := by simp only [cmsCnt, List.map_cons, List.sum_cons]; push_cast; omega
    simp only [List.cons_append, cmsMk, this, e]
theorem cmsMk_at (k : Int) : ∀ (l : List Cm) (i : Nat) (x : Cm), l[i]? = some x → (cmsMk k l)[i]? = some (cmMk (k + (sumTo cmCnt l i : Nat)) x)
  | [], i, x, h => by simp at h
  | y :: l, 0, x, h => by simp at h; subst h; simp [cmsMk, sumTo]
  | y :: l, i + 1, x, h => by
    have := cmsMk_at (k + (cmCnt y : Nat)) l i x (by simpa using h)
    have e : k + (cmCnt y : Nat) + ((sumTo cmCnt l i : Nat) : Int) = k + ((sumTo cmCnt (y :: l) (i + 1) : Nat) : Int) := by simp only [sumTo, List.take_succ_cons, List.map_cons, List.sum_cons]; push_cast; omega
    simp only [cmsMk, List.getElem?_cons_succ, this, e]
theorem cm_cnt (x : Cm) : cmCnt x ≤ 7 * (1 + cmSz x) := by have g0 := strs_cnt x.ch; unfold cmCnt cmSz; omega
theorem cms_cnt : ∀ l : List Cm, cmsCnt l ≤ 7 * cmsSz l
  | [] => by simp [cmsCnt]
  | x :: l => by have h1 := cms_cnt l; have h2 := cm_cnt x; simp only [cmsCnt, cmsSz, List.map_cons, List.sum_cons, List.length_cons] at *; omega
theorem cm_top (x : Cm) : cmTop x ≤ 7 * cmSz x := by have t7 := strs_cnt x.ch; unfold cmTop cmSz; omega
attribute [local irreducible] StrR IntR StrO IntO RowR RowO StrsAt IntsAt
set_option maxRecDepth 8000 in
theorem cm_sz (x : Cm) (A1 : Option Addr) (n1 c1 : Nat) (left : Int) (w : World) (h1 : StrR w A1 n1 c1 x.ch) (hb : cmB x) (hl0 : 0 ≤ left) (hl1 : left ≤ 4611686018427387904) :
    Calls Tryz.prog 33 #[(cmV x (.slice A1 n1 c1)), .int .i64 left] w fun e w' => e = .returned (.int .i64 (szR left (cmSz x))) ∧ Below w.heap.size w w' := by
  obtain ⟨bd0, bd1, bd2, bd3⟩ := hb
  unfold cmV
  by_cases q0 : ((x.s.size : Nat) : Int) ≤ left
  · skip
    by_cases q1 : ((x.nm.size : Nat) : Int) ≤ left - ((x.s.size : Nat) : Int)
    · skip
      by_cases q2 : ((x.tg.size : Nat) : Int) ≤ left - ((x.s.size : Nat) : Int) - ((x.nm.size : Nat) : Int)
      · skip
        by_cases q3 : ((strsSz x.ch : Nat) : Int) ≤ left - ((x.s.size : Nat) : Int) - ((x.nm.size : Nat) : Int) - ((x.tg.size : Nat) : Int)
        · have R3 := Lib.hid (szR_yes (left := left - ((x.s.size : Nat) : Int) - ((x.nm.size : Nat) : Int) - ((x.tg.size : Nat) : Int)) (s := strsSz x.ch) q3)
          have R := Lib.hid (szR_yes (left := left) (s := cmSz x) (by unfold cmSz; push_cast; omega))
          go_enter Tryz.func33, Tryz.ntmps33
          go_wp2_with fail
          refine (strsR_sz x.ch _ _ _ _ _ (h1.keep (by go_grown)) bd3 (by omega) (by omega)).mono ?_
          rintro e w1 ⟨rfl, hb1⟩
          obtain ⟨hc_w1, hf_w1⟩ := bcell hb1
          have hz_w1 := hb1.size
          try simp at hz_w1
          have hB_w1 : Below w.heap.size w w1 := bthen (by go_grown) hb1
          have hz_w1_0 : w.heap.size < w1.heap.size := by omega
          rw [R3.out]
          go_wp2
          go_returns
          exact ⟨ret_int (by rw [R.out]; unfold cmSz; push_cast; omega), hB_w1⟩
        · have R := Lib.hid (szR_no (left := left) (s := cmSz x) (by unfold cmSz; push_cast; omega))
          have R3 := Lib.hid (szR_no (left := left - ((x.s.size : Nat) : Int) - ((x.nm.size : Nat) : Int) - ((x.tg.size : Nat) : Int)) (s := strsSz x.ch) (by omega))
          go_enter Tryz.func33, Tryz.ntmps33
          go_wp2_with fail
          refine (strsR_sz x.ch _ _ _ _ _ (h1.keep (by go_grown)) bd3 (by omega) (by omega)).mono ?_
          rintro e w1 ⟨rfl, hb1⟩
          obtain ⟨hc_w1, hf_w1⟩ := bcell hb1
          have hz_w1 := hb1.size
          try simp at hz_w1
          have hB_w1 : Below w.heap.size w w1 := bthen (by go_grown) hb1
          have hz_w1_0 : w.heap.size < w1.heap.size := by omega
          rw [R3.out]
          go_wp2
          go_returns
          exact ⟨ret_int R.out.symm, hB_w1⟩
      · have R := Lib.hid (szR_no (left := left) (s := cmSz x) (by unfold cmSz; push_cast; omega))
        go_enter Tryz.func33, Tryz.ntmps33
        go_wp2
        go_returns
        exact ⟨ret_int R.out.symm, by go_grown⟩
    · have R := Lib.hid (szR_no (left := left) (s := cmSz x) (by unfold cmSz; push_cast; omega))
      go_enter Tryz.func33, Tryz.ntmps33
      go_wp2
      go_returns
      exact ⟨ret_int R.out.symm, by go_grown⟩
  · have R := Lib.hid (szR_no (left := left) (s := cmSz x) (by unfold cmSz; push_cast; omega))
    go_enter Tryz.func33, Tryz.ntmps33
    go_wp2
    go_returns
    exact ⟨ret_int R.out.symm, by go_grown⟩
set_option maxRecDepth 8000 in
theorem cm_eq (x : Cm) (A1 : Option Addr) (n1 c1 : Nat) (A1' : Option Addr) (n1' c1' : Nat) (w : World) (h1 : StrR w A1 n1 c1 x.ch) (h1' : StrR w A1' n1' c1' x.ch) (hs : cmSz x ≤ 16777216) :
    Calls Tryz.prog 40 #[(cmV x (.slice A1 n1 c1)), (cmV x (.slice A1' n1' c1'))] w fun e w' => e = .returned (.bool true) ∧ Below w.heap.size w w' := by
  unfold cmSz at hs
  unfold cmV
  go_enter Tryz.func40, Tryz.ntmps40
  go_wp2_with fail
  refine (strsR_eq x.ch _ _ _ _ _ _ _ (h1.keep (by go_grown)) (h1'.keep (by go_grown)) (by omega)).mono ?_
  rintro e w1 ⟨rfl, hb1⟩
  obtain ⟨hc_w1, hf_w1⟩ := bcell hb1
  have hz_w1 := hb1.size
  try simp at hz_w1
  have hB_w1 : Below w.heap.size w w1 := bthen (by go_grown) hb1
  have hz_w1_0 : w.heap.size < w1.heap.size := by omega
  have hz_w1_1 : w.heap.size + 1 < w1.heap.size := by omega
  go_wp2
  go_returns
  exact ⟨rfl, hB_w1⟩
set_option maxRecDepth 8000 in
set_option maxHeartbeats 1000000 in
theorem cm_to (x : Cm) (A1 : Option Addr) (n1 c1 : Nat) (w : World) (h1 : StrR w A1 n1 c1 x.ch) (hs : cmSz x ≤ 1048576) :
    Calls Tryz.prog 35 #[(cmV x (.slice A1 n1 c1))] w fun e w' => ∃ (A1' : Option Addr) (n1' c1' : Nat) (f1' : List Nat), e = .returned (cmV x (.slice A1' n1' c1')) ∧ (f1').Nodup ∧ (∀ b ∈ f1', w.heap.size ≤ b ∧ b < w'.heap.size) ∧ StrO f1' w' A1' n1' c1' x.ch ∧ Below w.heap.size w w' := by
  unfold cmSz at hs
  unfold cmV
  go_enter Tryz.func35, Tryz.ntmps35
  go_wp2_with fail
  refine (strsR_to x.ch _ _ _ _ (h1.keep (by go_grown)) (by omega)).mono ?_
  rintro e w1 ⟨A1', n1', c1', rfl, ⟨f1', hN1, hF1, o1⟩, hb1⟩
  obtain ⟨hc_w1, hf_w1⟩ := bcell hb1
  have hz_w1 := hb1.size
  try simp at hz_w1
  have hB_w1 : Below w.heap.size w w1 := bthen (by go_grown) hb1
  have hz_w1_0 : w.heap.size < w1.heap.size := by omega
  have hz_w1_1 : w.heap.size + 1 < w1.heap.size := by omega
  have hz_w1_2 : w.heap.size + 1 + 1 < w1.heap.size := by omega
  have hG1 : ∀ b ∈ f1', w.heap.size + 3 ≤ b ∧ b < w1.heap.size := fun b hb => by have := hF1 b hb; have hzz := hz_w1; simp at this; omega
  have k0 : w1.cell? ⟨w.heap.size + 1, 0, none⟩ = some (.int .i64 0) := (keep_cell hb1 (by first | (simp [go_sem]; done) | (simp [go_sem]; rfl)))
  have k1 : w1.cell? ⟨w.heap.size + 1, 1, none⟩ = some (.int .i64 0) := (keep_cell hb1 (by first | (simp [go_sem]; done) | (simp [go_sem]; rfl)))
  have k2 : w1.cell? ⟨w.heap.size + 1, 2, none⟩ = some (.int .i64 0) := (keep_cell hb1 (by first | (simp [go_sem]; done) | (simp [go_sem]; rfl)))
  have k3 : w1.cell? ⟨w.heap.size + 1, 3, none⟩ = some (.string ByteArray.empty) := (keep_cell hb1 (by first | (simp [go_sem]; done) | (simp [go_sem]; rfl)))
  have k4 : w1.cell? ⟨w.heap.size + 1, 4, none⟩ = some (.string ByteArray.empty) := (keep_cell hb1 (by first | (simp [go_sem]; done) | (simp [go_sem]; rfl)))
  have k5 : w1.cell? ⟨w.heap.size + 1, 5, none⟩ = some (.string ByteArray.empty) := (keep_cell hb1 (by first | (simp [go_sem]; done) | (simp [go_sem]; rfl)))
  have k6 : w1.cell? ⟨w.heap.size + 1, 6, none⟩ = some (.int .i64 0) := (keep_cell hb1 (by first | (simp [go_sem]; done) | (simp [go_sem]; rfl)))
  have k7 : w1.cell? ⟨w.heap.size + 1, 7, none⟩ = some (.slice none 0 0) := (keep_cell hb1 (by first | (simp [go_sem]; done) | (simp [go_sem]; rfl)))
  have l0 : (w1.setCell ⟨w.heap.size + 1 + 1, 7, none⟩ (.slice A1' n1' c1')).cell? ⟨w.heap.size + 1, 0, none⟩ = some (.int .i64 0) := (setoff k0 (.inl (by omega)))
  have l1 : (w1.setCell ⟨w.heap.size + 1 + 1, 7, none⟩ (.slice A1' n1' c1')).cell? ⟨w.heap.size + 1, 1, none⟩ = some (.int .i64 0) := (setoff k1 (.inl (by omega)))
  have l2 : (w1.setCell ⟨w.heap.size + 1 + 1, 7, none⟩ (.slice A1' n1' c1')).cell? ⟨w.heap.size + 1, 2, none⟩ = some (.int .i64 0) := (setoff k2 (.inl (by omega)))
  have l3 : (w1.setCell ⟨w.heap.size + 1 + 1, 7, none⟩ (.slice A1' n1' c1')).cell? ⟨w.heap.size + 1, 3, none⟩ = some (.string ByteArray.empty) := (setoff k3 (.inl (by omega)))
  have l4 : (w1.setCell ⟨w.heap.size + 1 + 1, 7, none⟩ (.slice A1' n1' c1')).cell? ⟨w.heap.size + 1, 4, none⟩ = some (.string ByteArray.empty) := (setoff k4 (.inl (by omega)))
  have l5 : (w1.setCell ⟨w.heap.size + 1 + 1, 7, none⟩ (.slice A1' n1' c1')).cell? ⟨w.heap.size + 1, 5, none⟩ = some (.string ByteArray.empty) := (setoff k5 (.inl (by omega)))
  have l6 : (w1.setCell ⟨w.heap.size + 1 + 1, 7, none⟩ (.slice A1' n1' c1')).cell? ⟨w.heap.size + 1, 6, none⟩ = some (.int .i64 0) := (setoff k6 (.inl (by omega)))
  have l7 : (w1.setCell ⟨w.heap.size + 1 + 1, 7, none⟩ (.slice A1' n1' c1')).cell? ⟨w.heap.size + 1, 7, none⟩ = some (.slice none 0 0) := (setoff k7 (.inl (by omega)))
  obtain ⟨WF, hWF⟩ : ∃ WF, WF = setsW (w1.setCell ⟨w.heap.size + 1 + 1, 7, none⟩ (.slice A1' n1' c1')) (w.heap.size + 1) 0 [.int .i64 x.kd, .int .i64 x.cl, .int .i64 x.no, .string x.s, .string x.nm, .string x.tg, .int .i64 x.n, .slice A1' n1' c1'] := ⟨_, rfl⟩
  have hcs : ∀ j, j < [(.int .i64 x.kd : Value), (.int .i64 x.cl : Value), (.int .i64 x.no : Value), (.string x.s : Value), (.string x.nm : Value), (.string x.tg : Value), (.int .i64 x.n : Value), (.slice A1' n1' c1' : Value)].length → ∃ u, (w1.setCell ⟨w.heap.size + 1 + 1, 7, none⟩ (.slice A1' n1' c1')).cell? ⟨w.heap.size + 1, 0 + j, none⟩ = some u := fun j hj => by
    simp only [List.length_cons, List.length_nil] at hj
    rw [Nat.zero_add]
    rcases (show j = 0 ∨ j = 1 ∨ j = 2 ∨ j = 3 ∨ j = 4 ∨ j = 5 ∨ j = 6 ∨ j = 7 by omega) with rfl | rfl | rfl | rfl | rfl | rfl | rfl | rfl
    · exact ⟨_, l0⟩
    · exact ⟨_, l1⟩
    · exact ⟨_, l2⟩
    · exact ⟨_, l3⟩
    · exact ⟨_, l4⟩
    · exact ⟨_, l5⟩
    · exact ⟨_, l6⟩
    · exact ⟨_, l7⟩
  have r0 : WF.cell? ⟨w.heap.size + 1, 0, none⟩ = some (.int .i64 x.kd) := by rw [hWF]; have := setsW_cell _ 0 _ hcs 0 _ rfl; simpa using this
  have r1 : WF.cell? ⟨w.heap.size + 1, 1, none⟩ = some (.int .i64 x.cl) := by rw [hWF]; have := setsW_cell _ 0 _ hcs 1 _ rfl; simpa using this
  have r2 : WF.cell? ⟨w.heap.size + 1, 2, none⟩ = some (.int .i64 x.no) := by rw [hWF]; have := setsW_cell _ 0 _ hcs 2 _ rfl; simpa using this
  have r3 : WF.cell? ⟨w.heap.size + 1, 3, none⟩ = some (.string x.s) := by rw [hWF]; have := setsW_cell _ 0 _ hcs 3 _ rfl; simpa using this
  have r4 : WF.cell? ⟨w.heap.size + 1, 4, none⟩ = some (.string x.nm) := by rw [hWF]; have := setsW_cell _ 0 _ hcs 4 _ rfl; simpa using this
  have r5 : WF.cell? ⟨w.heap.size + 1, 5, none⟩ = some (.string x.tg) := by rw [hWF]; have := setsW_cell _ 0 _ hcs 5 _ rfl; simpa using this
  have r6 : WF.cell? ⟨w.heap.size + 1, 6, none⟩ = some (.int .i64 x.n) := by rw [hWF]; have := setsW_cell _ 0 _ hcs 6 _ rfl; simpa using this
  have r7 : WF.cell? ⟨w.heap.size + 1, 7, none⟩ = some (.slice A1' n1' c1') := by rw [hWF]; have := setsW_cell _ 0 _ hcs 7 _ rfl; simpa using this
  have hCW : Ch (fun b => b = w.heap.size + 1) (w1.setCell ⟨w.heap.size + 1 + 1, 7, none⟩ (.slice A1' n1' c1')) WF := by rw [hWF]; exact ch_setsW _ 0 _
  simp only [setsW, Nat.zero_add, Nat.reduceAdd] at hWF
  go_wp2
  rw [← hWF]
  clear hcs
  have hBF : Below w.heap.size w WF := (hB_w1.setCell (by dsimp only; omega) _).trans (hCW.below (fun k hk => by omega) ((hB_w1.setCell (by dsimp only; omega) _).size))
  have z1 := o1.ch (((Ch.refl (S := fun b => b < w.heap.size + 3) w1).setCell (by dsimp only; omega) _).trans (hCW.mono (fun b hb => by omega))) (fun b hb => by have := hG1 b (by simp [hb]); omega)
  have hsz : w1.heap.size ≤ WF.heap.size := by have := hCW.size; simpa using this
  have hND : (f1').Nodup := by
    have := hN1
    simpa only [List.append_assoc] using this
  have hBD : ∀ b ∈ f1', w.heap.size ≤ b ∧ b < WF.heap.size := fun b hb => by
    have := hG1 b (by simp [hb]); omega
  exact bodyPost_ret (v := .agg #[.int .i64 x.kd, .int .i64 x.cl, .int .i64 x.no, .string x.s, .string x.nm, .string x.tg, .int .i64 x.n, .slice A1' n1' c1']) (by simp [results, Tryz.results35, go_sem, r0, r1, r2, r3, r4, r5, r6, r7]) rfl ⟨A1', n1', c1', f1', rfl, hND, hBD, z1, hBF⟩
theorem cms_sz (l : List Cm) (A : Option Addr) (n c : Nat) (left : Int) (w : World) (h : RowR cmR 8 w A n c l) (hb : cmsB l) (hl0 : 0 ≤ left) (hl1 : left ≤ 4611686018427387904) :
    Calls Tryz.prog 5 #[.slice A n c, .int .i64 left] w fun e w' => e = .returned (.int .i64 (szR left (cmsSz l))) ∧ Below w.heap.size w w' := by
  have HL := Lib.hid h.len.symm
  have hn : n ≤ 9223372036854775807 := by have h1 := HL.out; have h2 := hb.1; omega
  by_cases h0 : left - n < 0
  · go_enter Tryz.func5, Tryz.ntmps5
    go_wp2
    go_returns
    refine ⟨ret_int (szR_no ?_).symm, Below.refl _ _⟩
    have := HL.out; unfold cmsSz; omega
  · go_enter Tryz.func5, Tryz.ntmps5
    go_wp2
    have E0 := Lib.hid (sumTo_zero cmSz l)
    go_loopw [1, 5] (fun u i wr => ∃ k : Nat, k ≤ n ∧ i = .int .i64 k ∧ u = .int .i64 (left - n - (sumTo cmSz l k : Nat)) ∧ 0 ≤ left - n - (sumTo cmSz l k : Nat) ∧ Below w.heap.size w wr) (fun _ i _ => n - (intOf i).toNat)
    case atStart => exact ⟨0, Nat.zero_le _, rfl, by rw [E0.out]; simp, by rw [E0.out]; omega, Below.refl _ _⟩
    case round =>
      obtain ⟨k, hk, rfl, rfl, hge, hbw⟩ := hrel
      by_cases hlt : k < n
      · obtain ⟨b, off, rfl⟩ := h.head (by omega)
        obtain ⟨bl, x, cs, hx, hR, hcell⟩ := h.elem_at hlt
        obtain ⟨A1, n1, c1, rfl, h1⟩ := hR
        have e0 := (hbw.cell (p := ⟨b, off + k * 8, none⟩) bl).trans (show w.cell? ⟨b, off + k * 8, none⟩ = some (.int .i64 x.kd) from hcell 0 _ rfl)
        have e1 := (hbw.cell (p := ⟨b, off + k * 8 + 1, none⟩) bl).trans (show w.cell? ⟨b, off + k * 8 + 1, none⟩ = some (.int .i64 x.cl) from hcell 1 _ rfl)
        have e2 := (hbw.cell (p := ⟨b, off + k * 8 + 2, none⟩) bl).trans (show w.cell? ⟨b, off + k * 8 + 2, none⟩ = some (.int .i64 x.no) from hcell 2 _ rfl)
        have e3 := (hbw.cell (p := ⟨b, off + k * 8 + 3, none⟩) bl).trans (show w.cell? ⟨b, off + k * 8 + 3, none⟩ = some (.string x.s) from hcell 3 _ rfl)
        have e4 := (hbw.cell (p := ⟨b, off + k * 8 + 4, none⟩) bl).trans (show w.cell? ⟨b, off + k * 8 + 4, none⟩ = some (.string x.nm) from hcell 4 _ rfl)
        have e5 := (hbw.cell (p := ⟨b, off + k * 8 + 5, none⟩) bl).trans (show w.cell? ⟨b, off + k * 8 + 5, none⟩ = some (.string x.tg) from hcell 5 _ rfl)
        have e6 := (hbw.cell (p := ⟨b, off + k * 8 + 6, none⟩) bl).trans (show w.cell? ⟨b, off + k * 8 + 6, none⟩ = some (.int .i64 x.n) from hcell 6 _ rfl)
        have e7 := (hbw.cell (p := ⟨b, off + k * 8 + 7, none⟩) bl).trans (show w.cell? ⟨b, off + k * 8 + 7, none⟩ = some (.slice A1 n1 c1) from hcell 7 _ rfl)
        clear hcell
        have hbx := bounds_el hb.2 hx
        obtain ⟨HSM, HSS⟩ := sum_el cmSz hx
        have HSU := Lib.hid HSS; clear HSS
        have HLE := Lib.hid (sumTo_le cmSz l (k + 1))
        by_cases hq : left - n - (sumTo cmSz l k : Nat) - ((cmSz x : Nat) : Int) < 0
        · have HR := Lib.hid (szR_no (left := left - n - (sumTo cmSz l k : Nat)) (s := cmSz x) (by omega))
          go_wp2_with fail
          refine (cm_sz x _ _ _ _ _ (h1.keep hbw) hbx (by omega) (by omega)).mono ?_
          rintro e w1 ⟨rfl, hb1⟩
          rw [HR.out]
          go_wp2
          go_returns
          refine ⟨ret_int (szR_no ?_).symm, bthen hbw hb1⟩
          have := HL.out; have := HSU.out; have := HLE.out; unfold cmsSz; omega
        · have HR := Lib.hid (szR_yes (left := left - n - (sumTo cmSz l k : Nat)) (s := cmSz x) (by omega))
          go_wp2_with fail
          refine (cm_sz x _ _ _ _ _ (h1.keep hbw) hbx (by omega) (by omega)).mono ?_
          rintro e w1 ⟨rfl, hb1⟩
          rw [HR.out]
          go_wp2
          refine ⟨⟨k + 1, by omega, by go_num, ?_, ?_, bthen hbw hb1⟩, by simp [intOf]; omega⟩
          · rw [HSU.out]; congr 1; push_cast; omega
          · rw [HSU.out]; push_cast; omega
      · go_wp2
        go_returns
        refine ⟨ret_int ?_, hbw⟩
        have h3 := sumTo_all cmSz l k (by have := HL.out; omega)
        have := HL.out
        rw [szR_yes (by unfold cmsSz; omega)]; unfold cmsSz; push_cast; omega
set_option maxRecDepth 8000 in
set_option maxHeartbeats 1000000 in
theorem cms_eq (l : List Cm) (A : Option Addr) (n c : Nat) (A' : Option Addr) (n' c' : Nat) (w : World) (h : RowR cmR 8 w A n c l) (h' : RowR cmR 8 w A' n' c' l) (hs : cmsSz l ≤ 16777216) :
    Calls Tryz.prog 11 #[.slice A n c, .slice A' n' c'] w fun e w' => e = .returned (.bool true) ∧ Below w.heap.size w w' := by
  obtain rfl : n = n' := h.len.trans h'.len.symm
  have hn : n ≤ 16777216 := by have h1 := h.len; unfold cmsSz at hs; omega
  go_enter Tryz.func11, Tryz.ntmps11
  go_wp2
  go_loopw [5] (fun i wr => ∃ (k : Nat), k ≤ n ∧ i = .int .i64 k ∧ Below w.heap.size w wr) (fun i _ => n - (intOf i).toNat)
  case atStart => exact ⟨0, Nat.zero_le _, rfl, Below.refl _ _⟩
  case round =>
    obtain ⟨k, hk, rfl, hb⟩ := hrel
    by_cases hlt : k < n
    · obtain ⟨b, off, rfl⟩ := h.head (by omega)
      obtain ⟨bl, x, cs, hx, hR, hcell⟩ := h.elem_at hlt
      obtain ⟨A1, n1, c1, rfl, h1⟩ := hR
      have e0 := (hb.cell (p := ⟨b, off + k * 8, none⟩) bl).trans (show w.cell? ⟨b, off + k * 8, none⟩ = some (.int .i64 x.kd) from hcell 0 _ rfl)
      have e1 := (hb.cell (p := ⟨b, off + k * 8 + 1, none⟩) bl).trans (show w.cell? ⟨b, off + k * 8 + 1, none⟩ = some (.int .i64 x.cl) from hcell 1 _ rfl)
      have e2 := (hb.cell (p := ⟨b, off + k * 8 + 2, none⟩) bl).trans (show w.cell? ⟨b, off + k * 8 + 2, none⟩ = some (.int .i64 x.no) from hcell 2 _ rfl)
      have e3 := (hb.cell (p := ⟨b, off + k * 8 + 3, none⟩) bl).trans (show w.cell? ⟨b, off + k * 8 + 3, none⟩ = some (.string x.s) from hcell 3 _ rfl)
      have e4 := (hb.cell (p := ⟨b, off + k * 8 + 4, none⟩) bl).trans (show w.cell? ⟨b, off + k * 8 + 4, none⟩ = some (.string x.nm) from hcell 4 _ rfl)
      have e5 := (hb.cell (p := ⟨b, off + k * 8 + 5, none⟩) bl).trans (show w.cell? ⟨b, off + k * 8 + 5, none⟩ = some (.string x.tg) from hcell 5 _ rfl)
      have e6 := (hb.cell (p := ⟨b, off + k * 8 + 6, none⟩) bl).trans (show w.cell? ⟨b, off + k * 8 + 6, none⟩ = some (.int .i64 x.n) from hcell 6 _ rfl)
      have e7 := (hb.cell (p := ⟨b, off + k * 8 + 7, none⟩) bl).trans (show w.cell? ⟨b, off + k * 8 + 7, none⟩ = some (.slice A1 n1 c1) from hcell 7 _ rfl)
      clear hcell
      obtain ⟨b', off', rfl⟩ := h'.head (by omega)
      obtain ⟨b'l, x', cs', hx', hR', hcell'⟩ := h'.elem_at hlt
      obtain rfl : x' = x := Option.some.inj (hx'.symm.trans hx)
      obtain ⟨A1', n1', c1', rfl, h1'⟩ := hR'
      have e0' := (hb.cell (p := ⟨b', off' + k * 8, none⟩) b'l).trans (show w.cell? ⟨b', off' + k * 8, none⟩ = some (.int .i64 x'.kd) from hcell' 0 _ rfl)
      have e1' := (hb.cell (p := ⟨b', off' + k * 8 + 1, none⟩) b'l).trans (show w.cell? ⟨b', off' + k * 8 + 1, none⟩ = some (.int .i64 x'.cl) from hcell' 1 _ rfl)
      have e2' := (hb.cell (p := ⟨b', off' + k * 8 + 2, none⟩) b'l).trans (show w.cell? ⟨b', off' + k * 8 + 2, none⟩ = some (.int .i64 x'.no) from hcell' 2 _ rfl)
      have e3' := (hb.cell (p := ⟨b', off' + k * 8 + 3, none⟩) b'l).trans (show w.cell? ⟨b', off' + k * 8 + 3, none⟩ = some (.string x'.s) from hcell' 3 _ rfl)
      have e4' := (hb.cell (p := ⟨b', off' + k * 8 + 4, none⟩) b'l).trans (show w.cell? ⟨b', off' + k * 8 + 4, none⟩ = some (.string x'.nm) from hcell' 4 _ rfl)
      have e5' := (hb.cell (p := ⟨b', off' + k * 8 + 5, none⟩) b'l).trans (show w.cell? ⟨b', off' + k * 8 + 5, none⟩ = some (.string x'.tg) from hcell' 5 _ rfl)
      have e6' := (hb.cell (p := ⟨b', off' + k * 8 + 6, none⟩) b'l).trans (show w.cell? ⟨b', off' + k * 8 + 6, none⟩ = some (.int .i64 x'.n) from hcell' 6 _ rfl)
      have e7' := (hb.cell (p := ⟨b', off' + k * 8 + 7, none⟩) b'l).trans (show w.cell? ⟨b', off' + k * 8 + 7, none⟩ = some (.slice A1' n1' c1') from hcell' 7 _ rfl)
      clear hcell' hx'
      have hek := cms_el hx
      have hn63 : (k : Int) < n := by omega
      go_wp2
      go_still_tail 8, (by kernel_rfl)
      change wpList _ _ _ _ _ wr.drew
      have hbd : Below w.heap.size w wr.drew := hb.drew
      generalize wr.drew = w2 at *
      go_wp2_with fail
      refine (cm_eq x' _ _ _ _ _ _ _ (h1.keep hbd) (h1'.keep hbd) (by omega)).mono ?_
      rintro e w3 ⟨rfl, hb3⟩
      go_wp2
      exact ⟨⟨k + 1, by omega, by go_num, bthen hbd hb3⟩, by simp [intOf]; omega⟩
    · go_wp2
      go_returns
      exact ⟨rfl, hb⟩
theorem infoCmd : (Tryz.prog.info? 48).map (fun i => (i.zero, i.size, i.bytes)) = some (some (.agg #[.int .i64 0, .int .i64 0, .int .i64 0, .string ByteArray.empty, .string ByteArray.empty, .string ByteArray.empty, .int .i64 0, .slice none 0 0]), 8, 104) := by kernel_rfl
set_option maxRecDepth 8000 in
set_option maxHeartbeats 2000000 in
theorem cms_to (l : List Cm) (A : Option Addr) (n c : Nat) (w : World) (h : RowR cmR 8 w A n c l) (hs : cmsSz l ≤ 1048576) :
    Calls Tryz.prog 7 #[.slice A n c] w fun e w' => ∃ A' n' c', e = .returned (.slice A' n' c') ∧ (∃ fp, fp.Nodup ∧ (∀ b ∈ fp, w.heap.size ≤ b ∧ b < w'.heap.size) ∧ RowO cmF 48 8 fp w' A' n' c' l) ∧ Below w.heap.size w w' := by
  have HL := Lib.hid h.len.symm
  have hn : n ≤ 1048576 := by have h1 := HL.out; unfold cmsSz at hs; omega
  go_enter Tryz.func7, Tryz.ntmps7
  go_wp2_with (refine wpList_mk (P := Tryz.prog) _ rfl _ _ 32 rfl w.heap.size 48 _ 8 104 Tryz.underlying32 infoCmd _ _ _ _ n rfl rfl rfl rfl (by omega) (by unfold maxLen; omega) (Nat.le_refl _) ?_; intro w1 hown1 hg1 hb1)
  clear hg1
  go_loopw [4] (fun i wr => ∃ (k : Nat) (rest : List Value) (css : List (List Value)) (fps : List (List Nat)), k ≤ n ∧ i = .int .i64 k ∧ wr.ownsRow w.heap.size 48 8 (.slice (some ⟨w.heap.size, 0, none⟩) n n) n (css.flatten ++ rest) ∧ Els cmF wr css fps (l.take k) ∧ fps.flatten.Nodup ∧ (∀ b ∈ fps.flatten, w.heap.size + 1 ≤ b ∧ b < wr.heap.size) ∧ w.heap.size < wr.heap.size ∧ Below w.heap.size w wr) (fun i _ => n - (intOf i).toNat)
  case atStart => exact ⟨0, _, [], [], Nat.zero_le _, rfl, by simpa using hown1, Els.nil, List.nodup_nil, (fun b hb => by cases hb), (own_lo hown1 w.heap.size (by simp [blkL])).2, hb1⟩
  case round =>
    obtain ⟨k, rest, css, fps, hk, rfl, hown, hE, hN, hF, hgw, hb⟩ := hrel
    have hlen : css.flatten.length = k * 8 := by rw [hE.flat cmK, List.length_take]; have := HL.out; rw [Nat.min_eq_left (by omega)]
    have hrl : rest.length = n * 8 - k * 8 := by have h1 := hown.1; rw [List.length_append] at h1; omega
    by_cases hlt : k < n
    · obtain ⟨b, off, rfl⟩ := h.head (by omega)
      obtain ⟨bl, x, cs, hx, hR, hcell⟩ := h.elem_at hlt
      obtain ⟨A1, n1, c1, rfl, h1⟩ := hR
      have e0 := (hb.cell (p := ⟨b, off + k * 8, none⟩) bl).trans (show w.cell? ⟨b, off + k * 8, none⟩ = some (.int .i64 x.kd) from hcell 0 _ rfl)
      have e1 := (hb.cell (p := ⟨b, off + k * 8 + 1, none⟩) bl).trans (show w.cell? ⟨b, off + k * 8 + 1, none⟩ = some (.int .i64 x.cl) from hcell 1 _ rfl)
      have e2 := (hb.cell (p := ⟨b, off + k * 8 + 2, none⟩) bl).trans (show w.cell? ⟨b, off + k * 8 + 2, none⟩ = some (.int .i64 x.no) from hcell 2 _ rfl)
      have e3 := (hb.cell (p := ⟨b, off + k * 8 + 3, none⟩) bl).trans (show w.cell? ⟨b, off + k * 8 + 3, none⟩ = some (.string x.s) from hcell 3 _ rfl)
      have e4 := (hb.cell (p := ⟨b, off + k * 8 + 4, none⟩) bl).trans (show w.cell? ⟨b, off + k * 8 + 4, none⟩ = some (.string x.nm) from hcell 4 _ rfl)
      have e5 := (hb.cell (p := ⟨b, off + k * 8 + 5, none⟩) bl).trans (show w.cell? ⟨b, off + k * 8 + 5, none⟩ = some (.string x.tg) from hcell 5 _ rfl)
      have e6 := (hb.cell (p := ⟨b, off + k * 8 + 6, none⟩) bl).trans (show w.cell? ⟨b, off + k * 8 + 6, none⟩ = some (.int .i64 x.n) from hcell 6 _ rfl)
      have e7 := (hb.cell (p := ⟨b, off + k * 8 + 7, none⟩) bl).trans (show w.cell? ⟨b, off + k * 8 + 7, none⟩ = some (.slice A1 n1 c1) from hcell 7 _ rfl)
      clear hcell
      have hek := cms_el hx
      go_wp2_with fail
      refine (cm_to x _ _ _ _ (h1.keep hb) (by omega)).mono ?_
      rintro e w2 ⟨B1, m1, d1, g1, rfl, hN2, hF2, o1, hb2⟩
      unfold cmV
      have hown2 := own_ch hown (Ch.of_below (S := fun _ => False) hb2) (fun _ _ h => h)
      have hz2 := hb2.size
      obtain ⟨o_0, ho_0⟩ := own_cell hown2 (j := k * 8) (by omega)
      have hf_0 := hown2.frozenAt (k * 8)
      obtain ⟨o_1, ho_1⟩ := own_cell hown2 (j := k * 8 + 1) (by omega)
      have hf_1 := hown2.frozenAt (k * 8 + 1)
      obtain ⟨o_2, ho_2⟩ := own_cell hown2 (j := k * 8 + 2) (by omega)
      have hf_2 := hown2.frozenAt (k * 8 + 2)
      obtain ⟨o_3, ho_3⟩ := own_cell hown2 (j := k * 8 + 3) (by omega)
      have hf_3 := hown2.frozenAt (k * 8 + 3)
      obtain ⟨o_4, ho_4⟩ := own_cell hown2 (j := k * 8 + 4) (by omega)
      have hf_4 := hown2.frozenAt (k * 8 + 4)
      obtain ⟨o_5, ho_5⟩ := own_cell hown2 (j := k * 8 + 5) (by omega)
      have hf_5 := hown2.frozenAt (k * 8 + 5)
      obtain ⟨o_6, ho_6⟩ := own_cell hown2 (j := k * 8 + 6) (by omega)
      have hf_6 := hown2.frozenAt (k * 8 + 6)
      obtain ⟨o_7, ho_7⟩ := own_cell hown2 (j := k * 8 + 7) (by omega)
      have hf_7 := hown2.frozenAt (k * 8 + 7)
      go_wp2
      obtain ⟨w3, hw3⟩ : ∃ W, W = ((((((((w2.setCell ⟨w.heap.size, k * 8, none⟩ (.int .i64 x.kd)).setCell ⟨w.heap.size, k * 8 + 1, none⟩ (.int .i64 x.cl)).setCell ⟨w.heap.size, k * 8 + 2, none⟩ (.int .i64 x.no)).setCell ⟨w.heap.size, k * 8 + 3, none⟩ (.string x.s)).setCell ⟨w.heap.size, k * 8 + 4, none⟩ (.string x.nm)).setCell ⟨w.heap.size, k * 8 + 5, none⟩ (.string x.tg)).setCell ⟨w.heap.size, k * 8 + 6, none⟩ (.int .i64 x.n)).setCell ⟨w.heap.size, k * 8 + 7, none⟩ (.slice B1 m1 d1)) := ⟨_, rfl⟩
      have hw4 : w3 = setsW w2 w.heap.size (k * 8) [.int .i64 x.kd, .int .i64 x.cl, .int .i64 x.no, .string x.s, .string x.nm, .string x.tg, .int .i64 x.n, .slice B1 m1 d1] := hw3
      rw [← hw3]
      clear hw3 ho_0 hf_0 ho_1 hf_1 ho_2 hf_2 ho_3 hf_3 ho_4 hf_4 ho_5 hf_5 ho_6 hf_6 ho_7 hf_7
      have q := own_setsW [.int .i64 x.kd, .int .i64 x.cl, .int .i64 x.no, .string x.s, .string x.nm, .string x.tg, .int .i64 x.n, .slice B1 m1 d1] (k * 8) w2 _ hown2
      have hC : Ch (fun b => b = w.heap.size) w2 w3 := by rw [hw4]; exact ch_setsW _ _ _
      rw [← hw4] at q
      have hrd : rest = rest.take 8 ++ rest.drop 8 := (List.take_append_drop _ _).symm
      have htk : (rest.take 8).length = 8 := by rw [List.length_take]; omega
      rw [hrd, setsL_at hlen (by rw [htk]; rfl)] at q
      clear hw4 hrd htk
      have q2 : w3.ownsRow w.heap.size 48 8 (.slice (some ⟨w.heap.size, 0, none⟩) n n) n ((css ++ [([.int .i64 x.kd, .int .i64 x.cl, .int .i64 x.no, .string x.s, .string x.nm, .string x.tg, .int .i64 x.n, .slice B1 m1 d1] : List Value)]).flatten ++ rest.drop 8) := by rw [flat_snoc, List.append_assoc]; exact q
      have hE2 := (hE.keep cmK hb2).ch cmK hC (fun b hb e => by have := hF b hb; omega)
      have z1 := o1.ch hC (fun b hb e => by have := hF2 b (by simp [hb]); omega)
      have hE3 := hE2.app (Els.one (⟨B1, m1, d1, g1, rfl, rfl, z1⟩ : cmF (g1) w3 [.int .i64 x.kd, .int .i64 x.cl, .int .i64 x.no, .string x.s, .string x.nm, .string x.tg, .int .i64 x.n, .slice B1 m1 d1] x))
      rw [← take_more hx] at hE3
      have hfl : (fps ++ [g1]).flatten = fps.flatten ++ (g1) := by simp
      have hz3 := hC.size
      refine ⟨⟨k + 1, _, _, _, by omega, by go_num, q2, hE3, ?_, ?_, by omega, (bthen hb hb2).trans (hC.below (fun b hb => by omega) (by omega))⟩, by simp [intOf]; omega⟩
      · rw [hfl]; exact nodup_new (m := wr.heap.size) hN hN2 (fun b hb => (hF b hb).2) (fun b hb => (hF2 b hb).1)
      · rw [hfl]; intro b hb
        rcases List.mem_append.1 hb with hb | hb
        · have := hF b hb; omega
        · have := hF2 b hb; omega
    · go_wp2
      go_returns
      have hkn : k = n := by omega
      subst hkn
      have hr0 : rest = [] := List.eq_nil_of_length_eq_zero (by omega)
      subst hr0
      rw [List.append_nil] at hown
      rw [List.take_of_length_le (by have := HL.out; omega)] at hE
      refine ⟨_, _, _, rfl, ⟨blkL (some ⟨w.heap.size, 0, none⟩) ++ fps.flatten, ?_, ?_, RowO.intro (own_up hown (Nat.zero_le _)) HL.out.symm hE⟩, hb⟩
      · exact List.nodup_cons.2 ⟨fun hm => by have := hF _ hm; simp at this; omega, hN⟩
      · intro b hb2
        rcases List.mem_append.1 hb2 with h1 | h1
        · have : b = w.heap.size := by simpa [blkL] using h1
          omega
        · have := hF b h1; omega
set_option maxRecDepth 8000 in
set_option maxHeartbeats 4000000 in
theorem cms_mark (l : List Cm) (fp : List Nat) (A : Option Addr) (n c : Nat) (k : Int) (w : World) (h : RowO cmF 48 8 fp w A n c l) (hN : fp.Nodup) (hs : cmsSz l ≤ 16777216) (hk0 : 0 < k) (hk1 : k ≤ 288230376151711744) :
    Calls Tryz.prog 13 #[.slice A n c, .int .i64 k] w fun e w' => e = .returned (.int .i64 (k + (cmsCnt l : Nat))) ∧ RowO cmF 48 8 fp w' A n c (cmsMk k l) ∧ Ch (fun b => b ∈ fp) w w' := by
  obtain ⟨css0, fps0, rfl, hown0, hl0, hE0⟩ := h.ex
  have HL := Lib.hid hl0; clear hl0
  have hn : n ≤ 16777216 := by have h1 := HL.out; unfold cmsSz at hs; omega
  have hcs := cms_cnt l
  go_enter Tryz.func13, Tryz.ntmps13
  go_wp2
  go_loopw [1, 5] (fun u i wr => ∃ (q : Nat) (css1 css2 : List (List Value)) (fps1 fps2 : List (List Nat)), q ≤ n ∧ i = .int .i64 q ∧ u = .int .i64 (k + ((sumTo cmCnt l q : Nat) : Int)) ∧ fps0 = fps1 ++ fps2 ∧ wr.ownsRow 0 48 8 (.slice A n c) n (css1.flatten ++ css2.flatten) ∧ Els cmF wr css1 fps1 (cmsMk k (l.take q)) ∧ Els cmF wr css2 fps2 (l.drop q) ∧ Ch (fun b => b ∈ blkL A ++ fps0.flatten) w wr) (fun _ i _ => n - (intOf i).toNat)
  case atStart => exact ⟨0, [], css0, [], fps0, Nat.zero_le _, rfl, by rw [sumTo_zero]; simp, rfl, by simpa using hown0, Els.nil, by simpa using hE0, Ch.refl _⟩
  case round =>
    clear hown0 hE0 h
    obtain ⟨q, css1, css2, fps1, fps2, hq, rfl, rfl, rfl, ho, hE1, hE2, hC⟩ := hrel
    by_cases hlt : q < n
    · obtain ⟨x, hx⟩ : ∃ x, l[q]? = some x := ⟨_, List.getElem?_eq_getElem (by have := HL.out; omega)⟩
      rw [drop_one hx] at hE2
      obtain ⟨cs, css2, f, fps2, rfl, rfl, hF, hE2t⟩ := hE2.cons
      clear hE2
      obtain ⟨A1, n1, c1, f1, rfl, hf1, o1⟩ := hF
      replace hf1 := hf1.symm
      subst hf1
      obtain ⟨g, hA, hg0⟩ : ∃ g, A = some ⟨g, 0, none⟩ ∧ g < wr.heap.size := by rcases own_form ho with ⟨_, h0, _⟩ | ⟨g, h1, _, h2⟩ <;> first | omega | exact ⟨g, h1, h2⟩
      subst hA
      have hP : css1.flatten.length = q * 8 := by rw [hE1.flat cmK, cmsMk_len, List.length_take]; have := HL.out; rw [Nat.min_eq_left (by omega)]
      rw [List.flatten_cons] at ho
      unfold cmL at ho
      have hek := cms_el hx
      unfold cmSz at hek
      obtain ⟨HSM, HSS⟩ := sum_el cmCnt hx
      have HSU := Lib.hid HSS
      have hle := sumTo_le cmCnt l (q + 1)
      unfold cmsCnt at hcs
      have hcb : sumTo cmCnt l q + cmCnt x ≤ 117440512 := by omega
      clear HSM HSS hle
      have hcx : cmCnt x = 1 + 1 + 1 + 1 + 1 + 1 + 1 + strsCnt x.ch := rfl
      rw [hcx] at hcb
      have hN' := hN
      simp only [blkL, List.flatten_append, List.flatten_cons, List.nodup_append, List.nodup_cons, List.mem_append, List.mem_cons, List.not_mem_nil, or_false, not_or, List.append_assoc, List.cons_append, List.nil_append] at hN'
      have hg1 : ∀ b ∈ f1, ¬ b = g := fun b hb e => by subst e; grind
      have hx1 : ∀ b ∈ fps1.flatten, ¬ (b = g ∨ b ∈ f1) := fun b h1 h2 => by (try simp only [List.mem_append] at h2); grind
      have hx2 : ∀ b ∈ fps2.flatten, ¬ (b = g ∨ b ∈ f1) := fun b h1 h2 => by (try simp only [List.mem_append] at h2); grind
      clear hN'
      have hT : Ch (fun b => b = g ∨ b ∈ f1) wr wr := Ch.refl _
      have e0 : wr.cell? ⟨g, q * 8, none⟩ = some (.int .i64 x.kd) := own_mid ho hP (r := 0) rfl
      have y0 := ho.frozenAt (q * 8)
      have e1 : wr.cell? ⟨g, q * 8 + 1, none⟩ = some (.int .i64 x.cl) := own_mid ho hP (r := 1) rfl
      have y1 := ho.frozenAt (q * 8 + 1)
      have e2 : wr.cell? ⟨g, q * 8 + 2, none⟩ = some (.int .i64 x.no) := own_mid ho hP (r := 2) rfl
      have y2 := ho.frozenAt (q * 8 + 2)
      go_wp2_with fail
      obtain ⟨v1, hv1⟩ : ∃ W, W = (((wr.setCell ⟨g, q * 8, none⟩ (.int .i64 (k + ((sumTo cmCnt l q : Nat) : Int)))).setCell ⟨g, q * 8 + 1, none⟩ (.int .i64 (k + ((sumTo cmCnt l q : Nat) : Int) + 1))).setCell ⟨g, q * 8 + 2, none⟩ (.int .i64 (k + ((sumTo cmCnt l q : Nat) : Int) + 1 + 1))) := ⟨_, rfl⟩
      have hs1 : v1 = setsW wr g (q * 8 + 0) ([.int .i64 (k + ((sumTo cmCnt l q : Nat) : Int)), .int .i64 (k + ((sumTo cmCnt l q : Nat) : Int) + 1), .int .i64 (k + ((sumTo cmCnt l q : Nat) : Int) + 1 + 1)] : List Value) := hv1
      rw [← hv1]
      clear hv1
      have hc1 : Ch (fun b => b = g) wr v1 := by rw [hs1]; exact ch_setsW _ _ _
      have ho1 : v1.ownsRow 0 48 8 (.slice (some ⟨g, 0, none⟩) n c) n (css1.flatten ++ (([(.int .i64 (k + ((sumTo cmCnt l q : Nat) : Int))), (.int .i64 (k + ((sumTo cmCnt l q : Nat) : Int) + 1)), (.int .i64 (k + ((sumTo cmCnt l q : Nat) : Int) + 1 + 1)), (.string x.s), (.string x.nm), (.string x.tg), (.int .i64 x.n), (.slice A1 n1 c1)] : List Value) ++ css2.flatten)) := by
        have hh := own_setsW ([.int .i64 (k + ((sumTo cmCnt l q : Nat) : Int)), .int .i64 (k + ((sumTo cmCnt l q : Nat) : Int) + 1), .int .i64 (k + ((sumTo cmCnt l q : Nat) : Int) + 1 + 1)] : List Value) (q * 8 + 0) wr _ ho
        rw [setsL_in hP (r := 0) (vs := ([.int .i64 (k + ((sumTo cmCnt l q : Nat) : Int)), .int .i64 (k + ((sumTo cmCnt l q : Nat) : Int) + 1), .int .i64 (k + ((sumTo cmCnt l q : Nat) : Int) + 1 + 1)] : List Value)) (by simp)] at hh
        rw [hs1]; exact hh
      clear e0 y0
      clear e1 y1
      clear e2 y2
      clear hs1 ho
      have hT1 := hT.trans (hc1.mono (fun b hb => .inl hb)); clear hT; have hT := hT1; clear hT1
      have hgz1 : g < v1.heap.size := Nat.lt_of_lt_of_le hg0 hc1.size; clear hg0; have hg0 := hgz1; clear hgz1
      have o1' := o1.ch hc1 hg1; clear o1; have o1 := o1'; clear o1'
      clear hc1
      refine (markText_any _ _ (by omega) (by omega)).mono ?_
      rintro e v2 ⟨rfl, hb2⟩
      have ho2 := own_ch ho1 (Ch.of_below (S := fun _ => False) hb2) (fun _ _ h => h)
      clear ho1
      have hT2 := hT.trans (Ch.of_below hb2); clear hT; have hT := hT2; clear hT2
      have hgz2 : g < v2.heap.size := Nat.lt_of_lt_of_le hg0 hb2.size; clear hg0; have hg0 := hgz2; clear hgz2
      have o1' := o1.keep hb2; clear o1; have o1 := o1'; clear o1'
      clear hb2
      have e3 : v2.cell? ⟨g, q * 8 + 3, none⟩ = some (.string x.s) := own_mid ho2 hP (r := 3) rfl
      have y3 := ho2.frozenAt (q * 8 + 3)
      go_wp2_with fail
      obtain ⟨v3, hv3⟩ : ∃ W, W = (v2.setCell ⟨g, q * 8 + 3, none⟩ (.string (mtx (k + ((sumTo cmCnt l q : Nat) : Int) + 1 + 1 + 1)))) := ⟨_, rfl⟩
      have hs3 : v3 = setsW v2 g (q * 8 + 3) ([.string (mtx (k + ((sumTo cmCnt l q : Nat) : Int) + 1 + 1 + 1))] : List Value) := hv3
      rw [← hv3]
      clear hv3
      have hc3 : Ch (fun b => b = g) v2 v3 := by rw [hs3]; exact ch_setsW _ _ _
      have ho3 : v3.ownsRow 0 48 8 (.slice (some ⟨g, 0, none⟩) n c) n (css1.flatten ++ (([(.int .i64 (k + ((sumTo cmCnt l q : Nat) : Int))), (.int .i64 (k + ((sumTo cmCnt l q : Nat) : Int) + 1)), (.int .i64 (k + ((sumTo cmCnt l q : Nat) : Int) + 1 + 1)), (.string (mtx (k + ((sumTo cmCnt l q : Nat) : Int) + 1 + 1 + 1))), (.string x.nm), (.string x.tg), (.int .i64 x.n), (.slice A1 n1 c1)] : List Value) ++ css2.flatten)) := by
        have hh := own_setsW ([.string (mtx (k + ((sumTo cmCnt l q : Nat) : Int) + 1 + 1 + 1))] : List Value) (q * 8 + 3) v2 _ ho2
        rw [setsL_in hP (r := 3) (vs := ([.string (mtx (k + ((sumTo cmCnt l q : Nat) : Int) + 1 + 1 + 1))] : List Value)) (by simp)] at hh
        rw [hs3]; exact hh
      clear e3 y3
      clear hs3 ho2
      have hT3 := hT.trans (hc3.mono (fun b hb => .inl hb)); clear hT; have hT := hT3; clear hT3
      have hgz3 : g < v3.heap.size := Nat.lt_of_lt_of_le hg0 hc3.size; clear hg0; have hg0 := hgz3; clear hgz3
      have o1' := o1.ch hc3 hg1; clear o1; have o1 := o1'; clear o1'
      clear hc3
      refine (markText_any _ _ (by omega) (by omega)).mono ?_
      rintro e v4 ⟨rfl, hb4⟩
      have ho4 := own_ch ho3 (Ch.of_below (S := fun _ => False) hb4) (fun _ _ h => h)
      clear ho3
      have hT4 := hT.trans (Ch.of_below hb4); clear hT; have hT := hT4; clear hT4
      have hgz4 : g < v4.heap.size := Nat.lt_of_lt_of_le hg0 hb4.size; clear hg0; have hg0 := hgz4; clear hgz4
      have o1' := o1.keep hb4; clear o1; have o1 := o1'; clear o1'
      clear hb4
      have e4 : v4.cell? ⟨g, q * 8 + 4, none⟩ = some (.string x.nm) := own_mid ho4 hP (r := 4) rfl
      have y4 := ho4.frozenAt (q * 8 + 4)
      go_wp2_with fail
      obtain ⟨v5, hv5⟩ : ∃ W, W = (v4.setCell ⟨g, q * 8 + 4, none⟩ (.string (mtx (k + ((sumTo cmCnt l q : Nat) : Int) + 1 + 1 + 1 + 1)))) := ⟨_, rfl⟩
      have hs5 : v5 = setsW v4 g (q * 8 + 4) ([.string (mtx (k + ((sumTo cmCnt l q : Nat) : Int) + 1 + 1 + 1 + 1))] : List Value) := hv5
      rw [← hv5]
      clear hv5
      have hc5 : Ch (fun b => b = g) v4 v5 := by rw [hs5]; exact ch_setsW _ _ _
      have ho5 : v5.ownsRow 0 48 8 (.slice (some ⟨g, 0, none⟩) n c) n (css1.flatten ++ (([(.int .i64 (k + ((sumTo cmCnt l q : Nat) : Int))), (.int .i64 (k + ((sumTo cmCnt l q : Nat) : Int) + 1)), (.int .i64 (k + ((sumTo cmCnt l q : Nat) : Int) + 1 + 1)), (.string (mtx (k + ((sumTo cmCnt l q : Nat) : Int) + 1 + 1 + 1))), (.string (mtx (k + ((sumTo cmCnt l q : Nat) : Int) + 1 + 1 + 1 + 1))), (.string x.tg), (.int .i64 x.n), (.slice A1 n1 c1)] : List Value) ++ css2.flatten)) := by
        have hh := own_setsW ([.string (mtx (k + ((sumTo cmCnt l q : Nat) : Int) + 1 + 1 + 1 + 1))] : List Value) (q * 8 + 4) v4 _ ho4
        rw [setsL_in hP (r := 4) (vs := ([.string (mtx (k + ((sumTo cmCnt l q : Nat) : Int) + 1 + 1 + 1 + 1))] : List Value)) (by simp)] at hh
        rw [hs5]; exact hh
      clear e4 y4
      clear hs5 ho4
      have hT5 := hT.trans (hc5.mono (fun b hb => .inl hb)); clear hT; have hT := hT5; clear hT5
      have hgz5 : g < v5.heap.size := Nat.lt_of_lt_of_le hg0 hc5.size; clear hg0; have hg0 := hgz5; clear hgz5
      have o1' := o1.ch hc5 hg1; clear o1; have o1 := o1'; clear o1'
      clear hc5
      refine (markText_any _ _ (by omega) (by omega)).mono ?_
      rintro e v6 ⟨rfl, hb6⟩
      have ho6 := own_ch ho5 (Ch.of_below (S := fun _ => False) hb6) (fun _ _ h => h)
      clear ho5
      have hT6 := hT.trans (Ch.of_below hb6); clear hT; have hT := hT6; clear hT6
      have hgz6 : g < v6.heap.size := Nat.lt_of_lt_of_le hg0 hb6.size; clear hg0; have hg0 := hgz6; clear hgz6
      have o1' := o1.keep hb6; clear o1; have o1 := o1'; clear o1'
      clear hb6
      have e5 : v6.cell? ⟨g, q * 8 + 5, none⟩ = some (.string x.tg) := own_mid ho6 hP (r := 5) rfl
      have y5 := ho6.frozenAt (q * 8 + 5)
      have e6 : v6.cell? ⟨g, q * 8 + 6, none⟩ = some (.int .i64 x.n) := own_mid ho6 hP (r := 6) rfl
      have y6 := ho6.frozenAt (q * 8 + 6)
      have e7 : v6.cell? ⟨g, q * 8 + 7, none⟩ = some (.slice A1 n1 c1) := own_mid ho6 hP (r := 7) rfl
      go_wp2_with fail
      obtain ⟨v7, hv7⟩ : ∃ W, W = ((v6.setCell ⟨g, q * 8 + 5, none⟩ (.string (mtx (k + ((sumTo cmCnt l q : Nat) : Int) + 1 + 1 + 1 + 1 + 1)))).setCell ⟨g, q * 8 + 6, none⟩ (.int .i64 (k + ((sumTo cmCnt l q : Nat) : Int) + 1 + 1 + 1 + 1 + 1 + 1))) := ⟨_, rfl⟩
      have hs7 : v7 = setsW v6 g (q * 8 + 5) ([.string (mtx (k + ((sumTo cmCnt l q : Nat) : Int) + 1 + 1 + 1 + 1 + 1)), .int .i64 (k + ((sumTo cmCnt l q : Nat) : Int) + 1 + 1 + 1 + 1 + 1 + 1)] : List Value) := hv7
      rw [← hv7]
      clear hv7
      have hc7 : Ch (fun b => b = g) v6 v7 := by rw [hs7]; exact ch_setsW _ _ _
      have ho7 : v7.ownsRow 0 48 8 (.slice (some ⟨g, 0, none⟩) n c) n (css1.flatten ++ (([(.int .i64 (k + ((sumTo cmCnt l q : Nat) : Int))), (.int .i64 (k + ((sumTo cmCnt l q : Nat) : Int) + 1)), (.int .i64 (k + ((sumTo cmCnt l q : Nat) : Int) + 1 + 1)), (.string (mtx (k + ((sumTo cmCnt l q : Nat) : Int) + 1 + 1 + 1))), (.string (mtx (k + ((sumTo cmCnt l q : Nat) : Int) + 1 + 1 + 1 + 1))), (.string (mtx (k + ((sumTo cmCnt l q : Nat) : Int) + 1 + 1 + 1 + 1 + 1))), (.int .i64 (k + ((sumTo cmCnt l q : Nat) : Int) + 1 + 1 + 1 + 1 + 1 + 1)), (.slice A1 n1 c1)] : List Value) ++ css2.flatten)) := by
        have hh := own_setsW ([.string (mtx (k + ((sumTo cmCnt l q : Nat) : Int) + 1 + 1 + 1 + 1 + 1)), .int .i64 (k + ((sumTo cmCnt l q : Nat) : Int) + 1 + 1 + 1 + 1 + 1 + 1)] : List Value) (q * 8 + 5) v6 _ ho6
        rw [setsL_in hP (r := 5) (vs := ([.string (mtx (k + ((sumTo cmCnt l q : Nat) : Int) + 1 + 1 + 1 + 1 + 1)), .int .i64 (k + ((sumTo cmCnt l q : Nat) : Int) + 1 + 1 + 1 + 1 + 1 + 1)] : List Value)) (by simp)] at hh
        rw [hs7]; exact hh
      clear e5 y5
      clear e6 y6
      clear e7
      clear hs7 ho6
      have hT7 := hT.trans (hc7.mono (fun b hb => .inl hb)); clear hT; have hT := hT7; clear hT7
      have hgz7 : g < v7.heap.size := Nat.lt_of_lt_of_le hg0 hc7.size; clear hg0; have hg0 := hgz7; clear hgz7
      have o1' := o1.ch hc7 hg1; clear o1; have o1 := o1'; clear o1'
      clear hc7
      refine (strsR_mark x.ch f1 _ _ _ _ _ o1 (by omega) (by omega) (by omega)).mono ?_
      rintro e v8 ⟨rfl, o1', hc8⟩
      clear o1; have o1 := o1'; clear o1'
      have ho8 := own_ch ho7 hc8 (fun b hb h2 => hg1 b h2 (by simpa [Value.ownBlock, eq_comm] using hb))
      clear ho7
      have hT8 := hT.trans (hc8.mono (fun b hb => .inr (by simp [hb]))); clear hT; have hT := hT8; clear hT8
      have hgz8 : g < v8.heap.size := Nat.lt_of_lt_of_le hg0 hc8.size; clear hg0; have hg0 := hgz8; clear hgz8
      clear hc8
      go_wp2
      have hE1' := hE1.ch cmK hT hx1
      have hE2' := hE2t.ch cmK hT hx2
      have hE3 := hE1'.app (Els.one (⟨A1, n1, c1, f1, rfl, rfl, o1⟩ : cmF (f1) v8 ([(.int .i64 (k + ((sumTo cmCnt l q : Nat) : Int))), (.int .i64 (k + ((sumTo cmCnt l q : Nat) : Int) + 1)), (.int .i64 (k + ((sumTo cmCnt l q : Nat) : Int) + 1 + 1)), (.string (mtx (k + ((sumTo cmCnt l q : Nat) : Int) + 1 + 1 + 1))), (.string (mtx (k + ((sumTo cmCnt l q : Nat) : Int) + 1 + 1 + 1 + 1))), (.string (mtx (k + ((sumTo cmCnt l q : Nat) : Int) + 1 + 1 + 1 + 1 + 1))), (.int .i64 (k + ((sumTo cmCnt l q : Nat) : Int) + 1 + 1 + 1 + 1 + 1 + 1)), (.slice A1 n1 c1)] : List Value) (cmMk (k + ((sumTo cmCnt l q : Nat) : Int)) x)))
      have hsm := cmsMk_snoc k x (l.take q)
      rw [← take_more hx] at hsm
      have hct : ((cmsCnt (l.take q) : Nat) : Int) = ((sumTo cmCnt l q : Nat) : Int) := rfl
      rw [hct] at hsm
      rw [← hsm] at hE3
      refine ⟨⟨q + 1, css1 ++ [([(.int .i64 (k + ((sumTo cmCnt l q : Nat) : Int))), (.int .i64 (k + ((sumTo cmCnt l q : Nat) : Int) + 1)), (.int .i64 (k + ((sumTo cmCnt l q : Nat) : Int) + 1 + 1)), (.string (mtx (k + ((sumTo cmCnt l q : Nat) : Int) + 1 + 1 + 1))), (.string (mtx (k + ((sumTo cmCnt l q : Nat) : Int) + 1 + 1 + 1 + 1))), (.string (mtx (k + ((sumTo cmCnt l q : Nat) : Int) + 1 + 1 + 1 + 1 + 1))), (.int .i64 (k + ((sumTo cmCnt l q : Nat) : Int) + 1 + 1 + 1 + 1 + 1 + 1)), (.slice A1 n1 c1)] : List Value)], css2, fps1 ++ [f1], fps2, by omega, by go_num, ?_, by simp, ?_, hE3, hE2', hC.trans (hT.mono (fun b hb => ?_))⟩, by simp [intOf]; omega⟩
      · rw [HSU.out]; congr 1; rw [hcx]; push_cast; omega
      · rw [flat_snoc, List.append_assoc]; exact ho8
      · simp only [blkL, List.flatten_append, List.flatten_cons, List.mem_append, List.mem_cons, List.not_mem_nil, or_false] at hb ⊢
        grind
    · go_wp2
      go_returns
      have hqn : q = n := by omega
      subst hqn
      have hql : l.length ≤ q := by have := HL.out; omega
      rw [List.take_of_length_le hql] at hE1
      rw [List.drop_eq_nil_of_le hql] at hE2
      obtain ⟨rfl, rfl⟩ := hE2.nils
      refine ⟨ret_int ?_, ?_, hC⟩
      · rw [sumTo_all _ _ _ hql]; rfl
      · rw [List.append_nil]; exact RowO.intro (by simpa using ho) (by rw [cmsMk_len]; exact HL.out) hE1
end Go.Proofs.YtdphdnllhmnelaaGreat
