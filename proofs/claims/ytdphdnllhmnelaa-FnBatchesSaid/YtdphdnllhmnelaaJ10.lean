/- Contracts and lemmas: ShaP. -/
import Derived.Test.YtdphdnllhmnelaaJ0
import Derived.Test.YtdphdnllhmnelaaJ9
import Derived.Test.YtdphdnllhmnelaaJ1
/- Contract of the reference's Sha. -/
namespace Go.Proofs.Ytdphdnllhmnelaa
open Go.RowKit

theorem new4 (w : World) (e : TypeId) (a b c d : Value) : CellsAt (w.alloc (.cells #[a, b, c, d] e)) (some ⟨w.heap.size, 0, none⟩) 4 1 [a, b, c, d] := by
  refine ⟨rfl, fun _ => ⟨w.heap.size, 0, rfl, fun j u hu => ?_⟩⟩
  rw [Nat.zero_add, World.cell?_alloc_new]
  simpa using hu
theorem bytes4 (x : Nat) (hx : x < 4294967296) : [Value.int .u8 ((x / 16777216 : Nat) : Int), .int .u8 ((x / 65536 % 256 : Nat) : Int), .int .u8 ((x / 256 % 256 : Nat) : Int), .int .u8 ((x % 256 : Nat) : Int)] = (fixL x 4).map byteV := by
  show _ = [byteV (UInt8.ofNat (dv x 3 % 256)), byteV (UInt8.ofNat (dv x 2 % 256)), byteV (UInt8.ofNat (dv x 1 % 256)), byteV (UInt8.ofNat (dv x 0 % 256))]
  rw [byteV_of (by omega), byteV_of (by omega), byteV_of (by omega), byteV_of (by omega)]
  have e : (256 : Nat) ^ 3 = 16777216 ∧ (256 : Nat) ^ 2 = 65536 ∧ (256 : Nat) ^ 1 = 256 ∧ (256 : Nat) ^ 0 = 1 := by decide
  unfold dv
  rw [e.1, e.2.1, e.2.2.1, e.2.2.2, Nat.div_one, Nat.mod_eq_of_lt (show x / 16777216 < 256 by omega)]
theorem zeros_snoc (j : Nat) : (128 :: List.replicate j (0 : UInt8)).map byteV ++ [Value.int .u8 0] = (128 :: List.replicate (j + 1) 0).map byteV := by
  rw [List.replicate_succ', ← List.cons_append, List.map_append]; rfl
theorem padB (m k : Nat) (hk : k < 8) : byteV (UInt8.ofNat (dv m (7 - k) % 256)) = .int .u8 (((m / 2 ^ (56 - 8 * k) : Nat) : Int) % 256) := by
  rw [byteV_of (by omega), show dv m (7 - k) = m / 2 ^ (56 - 8 * k) by unfold dv; rw [show 256 = 2 ^ 8 by decide, ← Nat.pow_mul, show 8 * (7 - k) = 56 - 8 * k by omega]]
  rfl
theorem fix_snoc (m k : Nat) (hk : k < 8) (l : List UInt8) : (l ++ (fixL m 8).take k).map byteV ++ [byteV (UInt8.ofNat (dv m (7 - k) % 256))] = (l ++ (fixL m 8).take (k + 1)).map byteV := by
  rw [List.take_succ_eq_append_getElem (by rw [fixL_length]; exact hk), fixL_get m 8 k hk, show 8 - 1 - k = 7 - k by omega]
  simp

set_option maxRecDepth 8000 in
set_option maxHeartbeats 4000000 in
theorem sha_spec (s : ByteArray) (w : World) (hs : s.size ≤ 1099511627776) :
    Calls Try.prog 183 #[.string s] w fun e w' => e = .returned (.string (shaS s)) ∧ Below w.heap.size w w' := by
  obtain ⟨z, hz⟩ : ∃ z, z = zN s.size := ⟨_, rfl⟩
  have hz64 : z < 64 := by rw [hz]; exact zN_lt _
  have HM := Lib.hid (show (s.size + 1 + z) % 64 = 56 by rw [hz]; exact zN_mod _)
  have HL := Lib.hid (show ∀ j, j < z → (s.size + 1 + j) % 64 ≠ 56 from fun j h => zN_least _ _ (by omega))
  have HP := Lib.hid (show (128 :: List.replicate z 0) ++ fixL (8 * s.size) 8 = padL s.size by rw [hz]; rfl)
  clear hz
  go_enter Try.func183, Try.ntmps183
  go_wp2
  go_loopg [4] z (fun gk p wr => ∃ (j cap : Nat) (A : Option Addr), j ≤ z ∧ gk = z - j ∧ p = .slice A (j + 1) cap ∧ RowIn 5 1 w.heap.size wr.heap.size wr A (j + 1) cap ((128 :: List.replicate j 0).map byteV) ∧ Below w.heap.size w wr)
  case atStart => exact ⟨0, 1, some ⟨w.heap.size, 0, none⟩, Nat.zero_le _, rfl, rfl, RowIn.of_own (World.ownsRow_lit w #[.int .u8 128] 1 (Nat.le_refl _) (by unfold maxLen; omega) rfl), (Below.refl _ _).alloc (Nat.le_refl _) _⟩
  case round =>
    obtain ⟨j, cap, A, hj, hgk, rfl, hrow, hb⟩ := hrel
    have HG := Lib.hid hgk; clear hgk
    have hzr := hb.size
    have hown := hrow.own
    by_cases hjz : j < z
    · have h1 := HL.out j hjz
      have HS := Lib.hid (zeros_snoc j)
      have t1 : IntKind.i64.wrap ((s.size : Int) + ((j + 1 : Nat) : Int)) = ((s.size + 1 + j : Nat) : Int) := by rw [IntKind.wrap_i64]; omega
      go_wp2_with (first | (at_builtin; refine wpList_app1g (P := Try.prog) _ rfl (.tmp 21) (.tmp 22) 74 rfl w.heap.size 5 _ 1 1 Try.underlying74 infoByteV rfl (by omega) (.slice A (j + 1) cap) _ _ rfl hown #[.int .u8 0] _ rfl (by simp) rfl (by simp [Value.oneCell']) (by unfold maxLen; omega) (by omega) hzr ?_; intro A' c' w4 hown4 hg4 hb4 _) | fail)
      have hgk := HG.out
      rw [HS.out] at hown4
      go_roundg (z - (j + 1))
      case measure => omega
      case rel => exact ⟨j + 1, c', A', by omega, rfl, rfl, RowIn.of_own hown4, hb.trans hb4⟩
    · have hjz' : j = z := by omega
      subst hjz'
      have h1 := HM.out
      have t1 : IntKind.i64.wrap ((s.size : Int) + ((j + 1 : Nat) : Int)) = ((s.size + 1 + j : Nat) : Int) := by rw [IntKind.wrap_i64]; omega
      clear HM HL HG hj hjz
      obtain ⟨n8, hn8⟩ : ∃ n : Nat, n = 8 * s.size := ⟨_, rfl⟩
      rw [← hn8] at HP
      have z2 : (s.size : Int) * 8 = (n8 : Int) := by omega
      have hn8b : n8 ≤ 8796093022208 := by omega
      clear hn8
      go_wp2
      generalize Value.bool (((s.size : Int) + ((j : Int) + 1)) % 64 != 56) = ub
      go_loopg [5, 4] 8 (fun gk i p wr => ∃ (k cap : Nat) (A : Option Addr), k ≤ 8 ∧ gk = 8 - k ∧ i = .int .i64 k ∧ p = .slice A (j + 1 + k) cap ∧ RowIn 5 1 w.heap.size wr.heap.size wr A (j + 1 + k) cap (((128 :: List.replicate j 0) ++ (fixL n8 8).take k).map byteV) ∧ Below w.heap.size w wr)
      case atStart => exact ⟨0, cap, A, by omega, rfl, rfl, rfl, by simpa using hrow, hb⟩
      case round =>
        clear hb hzr hrow h1 hown
        obtain ⟨k, cap2, A2, hk8, hgk, rfl, rfl, hrow, hb⟩ := hrel
        have HG := Lib.hid hgk; clear hgk
        have hzr := hb.size
        have hown := hrow.own
        by_cases hlt8 : k < 8
        · obtain ⟨q, hq⟩ : ∃ q : Nat, q = 56 - 8 * k := ⟨_, rfl⟩
          have e2 : IntKind.i64.wrap ((8 : Int) * (k : Int)) = 8 * (k : Int) := by rw [IntKind.wrap_i64]; omega
          have e3 : IntKind.i64.wrap (56 - 8 * (k : Int)) = (q : Int) := by rw [IntKind.wrap_i64]; omega
          have e4 : IntKind.u64.wrap (q : Int) = (q : Int) := by rw [IntKind.wrap_u64]; omega
          have HB5 := Lib.hid (show bits .and .i64 ((n8 : Int) / 2 ^ min q 64) 255 % 256 = ((n8 / 2 ^ q : Nat) : Int) % 256 by
            rw [and_255, show min q 64 = q by omega, Int.natCast_ediv, Int.natCast_pow]; exact Int.emod_emod_of_dvd _ (by decide))
          have HS := Lib.hid (fix_snoc n8 k hlt8 (128 :: List.replicate j 0))
          have HB := Lib.hid (padB n8 k hlt8)
          rw [← hq] at HB
          clear hq
          go_wp2_with (first | (at_builtin; refine wpList_app1g (P := Try.prog) _ rfl (.tmp 28) (.tmp 38) 74 rfl w.heap.size 5 _ 1 1 Try.underlying74 infoByteV rfl (by omega) (.slice A2 (j + 1 + k) cap2) _ _ rfl hown _ _ rfl (by simp) rfl (by simp [Value.oneCell']) (by unfold maxLen; omega) (by omega) hzr ?_; intro A' c' w4 hown4 hg4 hb4 _) | fail)
          have hgk := HG.out
          rw [HB5.out, ← HB.out, HS.out] at hown4
          go_roundg (7 - k)
          case measure => omega
          case rel => exact ⟨k + 1, c', A', by omega, by omega, by go_num, rfl, RowIn.of_own hown4, hb.trans hb4⟩
        · have hk0 : k = 8 := by omega
          subst hk0
          rw [show List.take 8 (fixL n8 8) = fixL n8 8 by rw [List.take_of_length_le]; rw [fixL_length]; exact Nat.le_refl _, HP.out] at hown
          obtain ⟨gp, rfl, hcv⟩ := conv_own hown (by omega)
          obtain ⟨wr1, hwr1⟩ : ∃ q, q = wr := ⟨_, rfl⟩
          subst hwr1
          have hpt : s ++ ⟨(padL s.size).toArray⟩ = padT s := rfl
          have hps : (⟨(padL s.size).toArray⟩ : ByteArray).size ≤ 100 := by
            show (padL s.size).toArray.size ≤ 100
            rw [List.size_toArray, padL_length]; have := zN_lt s.size; omega
          have HPT := Lib.hid hpt
          clear hpt HG hk8 hlt8 hrow hown hn8b
          generalize hpo : (⟨(padL s.size).toArray⟩ : ByteArray) = PO at *
          clear hpo
          have hts := padT_size' s
          have htb : (padT s).size ≤ 2199023255552 := by rw [padT_size]; have := zN_lt s.size; omega
          have HSH := Lib.hid (show shaS s = ⟨(outL (hS (padT s) (nB s.size)) 8).toArray⟩ from rfl)
          generalize padT s = t at *
          generalize nB s.size = N at *
          go_wp2_with fail
          rw [HPT.out]
          have hh0 : ValsAt (wr1.alloc (.cells #[.int .i64 1779033703, .int .i64 3144134277, .int .i64 1013904242, .int .i64 2773480762, .int .i64 1359893119, .int .i64 2600822924, .int .i64 528734635, .int .i64 1541459225] 3)) (some ⟨wr1.heap.size, 0, none⟩) 8 (natV (hS t 0)) := vals_lit wr1 3 hList
          have hal : Below wr1.heap.size wr1 (wr1.alloc (.cells #[.int .i64 1779033703, .int .i64 3144134277, .int .i64 1013904242, .int .i64 2773480762, .int .i64 1359893119, .int .i64 2600822924, .int .i64 528734635, .int .i64 1541459225] 3)) := (Below.refl _ _).alloc (Nat.le_refl _) _
          refine (l3Keys_any _).mono ?_
          rintro e w1 ⟨B, rfl, _, hB, hb1⟩
          have hh1 := hh0.keep hb1
          have hb2 := bthen (bthen hb hal) hb1
          clear hh0 hal hb hcv hb1
          go_wp2
          go_loopg [9, 7] N (fun gk i v w2 => ∃ k g c : Nat, k ≤ N ∧ gk = N - k ∧ i = .int .i64 ((64 * k : Nat) : Int) ∧ v = .slice (some ⟨g, 0, none⟩) 8 c ∧ ValsAt w2 (some ⟨g, 0, none⟩) 8 (natV (hS t k)) ∧ ValsAt w2 (some ⟨B, 0, none⟩) 64 (natV kF) ∧ Below w.heap.size w w2)
          case atStart => exact ⟨0, wr1.heap.size, 8, Nat.zero_le _, rfl, rfl, rfl, hh1, hB, hb2⟩
          case round =>
            clear hh1 hB hb2
            obtain ⟨k, g, c, hkN, hgk, rfl, rfl, hh, hB, hb⟩ := hrel
            have HG := Lib.hid hgk; clear hgk
            by_cases hlt : k < N
            · have hsz64 : (blkAt t k).size = 64 := blkAt_size (by omega)
              obtain ⟨m, hm⟩ : ∃ m, m = 64 * k := ⟨_, rfl⟩
              have hin : (m : Int) < (t.size : Int) := by omega
              have hw64 : IntKind.i64.wrap ((m : Int) + 64) = (m : Int) + 64 := by rw [IntKind.wrap_i64]; omega
              have hle1 : (m : Int) + 64 ≤ (t.size : Int) := by omega
              have hle2 : (m : Int) ≤ (m : Int) + 64 := by omega
              have hn64 : ((m : Int) + 64).toNat = m + 64 := by omega
              have HBK := Lib.hid (show blkAt t k = t.extract m (m + 64) by rw [hm]; rfl)
              have HST := Lib.hid (show blk kF (bW (blkAt t k)) (hS t k) = hS t (k + 1) from rfl)
              rw [← hm]
              have HM := Lib.hid hm
              clear hm
              go_wp2_with fail
              rw [← HBK.out]
              refine (l3Block_any _ _ _ _ _ _ _ hh (fun j _ => hS_lt _ _ _) hsz64 hB).mono ?_
              rintro e w3 ⟨g2, c2, rfl, _, hh2, hb3⟩
              rw [HST.out] at hh2
              have hB3 := hB.keep hb3
              go_wp2
              have hgk := HG.out
              have hmm := HM.out
              go_roundg (N - (k + 1))
              case measure => omega
              case rel => exact ⟨k + 1, g2, c2, by omega, rfl, by congr 1; omega, rfl, hh2, hB3, bthen hb hb3⟩
            · have hk0 : k = N := by omega
              subst hk0
              clear HG hkN hB
              have hlh := hS_lt t k
              generalize hS t k = H at *
              have hal : Below wr.heap.size wr (wr.alloc (.cells #[] 5)) := (Below.refl _ _).alloc (Nat.le_refl _) _
              have hh2 := hh.keep hal
              have hb2 := bthen hb hal
              obtain ⟨b0, off0, e0, hbl0, hc0⟩ := hh (by decide)
              injection e0 with e0
              injection e0 with e0 e00
              subst e0 e00
              have hcell : ∀ i, i < 8 → wr.cell? ⟨g, i, none⟩ = some (natV H i) := fun i hi => by have := hc0 i hi; rwa [Nat.zero_add] at this
              clear hh hc0 hh2
              have hnx : ∀ j, (outL H j ++ fixL (H j) 4) = outL H (j + 1) := fun _ => rfl
              go_wp2
              generalize wr = W3 at *
              go_loopg [11, 10] 8 (fun gk i v w4 => ∃ (k cap : Nat) (A : Option Addr), k ≤ 8 ∧ gk = 8 - k ∧ i = .int .i64 k ∧ v = .slice A (4 * k) cap ∧ RowIn 5 1 W3.heap.size w4.heap.size w4 A (4 * k) cap ((outL H k).map byteV) ∧ Below W3.heap.size W3 w4)
              case atStart => exact ⟨0, 0, some ⟨W3.heap.size, 0, none⟩, by omega, rfl, rfl, rfl, RowIn.of_own (own_empty _ _ _ (Nat.le_refl _)), hal⟩
              case round =>
                obtain ⟨kk, cap5, A5, hk8, hgk, rfl, rfl, hrow, hb4⟩ := hrel
                clear hb2 hal
                have HG := Lib.hid hgk; clear hgk
                have hown := hrow.own
                have hzr := hb4.size
                by_cases hlt8 : kk < 8
                · have cH := hcell kk hlt8
                  have lx := hlh kk
                  have HNX := Lib.hid (hnx kk)
                  simp only [natV, intV] at cH
                  obtain ⟨x, hx⟩ : ∃ x, x = H kk := ⟨_, rfl⟩
                  rw [← hx] at cH lx HNX
                  clear hx hcell hnx
                  have ik : (kk : Int) < 8 := by omega
                  go_wp2
                  obtain ⟨b0, hb0⟩ : ∃ b, b = x / 16777216 := ⟨_, rfl⟩
                  obtain ⟨b1, hb1⟩ : ∃ b, b = x / 65536 % 256 := ⟨_, rfl⟩
                  obtain ⟨b2, hb2⟩ : ∃ b, b = x / 256 % 256 := ⟨_, rfl⟩
                  obtain ⟨b3, hb3⟩ : ∃ b, b = x % 256 := ⟨_, rfl⟩
                  have HB0 := Lib.hid hb0; have HB1 := Lib.hid hb1; have HB2 := Lib.hid hb2; have HB3 := Lib.hid hb3
                  clear hb0 hb1 hb2 hb3
                  have e255 := and_255
                  refine wp_region_dag (by kernel_rfl) (by kernel_rfl) (fun D a' w' => ∃ v10 v65 v66 v67 v68 v69 v70 v71 v72 v73 v74 v75 v76 v77 v78 v79 v80 v81 v82 v83 v84 v85 v86 v87 v88 v89 v90 v91 v92 v93 : Value, a' = { tmps := List.toArray (Value.string s :: undef :: Value.string { data := #[] } :: Value.int IntKind.i64 ↑s.size :: Value.slice (some { block := gp, off := 0 }) (j + 1 + 8) cap2 :: Value.int IntKind.i64 8 :: Value.string t :: Value.slice (some { block := g, off := 0 }) 8 c :: Value.slice (some { block := B, off := 0 }) 64 64 :: Value.int IntKind.i64 (64 * ↑k) :: v10 :: Value.int IntKind.i64 ↑kk :: Value.string s :: Value.int IntKind.i64 ↑s.size :: Value.slice (some { block := w.heap.size, off := 0 }) 1 1 :: Value.int IntKind.i64 ↑s.size :: Value.slice A (j + 1) cap :: Value.int IntKind.i64 (↑j + 1) :: Value.int IntKind.i64 (↑s.size + (↑j + 1)) :: Value.int IntKind.i64 ((↑s.size + (↑j + 1)) % 64) :: ub :: u21 :: u22 :: u23 :: Value.int IntKind.i64 8 :: Value.bool false :: u26 :: u27 :: u28 :: u29 :: u30 :: u31 :: u32 :: u33 :: u34 :: u35 :: u36 :: u37 :: u38 :: u39 :: Value.string s :: Value.slice (some { block := gp, off := 0 }) (j + 1 + 8) cap2 :: Value.string PO :: Value.string t :: Value.slice (some { block := wr1.heap.size, off := 0 }) 8 8 :: Value.slice (some { block := B, off := 0 }) 64 64 :: Value.int IntKind.i64 (64 * ↑k) :: Value.string t :: Value.int IntKind.i64 (64 * ↑k) :: Value.bool false :: u50 :: u51 :: u52 :: u53 :: u54 :: u55 :: u56 :: u57 :: u58 :: u59 :: Value.slice (some { block := W3.heap.size, off := 0 }) 0 0 :: Value.int IntKind.i64 ↑kk :: Value.bool true :: u63 :: u64 :: v65 :: v66 :: v67 :: v68 :: v69 :: v70 :: v71 :: v72 :: v73 :: v74 :: v75 :: v76 :: v77 :: v78 :: v79 :: v80 :: v81 :: v82 :: v83 :: v84 :: v85 :: v86 :: v87 :: v88 :: v89 :: v90 :: v91 :: v92 :: v93 :: undef :: undef :: []), defers := [] } ∧ Below W3.heap.size W3 w' ∧ (D 29 = false → v10 = .slice A5 (4 * kk) cap5) ∧ (D 28 = false → w'.ownsRow W3.heap.size 5 1 (.slice A5 (4 * kk) cap5) (4 * kk) ((outL H kk).map byteV)) ∧ (D 29 = true → D 0 = true) ∧ (D 28 = true → D 27 = true) ∧ (D 29 = true → D 28 = true) ∧ (D 0 = true → v65 = .slice A5 (4 * kk) cap5) ∧ (D 1 = true → v66 = .slice (some ⟨g, 0, none⟩) 8 c) ∧ (D 2 = true → v67 = .int .i64 (kk : Int)) ∧ (D 3 = true → v68 = .pointer (some ⟨g, kk, none⟩)) ∧ (D 4 = true → v69 = .int .i64 (x : Int)) ∧ (D 5 = true → v70 = .int .i64 ((x : Int) / 16777216)) ∧ (D 6 = true → v71 = .int .u8 (b0 : Int)) ∧ (D 7 = true → v72 = .slice (some ⟨g, 0, none⟩) 8 c) ∧ (D 8 = true → v73 = .int .i64 (kk : Int)) ∧ (D 9 = true → v74 = .pointer (some ⟨g, kk, none⟩)) ∧ (D 10 = true → v75 = .int .i64 (x : Int)) ∧ (D 11 = true → v76 = .int .i64 ((x : Int) / 65536)) ∧ (D 12 = true → v77 = .int .i64 ((x : Int) / 65536 % 256)) ∧ (D 13 = true → v78 = .int .u8 (b1 : Int)) ∧ (D 14 = true → v79 = .slice (some ⟨g, 0, none⟩) 8 c) ∧ (D 15 = true → v80 = .int .i64 (kk : Int)) ∧ (D 16 = true → v81 = .pointer (some ⟨g, kk, none⟩)) ∧ (D 17 = true → v82 = .int .i64 (x : Int)) ∧ (D 18 = true → v83 = .int .i64 ((x : Int) / 256)) ∧ (D 19 = true → v84 = .int .i64 ((x : Int) / 256 % 256)) ∧ (D 20 = true → v85 = .int .u8 (b2 : Int)) ∧ (D 21 = true → v86 = .slice (some ⟨g, 0, none⟩) 8 c) ∧ (D 22 = true → v87 = .int .i64 (kk : Int)) ∧ (D 23 = true → v88 = .pointer (some ⟨g, kk, none⟩)) ∧ (D 24 = true → v89 = .int .i64 (x : Int)) ∧ (D 25 = true → v90 = .int .i64 ((x : Int) % 256)) ∧ (D 26 = true → v91 = .int .u8 (b3 : Int)) ∧ (D 27 = true → (D 28 = false → ∃ gb, v92 = .slice (some ⟨gb, 0, none⟩) 4 4 ∧ CellsAt w' (some ⟨gb, 0, none⟩) 4 1 [Value.int .u8 (b0 : Int), .int .u8 (b1 : Int), .int .u8 (b2 : Int), .int .u8 (b3 : Int)])) ∧ (D 28 = true → ∃ A6 c6, v93 = .slice A6 (4 * kk + 4) c6 ∧ w'.ownsRow W3.heap.size 5 1 (.slice A6 (4 * kk + 4) c6) (4 * kk + 4) ((outL H kk).map byteV ++ [Value.int .u8 (b0 : Int), .int .u8 (b1 : Int), .int .u8 (b2 : Int), .int .u8 (b3 : Int)])) ∧ (D 29 = true → ∃ A6 c6, v10 = .slice A6 (4 * kk + 4) c6 ∧ w'.ownsRow W3.heap.size 5 1 (.slice A6 (4 * kk + 4) c6) (4 * kk + 4) ((outL H kk).map byteV ++ [Value.int .u8 (b0 : Int), .int .u8 (b1 : Int), .int .u8 (b2 : Int), .int .u8 (b3 : Int)])))
                    ⟨.slice A5 (4 * kk) cap5, u65, u66, u67, u68, u69, u70, u71, u72, u73, u74, u75, u76, u77, u78, u79, u80, u81, u82, u83, u84, u85, u86, u87, u88, u89, u90, u91, u92, u93, rfl, hb4.drew, (fun _ => rfl), (fun _ => hown), (fun h => by cases h), (fun h => by cases h), (fun h => by cases h), (fun h => by cases h), (fun h => by cases h), (fun h => by cases h), (fun h => by cases h), (fun h => by cases h), (fun h => by cases h), (fun h => by cases h), (fun h => by cases h), (fun h => by cases h), (fun h => by cases h), (fun h => by cases h), (fun h => by cases h), (fun h => by cases h), (fun h => by cases h), (fun h => by cases h), (fun h => by cases h), (fun h => by cases h), (fun h => by cases h), (fun h => by cases h), (fun h => by cases h), (fun h => by cases h), (fun h => by cases h), (fun h => by cases h), (fun h => by cases h), (fun h => by cases h), (fun h => by cases h), (fun h => by cases h), (fun h => by cases h), (fun h => by cases h), (fun h => by cases h)⟩ ?_ ?_
                  · intro i D a' w' hi hD hdep hI
                    have hi' : i < 30 := hi
                    obtain ⟨v10, v65, v66, v67, v68, v69, v70, v71, v72, v73, v74, v75, v76, v77, v78, v79, v80, v81, v82, v83, v84, v85, v86, v87, v88, v89, v90, v91, v92, v93, rfl, hb4, k10r, own, kz0, kz1, kz2, k0, k1, k2, k3, k4, k5, k6, k7, k8, k9, k10, k11, k12, k13, k14, k15, k16, k17, k18, k19, k20, k21, k22, k23, k24, k25, k26, k27, k28, k29⟩ := hI
                    rcases (show i = 0 ∨ i = 1 ∨ i = 2 ∨ i = 3 ∨ i = 4 ∨ i = 5 ∨ i = 6 ∨ i = 7 ∨ i = 8 ∨ i = 9 ∨ i = 10 ∨ i = 11 ∨ i = 12 ∨ i = 13 ∨ i = 14 ∨ i = 15 ∨ i = 16 ∨ i = 17 ∨ i = 18 ∨ i = 19 ∨ i = 20 ∨ i = 21 ∨ i = 22 ∨ i = 23 ∨ i = 24 ∨ i = 25 ∨ i = 26 ∨ i = 27 ∨ i = 28 ∨ i = 29 by omega) with rfl | rfl | rfl | rfl | rfl | rfl | rfl | rfl | rfl | rfl | rfl | rfl | rfl | rfl | rfl | rfl | rfl | rfl | rfl | rfl | rfl | rfl | rfl | rfl | rfl | rfl | rfl | rfl | rfl | rfl
                    · have d29 : D 29 = false := Bool.eq_false_iff.2 (fun h => by rw [kz0 h] at hD; cases hD)
                      have e10 := k10r d29
                      subst e10
                      refine wpOp_step (by simp only [List.getElem?_toArray, List.getElem?_cons_zero]; rfl) (fun K hK => ?_)
                      go_simp
                      exact hK _ _ ⟨_, _, v66, v67, v68, v69, v70, v71, v72, v73, v74, v75, v76, v77, v78, v79, v80, v81, v82, v83, v84, v85, v86, v87, v88, v89, v90, v91, v92, v93, rfl, hb4, (fun _ => rfl), own, (fun _ => rfl), kz1, kz2, (fun _ => rfl), k1, k2, k3, k4, k5, k6, k7, k8, k9, k10, k11, k12, k13, k14, k15, k16, k17, k18, k19, k20, k21, k22, k23, k24, k25, k26, k27, k28, k29⟩
                    · refine wpOp_step (by simp only [List.getElem?_toArray, List.getElem?_cons_succ, List.getElem?_cons_zero]; rfl) (fun K hK => ?_)
                      go_simp
                      exact hK _ _ ⟨v10, v65, _, v67, v68, v69, v70, v71, v72, v73, v74, v75, v76, v77, v78, v79, v80, v81, v82, v83, v84, v85, v86, v87, v88, v89, v90, v91, v92, v93, rfl, hb4, k10r, own, kz0, kz1, kz2, k0, (fun _ => rfl), k2, k3, k4, k5, k6, k7, k8, k9, k10, k11, k12, k13, k14, k15, k16, k17, k18, k19, k20, k21, k22, k23, k24, k25, k26, k27, k28, k29⟩
                    · refine wpOp_step (by simp only [List.getElem?_toArray, List.getElem?_cons_succ, List.getElem?_cons_zero]; rfl) (fun K hK => ?_)
                      go_simp
                      exact hK _ _ ⟨v10, v65, v66, _, v68, v69, v70, v71, v72, v73, v74, v75, v76, v77, v78, v79, v80, v81, v82, v83, v84, v85, v86, v87, v88, v89, v90, v91, v92, v93, rfl, hb4, k10r, own, kz0, kz1, kz2, k0, k1, (fun _ => rfl), k3, k4, k5, k6, k7, k8, k9, k10, k11, k12, k13, k14, k15, k16, k17, k18, k19, k20, k21, k22, k23, k24, k25, k26, k27, k28, k29⟩
                    · have e1 := k1 (hdep 1 (by kernel_rfl))
                      subst e1
                      have e2 := k2 (hdep 2 (by kernel_rfl))
                      subst e2
                      refine wpOp_step (by simp only [List.getElem?_toArray, List.getElem?_cons_succ, List.getElem?_cons_zero]; rfl) (fun K hK => ?_)
                      go_simp
                      exact hK _ _ ⟨v10, v65, _, _, _, v69, v70, v71, v72, v73, v74, v75, v76, v77, v78, v79, v80, v81, v82, v83, v84, v85, v86, v87, v88, v89, v90, v91, v92, v93, rfl, hb4, k10r, own, kz0, kz1, kz2, k0, (fun _ => rfl), (fun _ => rfl), (fun _ => rfl), k4, k5, k6, k7, k8, k9, k10, k11, k12, k13, k14, k15, k16, k17, k18, k19, k20, k21, k22, k23, k24, k25, k26, k27, k28, k29⟩
                    · have e3 := k3 (hdep 3 (by kernel_rfl))
                      subst e3
                      have cH' := keep_cell hb4 cH
                      refine wpOp_step (by simp only [List.getElem?_toArray, List.getElem?_cons_succ, List.getElem?_cons_zero]; rfl) (fun K hK => ?_)
                      go_simp
                      exact hK _ _ ⟨v10, v65, v66, v67, _, _, v70, v71, v72, v73, v74, v75, v76, v77, v78, v79, v80, v81, v82, v83, v84, v85, v86, v87, v88, v89, v90, v91, v92, v93, rfl, hb4, k10r, own, kz0, kz1, kz2, k0, k1, k2, (fun _ => rfl), (fun _ => rfl), k5, k6, k7, k8, k9, k10, k11, k12, k13, k14, k15, k16, k17, k18, k19, k20, k21, k22, k23, k24, k25, k26, k27, k28, k29⟩
                    · have e4 := k4 (hdep 4 (by kernel_rfl))
                      subst e4
                      refine wpOp_step (by simp only [List.getElem?_toArray, List.getElem?_cons_succ, List.getElem?_cons_zero]; rfl) (fun K hK => ?_)
                      go_simp
                      exact hK _ _ ⟨v10, v65, v66, v67, v68, _, _, v71, v72, v73, v74, v75, v76, v77, v78, v79, v80, v81, v82, v83, v84, v85, v86, v87, v88, v89, v90, v91, v92, v93, rfl, hb4, k10r, own, kz0, kz1, kz2, k0, k1, k2, k3, (fun _ => rfl), (fun _ => rfl), k6, k7, k8, k9, k10, k11, k12, k13, k14, k15, k16, k17, k18, k19, k20, k21, k22, k23, k24, k25, k26, k27, k28, k29⟩
                    · have e5 := k5 (hdep 5 (by kernel_rfl))
                      subst e5
                      refine wpOp_step (by simp only [List.getElem?_toArray, List.getElem?_cons_succ, List.getElem?_cons_zero]; rfl) (fun K hK => ?_)
                      go_simp
                      exact hK _ _ ⟨v10, v65, v66, v67, v68, v69, _, _, v72, v73, v74, v75, v76, v77, v78, v79, v80, v81, v82, v83, v84, v85, v86, v87, v88, v89, v90, v91, v92, v93, rfl, hb4, k10r, own, kz0, kz1, kz2, k0, k1, k2, k3, k4, (fun _ => rfl), (fun _ => congrArg (Value.int .u8) (by have h := HB0.out; first | omega | (simp [IntKind.wrap, IntKind.bits, IntKind.signed]; omega) | (trace_state; sorry))), k7, k8, k9, k10, k11, k12, k13, k14, k15, k16, k17, k18, k19, k20, k21, k22, k23, k24, k25, k26, k27, k28, k29⟩
                    · refine wpOp_step (by simp only [List.getElem?_toArray, List.getElem?_cons_succ, List.getElem?_cons_zero]; rfl) (fun K hK => ?_)
                      go_simp
                      exact hK _ _ ⟨v10, v65, v66, v67, v68, v69, v70, v71, _, v73, v74, v75, v76, v77, v78, v79, v80, v81, v82, v83, v84, v85, v86, v87, v88, v89, v90, v91, v92, v93, rfl, hb4, k10r, own, kz0, kz1, kz2, k0, k1, k2, k3, k4, k5, k6, (fun _ => rfl), k8, k9, k10, k11, k12, k13, k14, k15, k16, k17, k18, k19, k20, k21, k22, k23, k24, k25, k26, k27, k28, k29⟩
                    · refine wpOp_step (by simp only [List.getElem?_toArray, List.getElem?_cons_succ, List.getElem?_cons_zero]; rfl) (fun K hK => ?_)
                      go_simp
                      exact hK _ _ ⟨v10, v65, v66, v67, v68, v69, v70, v71, v72, _, v74, v75, v76, v77, v78, v79, v80, v81, v82, v83, v84, v85, v86, v87, v88, v89, v90, v91, v92, v93, rfl, hb4, k10r, own, kz0, kz1, kz2, k0, k1, k2, k3, k4, k5, k6, k7, (fun _ => rfl), k9, k10, k11, k12, k13, k14, k15, k16, k17, k18, k19, k20, k21, k22, k23, k24, k25, k26, k27, k28, k29⟩
                    · have e7 := k7 (hdep 7 (by kernel_rfl))
                      subst e7
                      have e8 := k8 (hdep 8 (by kernel_rfl))
                      subst e8
                      refine wpOp_step (by simp only [List.getElem?_toArray, List.getElem?_cons_succ, List.getElem?_cons_zero]; rfl) (fun K hK => ?_)
                      go_simp
                      exact hK _ _ ⟨v10, v65, v66, v67, v68, v69, v70, v71, _, _, _, v75, v76, v77, v78, v79, v80, v81, v82, v83, v84, v85, v86, v87, v88, v89, v90, v91, v92, v93, rfl, hb4, k10r, own, kz0, kz1, kz2, k0, k1, k2, k3, k4, k5, k6, (fun _ => rfl), (fun _ => rfl), (fun _ => rfl), k10, k11, k12, k13, k14, k15, k16, k17, k18, k19, k20, k21, k22, k23, k24, k25, k26, k27, k28, k29⟩
                    · have e9 := k9 (hdep 9 (by kernel_rfl))
                      subst e9
                      have cH' := keep_cell hb4 cH
                      refine wpOp_step (by simp only [List.getElem?_toArray, List.getElem?_cons_succ, List.getElem?_cons_zero]; rfl) (fun K hK => ?_)
                      go_simp
                      exact hK _ _ ⟨v10, v65, v66, v67, v68, v69, v70, v71, v72, v73, _, _, v76, v77, v78, v79, v80, v81, v82, v83, v84, v85, v86, v87, v88, v89, v90, v91, v92, v93, rfl, hb4, k10r, own, kz0, kz1, kz2, k0, k1, k2, k3, k4, k5, k6, k7, k8, (fun _ => rfl), (fun _ => rfl), k11, k12, k13, k14, k15, k16, k17, k18, k19, k20, k21, k22, k23, k24, k25, k26, k27, k28, k29⟩
                    · have e10 := k10 (hdep 10 (by kernel_rfl))
                      subst e10
                      refine wpOp_step (by simp only [List.getElem?_toArray, List.getElem?_cons_succ, List.getElem?_cons_zero]; rfl) (fun K hK => ?_)
                      go_simp
                      exact hK _ _ ⟨v10, v65, v66, v67, v68, v69, v70, v71, v72, v73, v74, _, _, v77, v78, v79, v80, v81, v82, v83, v84, v85, v86, v87, v88, v89, v90, v91, v92, v93, rfl, hb4, k10r, own, kz0, kz1, kz2, k0, k1, k2, k3, k4, k5, k6, k7, k8, k9, (fun _ => rfl), (fun _ => rfl), k12, k13, k14, k15, k16, k17, k18, k19, k20, k21, k22, k23, k24, k25, k26, k27, k28, k29⟩
                    · have e11 := k11 (hdep 11 (by kernel_rfl))
                      subst e11
                      refine wpOp_step (by simp only [List.getElem?_toArray, List.getElem?_cons_succ, List.getElem?_cons_zero]; rfl) (fun K hK => ?_)
                      go_simp
                      exact hK _ _ ⟨v10, v65, v66, v67, v68, v69, v70, v71, v72, v73, v74, v75, _, _, v78, v79, v80, v81, v82, v83, v84, v85, v86, v87, v88, v89, v90, v91, v92, v93, rfl, hb4, k10r, own, kz0, kz1, kz2, k0, k1, k2, k3, k4, k5, k6, k7, k8, k9, k10, (fun _ => rfl), (fun _ => rfl), k13, k14, k15, k16, k17, k18, k19, k20, k21, k22, k23, k24, k25, k26, k27, k28, k29⟩
                    · have e12 := k12 (hdep 12 (by kernel_rfl))
                      subst e12
                      refine wpOp_step (by simp only [List.getElem?_toArray, List.getElem?_cons_succ, List.getElem?_cons_zero]; rfl) (fun K hK => ?_)
                      go_simp
                      exact hK _ _ ⟨v10, v65, v66, v67, v68, v69, v70, v71, v72, v73, v74, v75, v76, _, _, v79, v80, v81, v82, v83, v84, v85, v86, v87, v88, v89, v90, v91, v92, v93, rfl, hb4, k10r, own, kz0, kz1, kz2, k0, k1, k2, k3, k4, k5, k6, k7, k8, k9, k10, k11, (fun _ => rfl), (fun _ => congrArg (Value.int .u8) (by have h := HB1.out; first | omega | (simp [IntKind.wrap, IntKind.bits, IntKind.signed]; omega) | (trace_state; sorry))), k14, k15, k16, k17, k18, k19, k20, k21, k22, k23, k24, k25, k26, k27, k28, k29⟩
                    · refine wpOp_step (by simp only [List.getElem?_toArray, List.getElem?_cons_succ, List.getElem?_cons_zero]; rfl) (fun K hK => ?_)
                      go_simp
                      exact hK _ _ ⟨v10, v65, v66, v67, v68, v69, v70, v71, v72, v73, v74, v75, v76, v77, v78, _, v80, v81, v82, v83, v84, v85, v86, v87, v88, v89, v90, v91, v92, v93, rfl, hb4, k10r, own, kz0, kz1, kz2, k0, k1, k2, k3, k4, k5, k6, k7, k8, k9, k10, k11, k12, k13, (fun _ => rfl), k15, k16, k17, k18, k19, k20, k21, k22, k23, k24, k25, k26, k27, k28, k29⟩
                    · refine wpOp_step (by simp only [List.getElem?_toArray, List.getElem?_cons_succ, List.getElem?_cons_zero]; rfl) (fun K hK => ?_)
                      go_simp
                      exact hK _ _ ⟨v10, v65, v66, v67, v68, v69, v70, v71, v72, v73, v74, v75, v76, v77, v78, v79, _, v81, v82, v83, v84, v85, v86, v87, v88, v89, v90, v91, v92, v93, rfl, hb4, k10r, own, kz0, kz1, kz2, k0, k1, k2, k3, k4, k5, k6, k7, k8, k9, k10, k11, k12, k13, k14, (fun _ => rfl), k16, k17, k18, k19, k20, k21, k22, k23, k24, k25, k26, k27, k28, k29⟩
                    · have e14 := k14 (hdep 14 (by kernel_rfl))
                      subst e14
                      have e15 := k15 (hdep 15 (by kernel_rfl))
                      subst e15
                      refine wpOp_step (by simp only [List.getElem?_toArray, List.getElem?_cons_succ, List.getElem?_cons_zero]; rfl) (fun K hK => ?_)
                      go_simp
                      exact hK _ _ ⟨v10, v65, v66, v67, v68, v69, v70, v71, v72, v73, v74, v75, v76, v77, v78, _, _, _, v82, v83, v84, v85, v86, v87, v88, v89, v90, v91, v92, v93, rfl, hb4, k10r, own, kz0, kz1, kz2, k0, k1, k2, k3, k4, k5, k6, k7, k8, k9, k10, k11, k12, k13, (fun _ => rfl), (fun _ => rfl), (fun _ => rfl), k17, k18, k19, k20, k21, k22, k23, k24, k25, k26, k27, k28, k29⟩
                    · have e16 := k16 (hdep 16 (by kernel_rfl))
                      subst e16
                      have cH' := keep_cell hb4 cH
                      refine wpOp_step (by simp only [List.getElem?_toArray, List.getElem?_cons_succ, List.getElem?_cons_zero]; rfl) (fun K hK => ?_)
                      go_simp
                      exact hK _ _ ⟨v10, v65, v66, v67, v68, v69, v70, v71, v72, v73, v74, v75, v76, v77, v78, v79, v80, _, _, v83, v84, v85, v86, v87, v88, v89, v90, v91, v92, v93, rfl, hb4, k10r, own, kz0, kz1, kz2, k0, k1, k2, k3, k4, k5, k6, k7, k8, k9, k10, k11, k12, k13, k14, k15, (fun _ => rfl), (fun _ => rfl), k18, k19, k20, k21, k22, k23, k24, k25, k26, k27, k28, k29⟩
                    · have e17 := k17 (hdep 17 (by kernel_rfl))
                      subst e17
                      refine wpOp_step (by simp only [List.getElem?_toArray, List.getElem?_cons_succ, List.getElem?_cons_zero]; rfl) (fun K hK => ?_)
                      go_simp
                      exact hK _ _ ⟨v10, v65, v66, v67, v68, v69, v70, v71, v72, v73, v74, v75, v76, v77, v78, v79, v80, v81, _, _, v84, v85, v86, v87, v88, v89, v90, v91, v92, v93, rfl, hb4, k10r, own, kz0, kz1, kz2, k0, k1, k2, k3, k4, k5, k6, k7, k8, k9, k10, k11, k12, k13, k14, k15, k16, (fun _ => rfl), (fun _ => rfl), k19, k20, k21, k22, k23, k24, k25, k26, k27, k28, k29⟩
                    · have e18 := k18 (hdep 18 (by kernel_rfl))
                      subst e18
                      refine wpOp_step (by simp only [List.getElem?_toArray, List.getElem?_cons_succ, List.getElem?_cons_zero]; rfl) (fun K hK => ?_)
                      go_simp
                      exact hK _ _ ⟨v10, v65, v66, v67, v68, v69, v70, v71, v72, v73, v74, v75, v76, v77, v78, v79, v80, v81, v82, _, _, v85, v86, v87, v88, v89, v90, v91, v92, v93, rfl, hb4, k10r, own, kz0, kz1, kz2, k0, k1, k2, k3, k4, k5, k6, k7, k8, k9, k10, k11, k12, k13, k14, k15, k16, k17, (fun _ => rfl), (fun _ => rfl), k20, k21, k22, k23, k24, k25, k26, k27, k28, k29⟩
                    · have e19 := k19 (hdep 19 (by kernel_rfl))
                      subst e19
                      refine wpOp_step (by simp only [List.getElem?_toArray, List.getElem?_cons_succ, List.getElem?_cons_zero]; rfl) (fun K hK => ?_)
                      go_simp
                      exact hK _ _ ⟨v10, v65, v66, v67, v68, v69, v70, v71, v72, v73, v74, v75, v76, v77, v78, v79, v80, v81, v82, v83, _, _, v86, v87, v88, v89, v90, v91, v92, v93, rfl, hb4, k10r, own, kz0, kz1, kz2, k0, k1, k2, k3, k4, k5, k6, k7, k8, k9, k10, k11, k12, k13, k14, k15, k16, k17, k18, (fun _ => rfl), (fun _ => congrArg (Value.int .u8) (by have h := HB2.out; first | omega | (simp [IntKind.wrap, IntKind.bits, IntKind.signed]; omega) | (trace_state; sorry))), k21, k22, k23, k24, k25, k26, k27, k28, k29⟩
                    · refine wpOp_step (by simp only [List.getElem?_toArray, List.getElem?_cons_succ, List.getElem?_cons_zero]; rfl) (fun K hK => ?_)
                      go_simp
                      exact hK _ _ ⟨v10, v65, v66, v67, v68, v69, v70, v71, v72, v73, v74, v75, v76, v77, v78, v79, v80, v81, v82, v83, v84, v85, _, v87, v88, v89, v90, v91, v92, v93, rfl, hb4, k10r, own, kz0, kz1, kz2, k0, k1, k2, k3, k4, k5, k6, k7, k8, k9, k10, k11, k12, k13, k14, k15, k16, k17, k18, k19, k20, (fun _ => rfl), k22, k23, k24, k25, k26, k27, k28, k29⟩
                    · refine wpOp_step (by simp only [List.getElem?_toArray, List.getElem?_cons_succ, List.getElem?_cons_zero]; rfl) (fun K hK => ?_)
                      go_simp
                      exact hK _ _ ⟨v10, v65, v66, v67, v68, v69, v70, v71, v72, v73, v74, v75, v76, v77, v78, v79, v80, v81, v82, v83, v84, v85, v86, _, v88, v89, v90, v91, v92, v93, rfl, hb4, k10r, own, kz0, kz1, kz2, k0, k1, k2, k3, k4, k5, k6, k7, k8, k9, k10, k11, k12, k13, k14, k15, k16, k17, k18, k19, k20, k21, (fun _ => rfl), k23, k24, k25, k26, k27, k28, k29⟩
                    · have e21 := k21 (hdep 21 (by kernel_rfl))
                      subst e21
                      have e22 := k22 (hdep 22 (by kernel_rfl))
                      subst e22
                      refine wpOp_step (by simp only [List.getElem?_toArray, List.getElem?_cons_succ, List.getElem?_cons_zero]; rfl) (fun K hK => ?_)
                      go_simp
                      exact hK _ _ ⟨v10, v65, v66, v67, v68, v69, v70, v71, v72, v73, v74, v75, v76, v77, v78, v79, v80, v81, v82, v83, v84, v85, _, _, _, v89, v90, v91, v92, v93, rfl, hb4, k10r, own, kz0, kz1, kz2, k0, k1, k2, k3, k4, k5, k6, k7, k8, k9, k10, k11, k12, k13, k14, k15, k16, k17, k18, k19, k20, (fun _ => rfl), (fun _ => rfl), (fun _ => rfl), k24, k25, k26, k27, k28, k29⟩
                    · have e23 := k23 (hdep 23 (by kernel_rfl))
                      subst e23
                      have cH' := keep_cell hb4 cH
                      refine wpOp_step (by simp only [List.getElem?_toArray, List.getElem?_cons_succ, List.getElem?_cons_zero]; rfl) (fun K hK => ?_)
                      go_simp
                      exact hK _ _ ⟨v10, v65, v66, v67, v68, v69, v70, v71, v72, v73, v74, v75, v76, v77, v78, v79, v80, v81, v82, v83, v84, v85, v86, v87, _, _, v90, v91, v92, v93, rfl, hb4, k10r, own, kz0, kz1, kz2, k0, k1, k2, k3, k4, k5, k6, k7, k8, k9, k10, k11, k12, k13, k14, k15, k16, k17, k18, k19, k20, k21, k22, (fun _ => rfl), (fun _ => rfl), k25, k26, k27, k28, k29⟩
                    · have e24 := k24 (hdep 24 (by kernel_rfl))
                      subst e24
                      refine wpOp_step (by simp only [List.getElem?_toArray, List.getElem?_cons_succ, List.getElem?_cons_zero]; rfl) (fun K hK => ?_)
                      go_simp
                      exact hK _ _ ⟨v10, v65, v66, v67, v68, v69, v70, v71, v72, v73, v74, v75, v76, v77, v78, v79, v80, v81, v82, v83, v84, v85, v86, v87, v88, _, _, v91, v92, v93, rfl, hb4, k10r, own, kz0, kz1, kz2, k0, k1, k2, k3, k4, k5, k6, k7, k8, k9, k10, k11, k12, k13, k14, k15, k16, k17, k18, k19, k20, k21, k22, k23, (fun _ => rfl), (fun _ => rfl), k26, k27, k28, k29⟩
                    · have e25 := k25 (hdep 25 (by kernel_rfl))
                      subst e25
                      refine wpOp_step (by simp only [List.getElem?_toArray, List.getElem?_cons_succ, List.getElem?_cons_zero]; rfl) (fun K hK => ?_)
                      go_simp
                      exact hK _ _ ⟨v10, v65, v66, v67, v68, v69, v70, v71, v72, v73, v74, v75, v76, v77, v78, v79, v80, v81, v82, v83, v84, v85, v86, v87, v88, v89, _, _, v92, v93, rfl, hb4, k10r, own, kz0, kz1, kz2, k0, k1, k2, k3, k4, k5, k6, k7, k8, k9, k10, k11, k12, k13, k14, k15, k16, k17, k18, k19, k20, k21, k22, k23, k24, (fun _ => rfl), (fun _ => congrArg (Value.int .u8) (by have h := HB3.out; first | omega | (simp [IntKind.wrap, IntKind.bits, IntKind.signed]; omega) | (trace_state; sorry))), k27, k28, k29⟩
                    · have e6 := k6 (hdep 6 (by kernel_rfl))
                      subst e6
                      have e13 := k13 (hdep 13 (by kernel_rfl))
                      subst e13
                      have e20 := k20 (hdep 20 (by kernel_rfl))
                      subst e20
                      have e26 := k26 (hdep 26 (by kernel_rfl))
                      subst e26
                      refine wpOp_step (by simp only [List.getElem?_toArray, List.getElem?_cons_succ, List.getElem?_cons_zero]; rfl) (fun K hK => ?_)
                      go_simp
                      exact hK _ _ ⟨v10, v65, v66, v67, v68, v69, v70, _, v72, v73, v74, v75, v76, v77, _, v79, v80, v81, v82, v83, v84, _, v86, v87, v88, v89, v90, _, _, v93, rfl, (hb4.alloc hb4.size _), k10r, (fun h => (own h).alloc _), kz0, (fun _ => rfl), kz2, k0, k1, k2, k3, k4, k5, (fun _ => rfl), k7, k8, k9, k10, k11, k12, (fun _ => rfl), k14, k15, k16, k17, k18, k19, (fun _ => rfl), k21, k22, k23, k24, k25, (fun _ => rfl), (fun _ _ => ⟨_, rfl, new4 _ _ _ _ _ _⟩), (fun h => absurd (kz1 h) (by rw [hD]; simp)), (fun h => absurd (kz1 (kz2 h)) (by rw [hD]; simp))⟩
                    · have e0 := k0 (hdep 0 (by kernel_rfl))
                      subst e0
                      obtain ⟨gb, rfl, hsrc⟩ := k27 (hdep 27 (by kernel_rfl)) hD
                      refine wpOp_step (by simp only [List.getElem?_toArray, List.getElem?_cons_succ, List.getElem?_cons_zero]; rfl) (fun K hK => ?_)
                      refine step_app' (P := Try.prog) rfl (.tmp 65) (.tmp 92) 74 rfl W3.heap.size 5 _ 1 1 Try.underlying74 infoByteV rfl (by omega) (.slice A5 (4 * kk) cap5) (4 * kk) _ rfl (own hD) (some ⟨gb, 0, none⟩) 4 4 _ rfl hsrc (by simp [Value.oneCell']) (fun h => by cases h) (by unfold maxLen; omega) (by omega) hb4.size ?_
                      intro A6 c6 w5 hown6 hg6 hb6 _
                      exact hK _ _ ⟨v10, _, v66, v67, v68, v69, v70, v71, v72, v73, v74, v75, v76, v77, v78, v79, v80, v81, v82, v83, v84, v85, v86, v87, v88, v89, v90, v91, _, _, rfl, (hb4.trans hb6), k10r, (fun h => by cases h), kz0, (fun _ => hdep 27 (by kernel_rfl)), (fun _ => rfl), (fun _ => rfl), k1, k2, k3, k4, k5, k6, k7, k8, k9, k10, k11, k12, k13, k14, k15, k16, k17, k18, k19, k20, k21, k22, k23, k24, k25, k26, (fun _ h => by cases h), (fun _ => ⟨_, _, rfl, hown6⟩), (fun h => absurd (kz2 h) (by rw [hD]; simp))⟩
                    · obtain ⟨A6, c6, rfl, hown6⟩ := k28 (hdep 28 (by kernel_rfl))
                      refine wpOp_step (by simp only [List.getElem?_toArray, List.getElem?_cons_succ, List.getElem?_cons_zero]; rfl) (fun K hK => ?_)
                      go_simp
                      exact hK _ _ ⟨_, v65, v66, v67, v68, v69, v70, v71, v72, v73, v74, v75, v76, v77, v78, v79, v80, v81, v82, v83, v84, v85, v86, v87, v88, v89, v90, v91, v92, _, rfl, hb4, (fun h => by cases h), own, (fun _ => hdep 0 (by kernel_rfl)), kz1, (fun _ => hdep 28 (by kernel_rfl)), k0, k1, k2, k3, k4, k5, k6, k7, k8, k9, k10, k11, k12, k13, k14, k15, k16, k17, k18, k19, k20, k21, k22, k23, k24, k25, k26, k27, (fun _ => ⟨_, _, rfl, hown6⟩), (fun _ => ⟨_, _, rfl, hown6⟩)⟩
                  · intro D a' w' hD hI
                    obtain ⟨v10, v65, v66, v67, v68, v69, v70, v71, v72, v73, v74, v75, v76, v77, v78, v79, v80, v81, v82, v83, v84, v85, v86, v87, v88, v89, v90, v91, v92, v93, rfl, hb4, k10r, own, kz0, kz1, kz2, k0, k1, k2, k3, k4, k5, k6, k7, k8, k9, k10, k11, k12, k13, k14, k15, k16, k17, k18, k19, k20, k21, k22, k23, k24, k25, k26, k27, k28, k29⟩ := hI
                    have hgk := HG.out
                    obtain ⟨A6, c6, rfl, hown6⟩ := k29 (hD 29 (show 29 < 30 by decide))
                    have hnews := bytes4 x lx
                    rw [← HB0.out, ← HB1.out, ← HB2.out, ← HB3.out] at hnews
                    rw [hnews, ← List.map_append, HNX.out] at hown6
                    clear k0 k1 k2 k3 k4 k5 k6 k7 k8 k9 k10 k11 k12 k13 k14 k15 k16 k17 k18 k19 k20 k21 k22 k23 k24 k25 k26 k27 k28 k29 hD hnews e255
                    go_wp2
                    go_roundg (7 - kk)
                    case measure => omega
                    case rel => exact ⟨kk + 1, c6, A6, by omega, by omega, by go_num, rfl, RowIn.of_own hown6, hb4⟩
                · have hk0 : kk = 8 := by omega
                  subst hk0
                  obtain ⟨gq, rfl, hcv⟩ := conv_own hown (by omega)
                  go_wp2
                  go_returns
                  exact ⟨by rw [HSH.out]; rfl, bthen hb hb4⟩
end Go.Proofs.Ytdphdnllhmnelaa
