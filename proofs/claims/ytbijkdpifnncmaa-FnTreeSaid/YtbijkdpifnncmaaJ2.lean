/- Contracts and lemmas: ShaP, Short, LawStrs, StrRow, Nest, Ents, CopyEnts. -/
import Derived.Test.YtbijkdpifnncmaaJ1
import Derived.Test.YtbijkdpifnncmaaJ0
import Derived.Test.YtbijkdpifnncmaaRows
import Derived.BigQuiet
import Derived.Deep.QuietTactic
import Derived.Laws.BytesArg
import Derived.Laws.IdiomStrings
import Derived.Deep.RegionHeld3
import Derived.StillTailTactics
/- Contract of the reference's Sha. -/
namespace Go.Proofs.Ytbijkdpifnncmaa
open Go.RowKit

theorem new4 (w : World) (e : TypeId) (a b c d : Value) : CellsAt (w.alloc (.cells #[a, b, c, d] e)) (some ⟨w.heap.size, 0, none⟩) 4 1 [a, b, c, d] := by
  refine ⟨rfl, fun _ => ⟨w.heap.size, 0, rfl, fun j u hu => ?_⟩⟩
  rw [Nat.zero_add, World.cell?_alloc_new]
  simpa using hu
theorem bytes4 (x : Nat) (hx : x < 4294967296) : [Value.int .u8 ((x / 16777216 : Nat) : Int), .int .u8 ((x / 65536 % 256 : Nat) : Int), .int .u8 ((x / 256 % 256 : Nat) : Int), .int .u8 ((x % 256 : Nat) : Int)] = (fixL x 4).map byteV := by
  show _ = [byteV (UInt8.ofNat (dv x 3 % 256)), byteV (UInt8.ofNat (dv x 2 % 256)), byteV (UInt8.ofNat (dv x 1 % 256)), byteV (UInt8.ofNat (dv x 0 % 256))]
  rw [byteV_of (by omega), byteV_of (by omega), byteV_of (by omega), byteV_of (by omega)]
  have e : (256 : Nat) ^ 3 = 16777216 ∧ (256 : Nat) ^ 2 = 65536 ∧ (256 : Nat) ^ 1 = 256 ∧ (256 : Nat) ^ 0 = 1 := by decide
  unfold dv
  rw [e.1, e.2.1, e.2.2.1, e.2.2.2, Nat.div_one, Nat.mod_eq_of_lt (show x / 16777216 < 256 by omega)]
theorem zeros_snoc (j : Nat) : (128 :: List.replicate j (0 : UInt8)).map byteV ++ [Value.int .u8 0] = (128 :: List.replicate (j + 1) 0).map byteV := by
  rw [List.replicate_succ', ← List.cons_append, List.map_append]; rfl
theorem padB (m k : Nat) (hk : k < 8) : byteV (UInt8.ofNat (dv m (7 - k) % 256)) = .int .u8 (((m / 2 ^ (56 - 8 * k) : Nat) : Int) % 256) := by
  rw [byteV_of (by omega), show dv m (7 - k) = m / 2 ^ (56 - 8 * k) by unfold dv; rw [show 256 = 2 ^ 8 by decide, ← Nat.pow_mul, show 8 * (7 - k) = 56 - 8 * k by omega]]
  rfl
theorem fix_snoc (m k : Nat) (hk : k < 8) (l : List UInt8) : (l ++ (fixL m 8).take k).map byteV ++ [byteV (UInt8.ofNat (dv m (7 - k) % 256))] = (l ++ (fixL m 8).take (k + 1)).map byteV := by
  rw [List.take_succ_eq_append_getElem (by rw [fixL_length]; exact hk), fixL_get m 8 k hk, show 8 - 1 - k = 7 - k by omega]
  simp

set_option maxRecDepth 8000 in
set_option maxHeartbeats 4000000 in
theorem sha_spec (s : ByteArray) (w : World) (hs : s.size ≤ 1099511627776) :
    Calls Try.prog 91 #[.string s] w fun e w' => e = .returned (.string (shaS s)) ∧ Below w.heap.size w w' := by
  obtain ⟨z, hz⟩ : ∃ z, z = zN s.size := ⟨_, rfl⟩
  have hz64 : z < 64 := by rw [hz]; exact zN_lt _
  have HM := Lib.hid (show (s.size + 1 + z) % 64 = 56 by rw [hz]; exact zN_mod _)
  have HL := Lib.hid (show ∀ j, j < z → (s.size + 1 + j) % 64 ≠ 56 from fun j h => zN_least _ _ (by omega))
  have HP := Lib.hid (show (128 :: List.replicate z 0) ++ fixL (8 * s.size) 8 = padL s.size by rw [hz]; rfl)
  clear hz
  go_enter Try.func91, Try.ntmps91
  go_wp2
  go_loopg [4] z (fun gk p wr => ∃ (j cap : Nat) (A : Option Addr), j ≤ z ∧ gk = z - j ∧ p = .slice A (j + 1) cap ∧ RowIn 5 1 w.heap.size wr.heap.size wr A (j + 1) cap ((128 :: List.replicate j 0).map byteV) ∧ Below w.heap.size w wr)
  case atStart => exact ⟨0, 1, some ⟨w.heap.size, 0, none⟩, Nat.zero_le _, rfl, rfl, RowIn.of_own (World.ownsRow_lit w #[.int .u8 128] 1 (Nat.le_refl _) (by unfold maxLen; omega) rfl), (Below.refl _ _).alloc (Nat.le_refl _) _⟩
  case round =>
    obtain ⟨j, cap, A, hj, hgk, rfl, hrow, hb⟩ := hrel
    have HG := Lib.hid hgk; clear hgk
    have hzr := hb.size
    have hown := hrow.own
    by_cases hjz : j < z
    · have h1 := HL.out j hjz
      have HS := Lib.hid (zeros_snoc j)
      have t1 : IntKind.i64.wrap ((s.size : Int) + ((j + 1 : Nat) : Int)) = ((s.size + 1 + j : Nat) : Int) := by rw [IntKind.wrap_i64]; omega
      go_wp2_with (first | (at_builtin; refine wpList_app1g (P := Try.prog) _ rfl (.tmp 21) (.tmp 22) 22 rfl w.heap.size 5 _ 1 1 Try.underlying22 infoByteV rfl (by omega) (.slice A (j + 1) cap) _ _ rfl hown #[.int .u8 0] _ rfl (by simp) rfl (by simp [Value.oneCell']) (by unfold maxLen; omega) (by omega) hzr ?_; intro A' c' w4 hown4 hg4 hb4 _) | fail)
      have hgk := HG.out
      rw [HS.out] at hown4
      go_roundg (z - (j + 1))
      case measure => omega
      case rel => exact ⟨j + 1, c', A', by omega, rfl, rfl, RowIn.of_own hown4, hb.trans hb4⟩
    · have hjz' : j = z := by omega
      subst hjz'
      have h1 := HM.out
      have t1 : IntKind.i64.wrap ((s.size : Int) + ((j + 1 : Nat) : Int)) = ((s.size + 1 + j : Nat) : Int) := by rw [IntKind.wrap_i64]; omega
      clear HM HL HG hj hjz
      obtain ⟨n8, hn8⟩ : ∃ n : Nat, n = 8 * s.size := ⟨_, rfl⟩
      rw [← hn8] at HP
      have z2 : (s.size : Int) * 8 = (n8 : Int) := by omega
      have hn8b : n8 ≤ 8796093022208 := by omega
      clear hn8
      go_wp2
      generalize Value.bool (((s.size : Int) + ((j : Int) + 1)) % 64 != 56) = ub
      go_loopg [5, 4] 8 (fun gk i p wr => ∃ (k cap : Nat) (A : Option Addr), k ≤ 8 ∧ gk = 8 - k ∧ i = .int .i64 k ∧ p = .slice A (j + 1 + k) cap ∧ RowIn 5 1 w.heap.size wr.heap.size wr A (j + 1 + k) cap (((128 :: List.replicate j 0) ++ (fixL n8 8).take k).map byteV) ∧ Below w.heap.size w wr)
      case atStart => exact ⟨0, cap, A, by omega, rfl, rfl, rfl, by simpa using hrow, hb⟩
      case round =>
        clear hb hzr hrow h1 hown
        obtain ⟨k, cap2, A2, hk8, hgk, rfl, rfl, hrow, hb⟩ := hrel
        have HG := Lib.hid hgk; clear hgk
        have hzr := hb.size
        have hown := hrow.own
        by_cases hlt8 : k < 8
        · obtain ⟨q, hq⟩ : ∃ q : Nat, q = 56 - 8 * k := ⟨_, rfl⟩
          have e2 : IntKind.i64.wrap ((8 : Int) * (k : Int)) = 8 * (k : Int) := by rw [IntKind.wrap_i64]; omega
          have e3 : IntKind.i64.wrap (56 - 8 * (k : Int)) = (q : Int) := by rw [IntKind.wrap_i64]; omega
          have e4 : IntKind.u64.wrap (q : Int) = (q : Int) := by rw [IntKind.wrap_u64]; omega
          have HB5 := Lib.hid (show bits .and .i64 ((n8 : Int) / 2 ^ min q 64) 255 % 256 = ((n8 / 2 ^ q : Nat) : Int) % 256 by
            rw [and_255, show min q 64 = q by omega, Int.natCast_ediv, Int.natCast_pow]; exact Int.emod_emod_of_dvd _ (by decide))
          have HS := Lib.hid (fix_snoc n8 k hlt8 (128 :: List.replicate j 0))
          have HB := Lib.hid (padB n8 k hlt8)
          rw [← hq] at HB
          clear hq
          go_wp2_with (first | (at_builtin; refine wpList_app1g (P := Try.prog) _ rfl (.tmp 28) (.tmp 38) 22 rfl w.heap.size 5 _ 1 1 Try.underlying22 infoByteV rfl (by omega) (.slice A2 (j + 1 + k) cap2) _ _ rfl hown _ _ rfl (by simp) rfl (by simp [Value.oneCell']) (by unfold maxLen; omega) (by omega) hzr ?_; intro A' c' w4 hown4 hg4 hb4 _) | fail)
          have hgk := HG.out
          rw [HB5.out, ← HB.out, HS.out] at hown4
          go_roundg (7 - k)
          case measure => omega
          case rel => exact ⟨k + 1, c', A', by omega, by omega, by go_num, rfl, RowIn.of_own hown4, hb.trans hb4⟩
        · have hk0 : k = 8 := by omega
          subst hk0
          rw [show List.take 8 (fixL n8 8) = fixL n8 8 by rw [List.take_of_length_le]; rw [fixL_length]; exact Nat.le_refl _, HP.out] at hown
          obtain ⟨gp, rfl, hcv⟩ := conv_own hown (by omega)
          obtain ⟨wr1, hwr1⟩ : ∃ q, q = wr := ⟨_, rfl⟩
          subst hwr1
          have hpt : s ++ ⟨(padL s.size).toArray⟩ = padT s := rfl
          have hps : (⟨(padL s.size).toArray⟩ : ByteArray).size ≤ 100 := by
            show (padL s.size).toArray.size ≤ 100
            rw [List.size_toArray, padL_length]; have := zN_lt s.size; omega
          have HPT := Lib.hid hpt
          clear hpt HG hk8 hlt8 hrow hown hn8b
          generalize hpo : (⟨(padL s.size).toArray⟩ : ByteArray) = PO at *
          clear hpo
          have hts := padT_size' s
          have htb : (padT s).size ≤ 2199023255552 := by rw [padT_size]; have := zN_lt s.size; omega
          have HSH := Lib.hid (show shaS s = ⟨(outL (hS (padT s) (nB s.size)) 8).toArray⟩ from rfl)
          generalize padT s = t at *
          generalize nB s.size = N at *
          go_wp2_with fail
          rw [HPT.out]
          have hh0 : ValsAt (wr1.alloc (.cells #[.int .i64 1779033703, .int .i64 3144134277, .int .i64 1013904242, .int .i64 2773480762, .int .i64 1359893119, .int .i64 2600822924, .int .i64 528734635, .int .i64 1541459225] 3)) (some ⟨wr1.heap.size, 0, none⟩) 8 (natV (hS t 0)) := vals_lit wr1 3 hList
          have hal : Below wr1.heap.size wr1 (wr1.alloc (.cells #[.int .i64 1779033703, .int .i64 3144134277, .int .i64 1013904242, .int .i64 2773480762, .int .i64 1359893119, .int .i64 2600822924, .int .i64 528734635, .int .i64 1541459225] 3)) := (Below.refl _ _).alloc (Nat.le_refl _) _
          refine (l3Keys_any _).mono ?_
          rintro e w1 ⟨B, rfl, _, hB, hb1⟩
          have hh1 := hh0.keep hb1
          have hb2 := bthen (bthen hb hal) hb1
          clear hh0 hal hb hcv hb1
          go_wp2
          go_loopg [9, 7] N (fun gk i v w2 => ∃ k g c : Nat, k ≤ N ∧ gk = N - k ∧ i = .int .i64 ((64 * k : Nat) : Int) ∧ v = .slice (some ⟨g, 0, none⟩) 8 c ∧ ValsAt w2 (some ⟨g, 0, none⟩) 8 (natV (hS t k)) ∧ ValsAt w2 (some ⟨B, 0, none⟩) 64 (natV kF) ∧ Below w.heap.size w w2)
          case atStart => exact ⟨0, wr1.heap.size, 8, Nat.zero_le _, rfl, rfl, rfl, hh1, hB, hb2⟩
          case round =>
            clear hh1 hB hb2
            obtain ⟨k, g, c, hkN, hgk, rfl, rfl, hh, hB, hb⟩ := hrel
            have HG := Lib.hid hgk; clear hgk
            by_cases hlt : k < N
            · have hsz64 : (blkAt t k).size = 64 := blkAt_size (by omega)
              obtain ⟨m, hm⟩ : ∃ m, m = 64 * k := ⟨_, rfl⟩
              have hin : (m : Int) < (t.size : Int) := by omega
              have hw64 : IntKind.i64.wrap ((m : Int) + 64) = (m : Int) + 64 := by rw [IntKind.wrap_i64]; omega
              have hle1 : (m : Int) + 64 ≤ (t.size : Int) := by omega
              have hle2 : (m : Int) ≤ (m : Int) + 64 := by omega
              have hn64 : ((m : Int) + 64).toNat = m + 64 := by omega
              have HBK := Lib.hid (show blkAt t k = t.extract m (m + 64) by rw [hm]; rfl)
              have HST := Lib.hid (show blk kF (bW (blkAt t k)) (hS t k) = hS t (k + 1) from rfl)
              rw [← hm]
              have HM := Lib.hid hm
              clear hm
              go_wp2_with fail
              rw [← HBK.out]
              refine (l3Block_any _ _ _ _ _ _ _ hh (fun j _ => hS_lt _ _ _) hsz64 hB).mono ?_
              rintro e w3 ⟨g2, c2, rfl, _, hh2, hb3⟩
              rw [HST.out] at hh2
              have hB3 := hB.keep hb3
              go_wp2
              have hgk := HG.out
              have hmm := HM.out
              go_roundg (N - (k + 1))
              case measure => omega
              case rel => exact ⟨k + 1, g2, c2, by omega, rfl, by congr 1; omega, rfl, hh2, hB3, bthen hb hb3⟩
            · have hk0 : k = N := by omega
              subst hk0
              clear HG hkN hB
              have hlh := hS_lt t k
              generalize hS t k = H at *
              have hal : Below wr.heap.size wr (wr.alloc (.cells #[] 5)) := (Below.refl _ _).alloc (Nat.le_refl _) _
              have hh2 := hh.keep hal
              have hb2 := bthen hb hal
              obtain ⟨b0, off0, e0, hbl0, hc0⟩ := hh (by decide)
              injection e0 with e0
              injection e0 with e0 e00
              subst e0 e00
              have hcell : ∀ i, i < 8 → wr.cell? ⟨g, i, none⟩ = some (natV H i) := fun i hi => by have := hc0 i hi; rwa [Nat.zero_add] at this
              clear hh hc0 hh2
              have hnx : ∀ j, (outL H j ++ fixL (H j) 4) = outL H (j + 1) := fun _ => rfl
              go_wp2
              generalize wr = W3 at *
              go_loopg [11, 10] 8 (fun gk i v w4 => ∃ (k cap : Nat) (A : Option Addr), k ≤ 8 ∧ gk = 8 - k ∧ i = .int .i64 k ∧ v = .slice A (4 * k) cap ∧ RowIn 5 1 W3.heap.size w4.heap.size w4 A (4 * k) cap ((outL H k).map byteV) ∧ Below W3.heap.size W3 w4)
              case atStart => exact ⟨0, 0, some ⟨W3.heap.size, 0, none⟩, by omega, rfl, rfl, rfl, RowIn.of_own (own_empty _ _ _ (Nat.le_refl _)), hal⟩
              case round =>
                obtain ⟨kk, cap5, A5, hk8, hgk, rfl, rfl, hrow, hb4⟩ := hrel
                clear hb2 hal
                have HG := Lib.hid hgk; clear hgk
                have hown := hrow.own
                have hzr := hb4.size
                by_cases hlt8 : kk < 8
                · have cH := hcell kk hlt8
                  have lx := hlh kk
                  have HNX := Lib.hid (hnx kk)
                  simp only [natV, intV] at cH
                  obtain ⟨x, hx⟩ : ∃ x, x = H kk := ⟨_, rfl⟩
                  rw [← hx] at cH lx HNX
                  clear hx hcell hnx
                  have ik : (kk : Int) < 8 := by omega
                  go_wp2
                  obtain ⟨b0, hb0⟩ : ∃ b, b = x / 16777216 := ⟨_, rfl⟩
                  obtain ⟨b1, hb1⟩ : ∃ b, b = x / 65536 % 256 := ⟨_, rfl⟩
                  obtain ⟨b2, hb2⟩ : ∃ b, b = x / 256 % 256 := ⟨_, rfl⟩
                  obtain ⟨b3, hb3⟩ : ∃ b, b = x % 256 := ⟨_, rfl⟩
                  have HB0 := Lib.hid hb0; have HB1 := Lib.hid hb1; have HB2 := Lib.hid hb2; have HB3 := Lib.hid hb3
                  clear hb0 hb1 hb2 hb3
                  have e255 := and_255
                  refine wp_region_dag (by kernel_rfl) (by kernel_rfl) (fun D a' w' => ∃ v10 v65 v66 v67 v68 v69 v70 v71 v72 v73 v74 v75 v76 v77 v78 v79 v80 v81 v82 v83 v84 v85 v86 v87 v88 v89 v90 v91 v92 v93 : Value, a' = { tmps := List.toArray (Value.string s :: undef :: Value.string { data := #[] } :: Value.int IntKind.i64 ↑s.size :: Value.slice (some { block := gp, off := 0 }) (j + 1 + 8) cap2 :: Value.int IntKind.i64 8 :: Value.string t :: Value.slice (some { block := g, off := 0 }) 8 c :: Value.slice (some { block := B, off := 0 }) 64 64 :: Value.int IntKind.i64 (64 * ↑k) :: v10 :: Value.int IntKind.i64 ↑kk :: Value.string s :: Value.int IntKind.i64 ↑s.size :: Value.slice (some { block := w.heap.size, off := 0 }) 1 1 :: Value.int IntKind.i64 ↑s.size :: Value.slice A (j + 1) cap :: Value.int IntKind.i64 (↑j + 1) :: Value.int IntKind.i64 (↑s.size + (↑j + 1)) :: Value.int IntKind.i64 ((↑s.size + (↑j + 1)) % 64) :: ub :: u21 :: u22 :: u23 :: Value.int IntKind.i64 8 :: Value.bool false :: u26 :: u27 :: u28 :: u29 :: u30 :: u31 :: u32 :: u33 :: u34 :: u35 :: u36 :: u37 :: u38 :: u39 :: Value.string s :: Value.slice (some { block := gp, off := 0 }) (j + 1 + 8) cap2 :: Value.string PO :: Value.string t :: Value.slice (some { block := wr1.heap.size, off := 0 }) 8 8 :: Value.slice (some { block := B, off := 0 }) 64 64 :: Value.int IntKind.i64 (64 * ↑k) :: Value.string t :: Value.int IntKind.i64 (64 * ↑k) :: Value.bool false :: u50 :: u51 :: u52 :: u53 :: u54 :: u55 :: u56 :: u57 :: u58 :: u59 :: Value.slice (some { block := W3.heap.size, off := 0 }) 0 0 :: Value.int IntKind.i64 ↑kk :: Value.bool true :: u63 :: u64 :: v65 :: v66 :: v67 :: v68 :: v69 :: v70 :: v71 :: v72 :: v73 :: v74 :: v75 :: v76 :: v77 :: v78 :: v79 :: v80 :: v81 :: v82 :: v83 :: v84 :: v85 :: v86 :: v87 :: v88 :: v89 :: v90 :: v91 :: v92 :: v93 :: undef :: undef :: []), defers := [] } ∧ Below W3.heap.size W3 w' ∧ (D 29 = false → v10 = .slice A5 (4 * kk) cap5) ∧ (D 28 = false → w'.ownsRow W3.heap.size 5 1 (.slice A5 (4 * kk) cap5) (4 * kk) ((outL H kk).map byteV)) ∧ (D 29 = true → D 0 = true) ∧ (D 28 = true → D 27 = true) ∧ (D 29 = true → D 28 = true) ∧ (D 0 = true → v65 = .slice A5 (4 * kk) cap5) ∧ (D 1 = true → v66 = .slice (some ⟨g, 0, none⟩) 8 c) ∧ (D 2 = true → v67 = .int .i64 (kk : Int)) ∧ (D 3 = true → v68 = .pointer (some ⟨g, kk, none⟩)) ∧ (D 4 = true → v69 = .int .i64 (x : Int)) ∧ (D 5 = true → v70 = .int .i64 ((x : Int) / 16777216)) ∧ (D 6 = true → v71 = .int .u8 (b0 : Int)) ∧ (D 7 = true → v72 = .slice (some ⟨g, 0, none⟩) 8 c) ∧ (D 8 = true → v73 = .int .i64 (kk : Int)) ∧ (D 9 = true → v74 = .pointer (some ⟨g, kk, none⟩)) ∧ (D 10 = true → v75 = .int .i64 (x : Int)) ∧ (D 11 = true → v76 = .int .i64 ((x : Int) / 65536)) ∧ (D 12 = true → v77 = .int .i64 ((x : Int) / 65536 % 256)) ∧ (D 13 = true → v78 = .int .u8 (b1 : Int)) ∧ (D 14 = true → v79 = .slice (some ⟨g, 0, none⟩) 8 c) ∧ (D 15 = true → v80 = .int .i64 (kk : Int)) ∧ (D 16 = true → v81 = .pointer (some ⟨g, kk, none⟩)) ∧ (D 17 = true → v82 = .int .i64 (x : Int)) ∧ (D 18 = true → v83 = .int .i64 ((x : Int) / 256)) ∧ (D 19 = true → v84 = .int .i64 ((x : Int) / 256 % 256)) ∧ (D 20 = true → v85 = .int .u8 (b2 : Int)) ∧ (D 21 = true → v86 = .slice (some ⟨g, 0, none⟩) 8 c) ∧ (D 22 = true → v87 = .int .i64 (kk : Int)) ∧ (D 23 = true → v88 = .pointer (some ⟨g, kk, none⟩)) ∧ (D 24 = true → v89 = .int .i64 (x : Int)) ∧ (D 25 = true → v90 = .int .i64 ((x : Int) % 256)) ∧ (D 26 = true → v91 = .int .u8 (b3 : Int)) ∧ (D 27 = true → (D 28 = false → ∃ gb, v92 = .slice (some ⟨gb, 0, none⟩) 4 4 ∧ CellsAt w' (some ⟨gb, 0, none⟩) 4 1 [Value.int .u8 (b0 : Int), .int .u8 (b1 : Int), .int .u8 (b2 : Int), .int .u8 (b3 : Int)])) ∧ (D 28 = true → ∃ A6 c6, v93 = .slice A6 (4 * kk + 4) c6 ∧ w'.ownsRow W3.heap.size 5 1 (.slice A6 (4 * kk + 4) c6) (4 * kk + 4) ((outL H kk).map byteV ++ [Value.int .u8 (b0 : Int), .int .u8 (b1 : Int), .int .u8 (b2 : Int), .int .u8 (b3 : Int)])) ∧ (D 29 = true → ∃ A6 c6, v10 = .slice A6 (4 * kk + 4) c6 ∧ w'.ownsRow W3.heap.size 5 1 (.slice A6 (4 * kk + 4) c6) (4 * kk + 4) ((outL H kk).map byteV ++ [Value.int .u8 (b0 : Int), .int .u8 (b1 : Int), .int .u8 (b2 : Int), .int .u8 (b3 : Int)])))
                    ⟨.slice A5 (4 * kk) cap5, u65, u66, u67, u68, u69, u70, u71, u72, u73, u74, u75, u76, u77, u78, u79, u80, u81, u82, u83, u84, u85, u86, u87, u88, u89, u90, u91, u92, u93, rfl, hb4.drew, (fun _ => rfl), (fun _ => hown), (fun h => by cases h), (fun h => by cases h), (fun h => by cases h), (fun h => by cases h), (fun h => by cases h), (fun h => by cases h), (fun h => by cases h), (fun h => by cases h), (fun h => by cases h), (fun h => by cases h), (fun h => by cases h), (fun h => by cases h), (fun h => by cases h), (fun h => by cases h), (fun h => by cases h), (fun h => by cases h), (fun h => by cases h), (fun h => by cases h), (fun h => by cases h), (fun h => by cases h), (fun h => by cases h), (fun h => by cases h), (fun h => by cases h), (fun h => by cases h), (fun h => by cases h), (fun h => by cases h), (fun h => by cases h), (fun h => by cases h), (fun h => by cases h), (fun h => by cases h), (fun h => by cases h), (fun h => by cases h), (fun h => by cases h)⟩ ?_ ?_
                  · intro i D a' w' hi hD hdep hI
                    have hi' : i < 30 := hi
                    obtain ⟨v10, v65, v66, v67, v68, v69, v70, v71, v72, v73, v74, v75, v76, v77, v78, v79, v80, v81, v82, v83, v84, v85, v86, v87, v88, v89, v90, v91, v92, v93, rfl, hb4, k10r, own, kz0, kz1, kz2, k0, k1, k2, k3, k4, k5, k6, k7, k8, k9, k10, k11, k12, k13, k14, k15, k16, k17, k18, k19, k20, k21, k22, k23, k24, k25, k26, k27, k28, k29⟩ := hI
                    rcases (show i = 0 ∨ i = 1 ∨ i = 2 ∨ i = 3 ∨ i = 4 ∨ i = 5 ∨ i = 6 ∨ i = 7 ∨ i = 8 ∨ i = 9 ∨ i = 10 ∨ i = 11 ∨ i = 12 ∨ i = 13 ∨ i = 14 ∨ i = 15 ∨ i = 16 ∨ i = 17 ∨ i = 18 ∨ i = 19 ∨ i = 20 ∨ i = 21 ∨ i = 22 ∨ i = 23 ∨ i = 24 ∨ i = 25 ∨ i = 26 ∨ i = 27 ∨ i = 28 ∨ i = 29 by omega) with rfl | rfl | rfl | rfl | rfl | rfl | rfl | rfl | rfl | rfl | rfl | rfl | rfl | rfl | rfl | rfl | rfl | rfl | rfl | rfl | rfl | rfl | rfl | rfl | rfl | rfl | rfl | rfl | rfl | rfl
                    · have d29 : D 29 = false := Bool.eq_false_iff.2 (fun h => by rw [kz0 h] at hD; cases hD)
                      have e10 := k10r d29
                      subst e10
                      refine wpOp_step (by simp only [List.getElem?_toArray, List.getElem?_cons_zero]; rfl) (fun K hK => ?_)
                      go_simp
                      exact hK _ _ ⟨_, _, v66, v67, v68, v69, v70, v71, v72, v73, v74, v75, v76, v77, v78, v79, v80, v81, v82, v83, v84, v85, v86, v87, v88, v89, v90, v91, v92, v93, rfl, hb4, (fun _ => rfl), own, (fun _ => rfl), kz1, kz2, (fun _ => rfl), k1, k2, k3, k4, k5, k6, k7, k8, k9, k10, k11, k12, k13, k14, k15, k16, k17, k18, k19, k20, k21, k22, k23, k24, k25, k26, k27, k28, k29⟩
                    · refine wpOp_step (by simp only [List.getElem?_toArray, List.getElem?_cons_succ, List.getElem?_cons_zero]; rfl) (fun K hK => ?_)
                      go_simp
                      exact hK _ _ ⟨v10, v65, _, v67, v68, v69, v70, v71, v72, v73, v74, v75, v76, v77, v78, v79, v80, v81, v82, v83, v84, v85, v86, v87, v88, v89, v90, v91, v92, v93, rfl, hb4, k10r, own, kz0, kz1, kz2, k0, (fun _ => rfl), k2, k3, k4, k5, k6, k7, k8, k9, k10, k11, k12, k13, k14, k15, k16, k17, k18, k19, k20, k21, k22, k23, k24, k25, k26, k27, k28, k29⟩
                    · refine wpOp_step (by simp only [List.getElem?_toArray, List.getElem?_cons_succ, List.getElem?_cons_zero]; rfl) (fun K hK => ?_)
                      go_simp
                      exact hK _ _ ⟨v10, v65, v66, _, v68, v69, v70, v71, v72, v73, v74, v75, v76, v77, v78, v79, v80, v81, v82, v83, v84, v85, v86, v87, v88, v89, v90, v91, v92, v93, rfl, hb4, k10r, own, kz0, kz1, kz2, k0, k1, (fun _ => rfl), k3, k4, k5, k6, k7, k8, k9, k10, k11, k12, k13, k14, k15, k16, k17, k18, k19, k20, k21, k22, k23, k24, k25, k26, k27, k28, k29⟩
                    · have e1 := k1 (hdep 1 (by kernel_rfl))
                      subst e1
                      have e2 := k2 (hdep 2 (by kernel_rfl))
                      subst e2
                      refine wpOp_step (by simp only [List.getElem?_toArray, List.getElem?_cons_succ, List.getElem?_cons_zero]; rfl) (fun K hK => ?_)
                      go_simp
                      exact hK _ _ ⟨v10, v65, _, _, _, v69, v70, v71, v72, v73, v74, v75, v76, v77, v78, v79, v80, v81, v82, v83, v84, v85, v86, v87, v88, v89, v90, v91, v92, v93, rfl, hb4, k10r, own, kz0, kz1, kz2, k0, (fun _ => rfl), (fun _ => rfl), (fun _ => rfl), k4, k5, k6, k7, k8, k9, k10, k11, k12, k13, k14, k15, k16, k17, k18, k19, k20, k21, k22, k23, k24, k25, k26, k27, k28, k29⟩
                    · have e3 := k3 (hdep 3 (by kernel_rfl))
                      subst e3
                      have cH' := keep_cell hb4 cH
                      refine wpOp_step (by simp only [List.getElem?_toArray, List.getElem?_cons_succ, List.getElem?_cons_zero]; rfl) (fun K hK => ?_)
                      go_simp
                      exact hK _ _ ⟨v10, v65, v66, v67, _, _, v70, v71, v72, v73, v74, v75, v76, v77, v78, v79, v80, v81, v82, v83, v84, v85, v86, v87, v88, v89, v90, v91, v92, v93, rfl, hb4, k10r, own, kz0, kz1, kz2, k0, k1, k2, (fun _ => rfl), (fun _ => rfl), k5, k6, k7, k8, k9, k10, k11, k12, k13, k14, k15, k16, k17, k18, k19, k20, k21, k22, k23, k24, k25, k26, k27, k28, k29⟩
                    · have e4 := k4 (hdep 4 (by kernel_rfl))
                      subst e4
                      refine wpOp_step (by simp only [List.getElem?_toArray, List.getElem?_cons_succ, List.getElem?_cons_zero]; rfl) (fun K hK => ?_)
                      go_simp
                      exact hK _ _ ⟨v10, v65, v66, v67, v68, _, _, v71, v72, v73, v74, v75, v76, v77, v78, v79, v80, v81, v82, v83, v84, v85, v86, v87, v88, v89, v90, v91, v92, v93, rfl, hb4, k10r, own, kz0, kz1, kz2, k0, k1, k2, k3, (fun _ => rfl), (fun _ => rfl), k6, k7, k8, k9, k10, k11, k12, k13, k14, k15, k16, k17, k18, k19, k20, k21, k22, k23, k24, k25, k26, k27, k28, k29⟩
                    · have e5 := k5 (hdep 5 (by kernel_rfl))
                      subst e5
                      refine wpOp_step (by simp only [List.getElem?_toArray, List.getElem?_cons_succ, List.getElem?_cons_zero]; rfl) (fun K hK => ?_)
                      go_simp
                      exact hK _ _ ⟨v10, v65, v66, v67, v68, v69, _, _, v72, v73, v74, v75, v76, v77, v78, v79, v80, v81, v82, v83, v84, v85, v86, v87, v88, v89, v90, v91, v92, v93, rfl, hb4, k10r, own, kz0, kz1, kz2, k0, k1, k2, k3, k4, (fun _ => rfl), (fun _ => congrArg (Value.int .u8) (by have h := HB0.out; first | omega | (simp [IntKind.wrap, IntKind.bits, IntKind.signed]; omega) | (trace_state; sorry))), k7, k8, k9, k10, k11, k12, k13, k14, k15, k16, k17, k18, k19, k20, k21, k22, k23, k24, k25, k26, k27, k28, k29⟩
                    · refine wpOp_step (by simp only [List.getElem?_toArray, List.getElem?_cons_succ, List.getElem?_cons_zero]; rfl) (fun K hK => ?_)
                      go_simp
                      exact hK _ _ ⟨v10, v65, v66, v67, v68, v69, v70, v71, _, v73, v74, v75, v76, v77, v78, v79, v80, v81, v82, v83, v84, v85, v86, v87, v88, v89, v90, v91, v92, v93, rfl, hb4, k10r, own, kz0, kz1, kz2, k0, k1, k2, k3, k4, k5, k6, (fun _ => rfl), k8, k9, k10, k11, k12, k13, k14, k15, k16, k17, k18, k19, k20, k21, k22, k23, k24, k25, k26, k27, k28, k29⟩
                    · refine wpOp_step (by simp only [List.getElem?_toArray, List.getElem?_cons_succ, List.getElem?_cons_zero]; rfl) (fun K hK => ?_)
                      go_simp
                      exact hK _ _ ⟨v10, v65, v66, v67, v68, v69, v70, v71, v72, _, v74, v75, v76, v77, v78, v79, v80, v81, v82, v83, v84, v85, v86, v87, v88, v89, v90, v91, v92, v93, rfl, hb4, k10r, own, kz0, kz1, kz2, k0, k1, k2, k3, k4, k5, k6, k7, (fun _ => rfl), k9, k10, k11, k12, k13, k14, k15, k16, k17, k18, k19, k20, k21, k22, k23, k24, k25, k26, k27, k28, k29⟩
                    · have e7 := k7 (hdep 7 (by kernel_rfl))
                      subst e7
                      have e8 := k8 (hdep 8 (by kernel_rfl))
                      subst e8
                      refine wpOp_step (by simp only [List.getElem?_toArray, List.getElem?_cons_succ, List.getElem?_cons_zero]; rfl) (fun K hK => ?_)
                      go_simp
                      exact hK _ _ ⟨v10, v65, v66, v67, v68, v69, v70, v71, _, _, _, v75, v76, v77, v78, v79, v80, v81, v82, v83, v84, v85, v86, v87, v88, v89, v90, v91, v92, v93, rfl, hb4, k10r, own, kz0, kz1, kz2, k0, k1, k2, k3, k4, k5, k6, (fun _ => rfl), (fun _ => rfl), (fun _ => rfl), k10, k11, k12, k13, k14, k15, k16, k17, k18, k19, k20, k21, k22, k23, k24, k25, k26, k27, k28, k29⟩
                    · have e9 := k9 (hdep 9 (by kernel_rfl))
                      subst e9
                      have cH' := keep_cell hb4 cH
                      refine wpOp_step (by simp only [List.getElem?_toArray, List.getElem?_cons_succ, List.getElem?_cons_zero]; rfl) (fun K hK => ?_)
                      go_simp
                      exact hK _ _ ⟨v10, v65, v66, v67, v68, v69, v70, v71, v72, v73, _, _, v76, v77, v78, v79, v80, v81, v82, v83, v84, v85, v86, v87, v88, v89, v90, v91, v92, v93, rfl, hb4, k10r, own, kz0, kz1, kz2, k0, k1, k2, k3, k4, k5, k6, k7, k8, (fun _ => rfl), (fun _ => rfl), k11, k12, k13, k14, k15, k16, k17, k18, k19, k20, k21, k22, k23, k24, k25, k26, k27, k28, k29⟩
                    · have e10 := k10 (hdep 10 (by kernel_rfl))
                      subst e10
                      refine wpOp_step (by simp only [List.getElem?_toArray, List.getElem?_cons_succ, List.getElem?_cons_zero]; rfl) (fun K hK => ?_)
                      go_simp
                      exact hK _ _ ⟨v10, v65, v66, v67, v68, v69, v70, v71, v72, v73, v74, _, _, v77, v78, v79, v80, v81, v82, v83, v84, v85, v86, v87, v88, v89, v90, v91, v92, v93, rfl, hb4, k10r, own, kz0, kz1, kz2, k0, k1, k2, k3, k4, k5, k6, k7, k8, k9, (fun _ => rfl), (fun _ => rfl), k12, k13, k14, k15, k16, k17, k18, k19, k20, k21, k22, k23, k24, k25, k26, k27, k28, k29⟩
                    · have e11 := k11 (hdep 11 (by kernel_rfl))
                      subst e11
                      refine wpOp_step (by simp only [List.getElem?_toArray, List.getElem?_cons_succ, List.getElem?_cons_zero]; rfl) (fun K hK => ?_)
                      go_simp
                      exact hK _ _ ⟨v10, v65, v66, v67, v68, v69, v70, v71, v72, v73, v74, v75, _, _, v78, v79, v80, v81, v82, v83, v84, v85, v86, v87, v88, v89, v90, v91, v92, v93, rfl, hb4, k10r, own, kz0, kz1, kz2, k0, k1, k2, k3, k4, k5, k6, k7, k8, k9, k10, (fun _ => rfl), (fun _ => rfl), k13, k14, k15, k16, k17, k18, k19, k20, k21, k22, k23, k24, k25, k26, k27, k28, k29⟩
                    · have e12 := k12 (hdep 12 (by kernel_rfl))
                      subst e12
                      refine wpOp_step (by simp only [List.getElem?_toArray, List.getElem?_cons_succ, List.getElem?_cons_zero]; rfl) (fun K hK => ?_)
                      go_simp
                      exact hK _ _ ⟨v10, v65, v66, v67, v68, v69, v70, v71, v72, v73, v74, v75, v76, _, _, v79, v80, v81, v82, v83, v84, v85, v86, v87, v88, v89, v90, v91, v92, v93, rfl, hb4, k10r, own, kz0, kz1, kz2, k0, k1, k2, k3, k4, k5, k6, k7, k8, k9, k10, k11, (fun _ => rfl), (fun _ => congrArg (Value.int .u8) (by have h := HB1.out; first | omega | (simp [IntKind.wrap, IntKind.bits, IntKind.signed]; omega) | (trace_state; sorry))), k14, k15, k16, k17, k18, k19, k20, k21, k22, k23, k24, k25, k26, k27, k28, k29⟩
                    · refine wpOp_step (by simp only [List.getElem?_toArray, List.getElem?_cons_succ, List.getElem?_cons_zero]; rfl) (fun K hK => ?_)
                      go_simp
                      exact hK _ _ ⟨v10, v65, v66, v67, v68, v69, v70, v71, v72, v73, v74, v75, v76, v77, v78, _, v80, v81, v82, v83, v84, v85, v86, v87, v88, v89, v90, v91, v92, v93, rfl, hb4, k10r, own, kz0, kz1, kz2, k0, k1, k2, k3, k4, k5, k6, k7, k8, k9, k10, k11, k12, k13, (fun _ => rfl), k15, k16, k17, k18, k19, k20, k21, k22, k23, k24, k25, k26, k27, k28, k29⟩
                    · refine wpOp_step (by simp only [List.getElem?_toArray, List.getElem?_cons_succ, List.getElem?_cons_zero]; rfl) (fun K hK => ?_)
                      go_simp
                      exact hK _ _ ⟨v10, v65, v66, v67, v68, v69, v70, v71, v72, v73, v74, v75, v76, v77, v78, v79, _, v81, v82, v83, v84, v85, v86, v87, v88, v89, v90, v91, v92, v93, rfl, hb4, k10r, own, kz0, kz1, kz2, k0, k1, k2, k3, k4, k5, k6, k7, k8, k9, k10, k11, k12, k13, k14, (fun _ => rfl), k16, k17, k18, k19, k20, k21, k22, k23, k24, k25, k26, k27, k28, k29⟩
                    · have e14 := k14 (hdep 14 (by kernel_rfl))
                      subst e14
                      have e15 := k15 (hdep 15 (by kernel_rfl))
                      subst e15
                      refine wpOp_step (by simp only [List.getElem?_toArray, List.getElem?_cons_succ, List.getElem?_cons_zero]; rfl) (fun K hK => ?_)
                      go_simp
                      exact hK _ _ ⟨v10, v65, v66, v67, v68, v69, v70, v71, v72, v73, v74, v75, v76, v77, v78, _, _, _, v82, v83, v84, v85, v86, v87, v88, v89, v90, v91, v92, v93, rfl, hb4, k10r, own, kz0, kz1, kz2, k0, k1, k2, k3, k4, k5, k6, k7, k8, k9, k10, k11, k12, k13, (fun _ => rfl), (fun _ => rfl), (fun _ => rfl), k17, k18, k19, k20, k21, k22, k23, k24, k25, k26, k27, k28, k29⟩
                    · have e16 := k16 (hdep 16 (by kernel_rfl))
                      subst e16
                      have cH' := keep_cell hb4 cH
                      refine wpOp_step (by simp only [List.getElem?_toArray, List.getElem?_cons_succ, List.getElem?_cons_zero]; rfl) (fun K hK => ?_)
                      go_simp
                      exact hK _ _ ⟨v10, v65, v66, v67, v68, v69, v70, v71, v72, v73, v74, v75, v76, v77, v78, v79, v80, _, _, v83, v84, v85, v86, v87, v88, v89, v90, v91, v92, v93, rfl, hb4, k10r, own, kz0, kz1, kz2, k0, k1, k2, k3, k4, k5, k6, k7, k8, k9, k10, k11, k12, k13, k14, k15, (fun _ => rfl), (fun _ => rfl), k18, k19, k20, k21, k22, k23, k24, k25, k26, k27, k28, k29⟩
                    · have e17 := k17 (hdep 17 (by kernel_rfl))
                      subst e17
                      refine wpOp_step (by simp only [List.getElem?_toArray, List.getElem?_cons_succ, List.getElem?_cons_zero]; rfl) (fun K hK => ?_)
                      go_simp
                      exact hK _ _ ⟨v10, v65, v66, v67, v68, v69, v70, v71, v72, v73, v74, v75, v76, v77, v78, v79, v80, v81, _, _, v84, v85, v86, v87, v88, v89, v90, v91, v92, v93, rfl, hb4, k10r, own, kz0, kz1, kz2, k0, k1, k2, k3, k4, k5, k6, k7, k8, k9, k10, k11, k12, k13, k14, k15, k16, (fun _ => rfl), (fun _ => rfl), k19, k20, k21, k22, k23, k24, k25, k26, k27, k28, k29⟩
                    · have e18 := k18 (hdep 18 (by kernel_rfl))
                      subst e18
                      refine wpOp_step (by simp only [List.getElem?_toArray, List.getElem?_cons_succ, List.getElem?_cons_zero]; rfl) (fun K hK => ?_)
                      go_simp
                      exact hK _ _ ⟨v10, v65, v66, v67, v68, v69, v70, v71, v72, v73, v74, v75, v76, v77, v78, v79, v80, v81, v82, _, _, v85, v86, v87, v88, v89, v90, v91, v92, v93, rfl, hb4, k10r, own, kz0, kz1, kz2, k0, k1, k2, k3, k4, k5, k6, k7, k8, k9, k10, k11, k12, k13, k14, k15, k16, k17, (fun _ => rfl), (fun _ => rfl), k20, k21, k22, k23, k24, k25, k26, k27, k28, k29⟩
                    · have e19 := k19 (hdep 19 (by kernel_rfl))
                      subst e19
                      refine wpOp_step (by simp only [List.getElem?_toArray, List.getElem?_cons_succ, List.getElem?_cons_zero]; rfl) (fun K hK => ?_)
                      go_simp
                      exact hK _ _ ⟨v10, v65, v66, v67, v68, v69, v70, v71, v72, v73, v74, v75, v76, v77, v78, v79, v80, v81, v82, v83, _, _, v86, v87, v88, v89, v90, v91, v92, v93, rfl, hb4, k10r, own, kz0, kz1, kz2, k0, k1, k2, k3, k4, k5, k6, k7, k8, k9, k10, k11, k12, k13, k14, k15, k16, k17, k18, (fun _ => rfl), (fun _ => congrArg (Value.int .u8) (by have h := HB2.out; first | omega | (simp [IntKind.wrap, IntKind.bits, IntKind.signed]; omega) | (trace_state; sorry))), k21, k22, k23, k24, k25, k26, k27, k28, k29⟩
                    · refine wpOp_step (by simp only [List.getElem?_toArray, List.getElem?_cons_succ, List.getElem?_cons_zero]; rfl) (fun K hK => ?_)
                      go_simp
                      exact hK _ _ ⟨v10, v65, v66, v67, v68, v69, v70, v71, v72, v73, v74, v75, v76, v77, v78, v79, v80, v81, v82, v83, v84, v85, _, v87, v88, v89, v90, v91, v92, v93, rfl, hb4, k10r, own, kz0, kz1, kz2, k0, k1, k2, k3, k4, k5, k6, k7, k8, k9, k10, k11, k12, k13, k14, k15, k16, k17, k18, k19, k20, (fun _ => rfl), k22, k23, k24, k25, k26, k27, k28, k29⟩
                    · refine wpOp_step (by simp only [List.getElem?_toArray, List.getElem?_cons_succ, List.getElem?_cons_zero]; rfl) (fun K hK => ?_)
                      go_simp
                      exact hK _ _ ⟨v10, v65, v66, v67, v68, v69, v70, v71, v72, v73, v74, v75, v76, v77, v78, v79, v80, v81, v82, v83, v84, v85, v86, _, v88, v89, v90, v91, v92, v93, rfl, hb4, k10r, own, kz0, kz1, kz2, k0, k1, k2, k3, k4, k5, k6, k7, k8, k9, k10, k11, k12, k13, k14, k15, k16, k17, k18, k19, k20, k21, (fun _ => rfl), k23, k24, k25, k26, k27, k28, k29⟩
                    · have e21 := k21 (hdep 21 (by kernel_rfl))
                      subst e21
                      have e22 := k22 (hdep 22 (by kernel_rfl))
                      subst e22
                      refine wpOp_step (by simp only [List.getElem?_toArray, List.getElem?_cons_succ, List.getElem?_cons_zero]; rfl) (fun K hK => ?_)
                      go_simp
                      exact hK _ _ ⟨v10, v65, v66, v67, v68, v69, v70, v71, v72, v73, v74, v75, v76, v77, v78, v79, v80, v81, v82, v83, v84, v85, _, _, _, v89, v90, v91, v92, v93, rfl, hb4, k10r, own, kz0, kz1, kz2, k0, k1, k2, k3, k4, k5, k6, k7, k8, k9, k10, k11, k12, k13, k14, k15, k16, k17, k18, k19, k20, (fun _ => rfl), (fun _ => rfl), (fun _ => rfl), k24, k25, k26, k27, k28, k29⟩
                    · have e23 := k23 (hdep 23 (by kernel_rfl))
                      subst e23
                      have cH' := keep_cell hb4 cH
                      refine wpOp_step (by simp only [List.getElem?_toArray, List.getElem?_cons_succ, List.getElem?_cons_zero]; rfl) (fun K hK => ?_)
                      go_simp
                      exact hK _ _ ⟨v10, v65, v66, v67, v68, v69, v70, v71, v72, v73, v74, v75, v76, v77, v78, v79, v80, v81, v82, v83, v84, v85, v86, v87, _, _, v90, v91, v92, v93, rfl, hb4, k10r, own, kz0, kz1, kz2, k0, k1, k2, k3, k4, k5, k6, k7, k8, k9, k10, k11, k12, k13, k14, k15, k16, k17, k18, k19, k20, k21, k22, (fun _ => rfl), (fun _ => rfl), k25, k26, k27, k28, k29⟩
                    · have e24 := k24 (hdep 24 (by kernel_rfl))
                      subst e24
                      refine wpOp_step (by simp only [List.getElem?_toArray, List.getElem?_cons_succ, List.getElem?_cons_zero]; rfl) (fun K hK => ?_)
                      go_simp
                      exact hK _ _ ⟨v10, v65, v66, v67, v68, v69, v70, v71, v72, v73, v74, v75, v76, v77, v78, v79, v80, v81, v82, v83, v84, v85, v86, v87, v88, _, _, v91, v92, v93, rfl, hb4, k10r, own, kz0, kz1, kz2, k0, k1, k2, k3, k4, k5, k6, k7, k8, k9, k10, k11, k12, k13, k14, k15, k16, k17, k18, k19, k20, k21, k22, k23, (fun _ => rfl), (fun _ => rfl), k26, k27, k28, k29⟩
                    · have e25 := k25 (hdep 25 (by kernel_rfl))
                      subst e25
                      refine wpOp_step (by simp only [List.getElem?_toArray, List.getElem?_cons_succ, List.getElem?_cons_zero]; rfl) (fun K hK => ?_)
                      go_simp
                      exact hK _ _ ⟨v10, v65, v66, v67, v68, v69, v70, v71, v72, v73, v74, v75, v76, v77, v78, v79, v80, v81, v82, v83, v84, v85, v86, v87, v88, v89, _, _, v92, v93, rfl, hb4, k10r, own, kz0, kz1, kz2, k0, k1, k2, k3, k4, k5, k6, k7, k8, k9, k10, k11, k12, k13, k14, k15, k16, k17, k18, k19, k20, k21, k22, k23, k24, (fun _ => rfl), (fun _ => congrArg (Value.int .u8) (by have h := HB3.out; first | omega | (simp [IntKind.wrap, IntKind.bits, IntKind.signed]; omega) | (trace_state; sorry))), k27, k28, k29⟩
                    · have e6 := k6 (hdep 6 (by kernel_rfl))
                      subst e6
                      have e13 := k13 (hdep 13 (by kernel_rfl))
                      subst e13
                      have e20 := k20 (hdep 20 (by kernel_rfl))
                      subst e20
                      have e26 := k26 (hdep 26 (by kernel_rfl))
                      subst e26
                      refine wpOp_step (by simp only [List.getElem?_toArray, List.getElem?_cons_succ, List.getElem?_cons_zero]; rfl) (fun K hK => ?_)
                      go_simp
                      exact hK _ _ ⟨v10, v65, v66, v67, v68, v69, v70, _, v72, v73, v74, v75, v76, v77, _, v79, v80, v81, v82, v83, v84, _, v86, v87, v88, v89, v90, _, _, v93, rfl, (hb4.alloc hb4.size _), k10r, (fun h => (own h).alloc _), kz0, (fun _ => rfl), kz2, k0, k1, k2, k3, k4, k5, (fun _ => rfl), k7, k8, k9, k10, k11, k12, (fun _ => rfl), k14, k15, k16, k17, k18, k19, (fun _ => rfl), k21, k22, k23, k24, k25, (fun _ => rfl), (fun _ _ => ⟨_, rfl, new4 _ _ _ _ _ _⟩), (fun h => absurd (kz1 h) (by rw [hD]; simp)), (fun h => absurd (kz1 (kz2 h)) (by rw [hD]; simp))⟩
                    · have e0 := k0 (hdep 0 (by kernel_rfl))
                      subst e0
                      obtain ⟨gb, rfl, hsrc⟩ := k27 (hdep 27 (by kernel_rfl)) hD
                      refine wpOp_step (by simp only [List.getElem?_toArray, List.getElem?_cons_succ, List.getElem?_cons_zero]; rfl) (fun K hK => ?_)
                      refine step_app' (P := Try.prog) rfl (.tmp 65) (.tmp 92) 22 rfl W3.heap.size 5 _ 1 1 Try.underlying22 infoByteV rfl (by omega) (.slice A5 (4 * kk) cap5) (4 * kk) _ rfl (own hD) (some ⟨gb, 0, none⟩) 4 4 _ rfl hsrc (by simp [Value.oneCell']) (fun h => by cases h) (by unfold maxLen; omega) (by omega) hb4.size ?_
                      intro A6 c6 w5 hown6 hg6 hb6 _
                      exact hK _ _ ⟨v10, _, v66, v67, v68, v69, v70, v71, v72, v73, v74, v75, v76, v77, v78, v79, v80, v81, v82, v83, v84, v85, v86, v87, v88, v89, v90, v91, _, _, rfl, (hb4.trans hb6), k10r, (fun h => by cases h), kz0, (fun _ => hdep 27 (by kernel_rfl)), (fun _ => rfl), (fun _ => rfl), k1, k2, k3, k4, k5, k6, k7, k8, k9, k10, k11, k12, k13, k14, k15, k16, k17, k18, k19, k20, k21, k22, k23, k24, k25, k26, (fun _ h => by cases h), (fun _ => ⟨_, _, rfl, hown6⟩), (fun h => absurd (kz2 h) (by rw [hD]; simp))⟩
                    · obtain ⟨A6, c6, rfl, hown6⟩ := k28 (hdep 28 (by kernel_rfl))
                      refine wpOp_step (by simp only [List.getElem?_toArray, List.getElem?_cons_succ, List.getElem?_cons_zero]; rfl) (fun K hK => ?_)
                      go_simp
                      exact hK _ _ ⟨_, v65, v66, v67, v68, v69, v70, v71, v72, v73, v74, v75, v76, v77, v78, v79, v80, v81, v82, v83, v84, v85, v86, v87, v88, v89, v90, v91, v92, _, rfl, hb4, (fun h => by cases h), own, (fun _ => hdep 0 (by kernel_rfl)), kz1, (fun _ => hdep 28 (by kernel_rfl)), k0, k1, k2, k3, k4, k5, k6, k7, k8, k9, k10, k11, k12, k13, k14, k15, k16, k17, k18, k19, k20, k21, k22, k23, k24, k25, k26, k27, (fun _ => ⟨_, _, rfl, hown6⟩), (fun _ => ⟨_, _, rfl, hown6⟩)⟩
                  · intro D a' w' hD hI
                    obtain ⟨v10, v65, v66, v67, v68, v69, v70, v71, v72, v73, v74, v75, v76, v77, v78, v79, v80, v81, v82, v83, v84, v85, v86, v87, v88, v89, v90, v91, v92, v93, rfl, hb4, k10r, own, kz0, kz1, kz2, k0, k1, k2, k3, k4, k5, k6, k7, k8, k9, k10, k11, k12, k13, k14, k15, k16, k17, k18, k19, k20, k21, k22, k23, k24, k25, k26, k27, k28, k29⟩ := hI
                    have hgk := HG.out
                    obtain ⟨A6, c6, rfl, hown6⟩ := k29 (hD 29 (show 29 < 30 by decide))
                    have hnews := bytes4 x lx
                    rw [← HB0.out, ← HB1.out, ← HB2.out, ← HB3.out] at hnews
                    rw [hnews, ← List.map_append, HNX.out] at hown6
                    clear k0 k1 k2 k3 k4 k5 k6 k7 k8 k9 k10 k11 k12 k13 k14 k15 k16 k17 k18 k19 k20 k21 k22 k23 k24 k25 k26 k27 k28 k29 hD hnews e255
                    go_wp2
                    go_roundg (7 - kk)
                    case measure => omega
                    case rel => exact ⟨kk + 1, c6, A6, by omega, by omega, by go_num, rfl, RowIn.of_own hown6, hb4⟩
                · have hk0 : kk = 8 := by omega
                  subst hk0
                  obtain ⟨gq, rfl, hcv⟩ := conv_own hown (by omega)
                  go_wp2
                  go_returns
                  exact ⟨by rw [HSH.out]; rfl, bthen hb hb4⟩
end Go.Proofs.Ytbijkdpifnncmaa
/- Contract of the reference's Short, apart from the program's. -/
namespace Go.Proofs.Ytbijkdpifnncmaa
open Go.RowKit
theorem short_specS (s : ByteArray) (w : World) (hs : s.size ≤ 1099511627776) :
    Calls Try.prog 78 #[.string s] w fun e w' => e = .returned (.string (shortS s)) ∧ Below w.heap.size w w' := by
  have h32 := shaS_size s
  go_enter Try.func78, Try.ntmps78
  go_wp2_with fail
  refine (sha_spec s w hs).mono ?_
  rintro e w1 ⟨rfl, hb⟩
  go_wp2
  go_returns
  exact ⟨rfl, hb⟩
end Go.Proofs.Ytbijkdpifnncmaa
/- Contracts of the laws' helpers on lists of strings: size, copy, comparison. -/
namespace Go.Proofs.Ytbijkdpifnncmaa
open Go.RowKit

theorem infoString : (Try.prog.info? 9).map (fun i => (i.zero, i.size, i.bytes)) = some (some (.string ByteArray.empty), 1, 16) := by kernel_rfl

end Go.Proofs.Ytbijkdpifnncmaa
/- Contracts of the laws' helpers on lists of strings of the call's own: copy, marks. -/
namespace Go.Proofs.Ytbijkdpifnncmaa
open Go.RowKit

/-- the digits of a mark -/
def mtd (k : Nat) : List UInt8 := if h : k = 0 then [] else mtd (k / 10) ++ [48 + UInt8.ofNat (k % 10)]
termination_by k
decreasing_by omega
theorem mtd_zero : mtd 0 = [] := by rw [mtd]; simp
theorem mtd_pos {k : Nat} (h : 0 < k) : mtd k = mtd (k / 10) ++ [48 + UInt8.ofNat (k % 10)] := by
  conv => lhs; rw [mtd]
  rw [dif_neg (by omega)]
theorem mtd_len (k : Nat) : (mtd k).length ≤ k := by
  induction k using Nat.strongRecOn with
  | _ k ih =>
    rcases Nat.eq_zero_or_pos k with rfl | h
    · rw [mtd_zero]; simp
    · rw [mtd_pos h]
      have := ih (k / 10) (by omega)
      simp; omega
/-- a mark -/
def mtx (k : Int) : ByteArray := ⟨(109 :: mtd k.toNat).toArray⟩

/-- marks from k0 on -/
def mkT (k0 : Int) (j : Nat) : ByteArray := mtx (k0 + j)
def marks (k0 : Int) (n : Nat) : List ByteArray := (List.range n).map (mkT k0)
theorem marks_len (k0 : Int) (n : Nat) : (marks k0 n).length = n := by simp [marks]
theorem sAt_marks {k0 : Int} {n j : Nat} (h : j < n) : sAt (marks k0 n) j = mkT k0 j := by simp [sAt, marks, h]
theorem marks_str (k0 : Int) (n : Nat) : (marks k0 n).map Value.string = (List.range n).map (fun j => Value.string (mkT k0 j)) := by simp [marks]

/-! ### the law's helpers in one shape -/
/-- texts that came in: their bounds -/
structure StrsOk (w : World) (A : Option Addr) (n : Nat) (l : List ByteArray) : Prop where
  at_ : StrsAt w A n l
  bn : n ≤ 9223372036854775807
  bs : ∀ i, i < n → (sAt l i).size ≤ 9223372036854775807
theorem StrsOk.keep {w w' : World} {A : Option Addr} {n : Nat} {l : List ByteArray} (h : StrsOk w A n l) (hb : Below w.heap.size w w') : StrsOk w' A n l := ⟨h.at_.keep hb, h.bn, h.bs⟩
/-- texts of the call's own -/
structure StrsIn (lo hi : Nat) (w : World) (A : Option Addr) (n c : Nat) (l : List ByteArray) : Prop where
  row : RowIn 9 1 lo hi w A n c (l.map Value.string)
section
variable {lo hi lo' hi' n c : Nat} {w w' : World} {A : Option Addr} {l : List ByteArray}
theorem StrsIn.keep (h : StrsIn lo hi w A n c l) (hb : Below w.heap.size w w') : StrsIn lo hi w' A n c l := ⟨h.row.keep hb⟩
theorem StrsIn.ch {S : Nat → Prop} (h : StrsIn lo hi w A n c l) (hc : Ch S w w') (hS : ∀ k, Iv lo hi k → ¬ S k) : StrsIn lo hi w' A n c l := ⟨h.row.ch hc hS⟩
theorem StrsIn.wide (h : StrsIn lo hi w A n c l) (h1 : lo' ≤ lo) (h2 : hi ≤ hi') : StrsIn lo' hi' w A n c l := ⟨h.row.wide h1 h2⟩
theorem StrsIn.at_ (h : StrsIn lo hi w A n c l) : StrsAt w A n l := StrsAt.of_row h.row
theorem StrsIn.of_own (h : w.ownsRow lo 9 1 (.slice A n c) n (l.map Value.string)) : StrsIn lo w.heap.size w A n c l := ⟨RowIn.of_own h⟩
theorem StrsIn.nil : StrsIn lo hi w none 0 0 [] := ⟨RowIn.nil⟩
end
/-- the answer is texts in memory of the call's own -/
def StrsR (l : List ByteArray) (w : World) (e : Ending) (w' : World) : Prop :=
  ∃ A n c, e = .returned (.slice A n c) ∧ StrsIn w.heap.size w'.heap.size w' A n c l ∧ Below w.heap.size w w'
theorem strs_n {w : World} {A : Option Addr} {n : Nat} {l : List ByteArray} {m : Nat} (h : StrsAt w A n l) (hs : strsSz l ≤ m) : n ≤ m := by
  have := h.1; unfold strsSz at hs; omega
def strsMk (k : Int) (l : List ByteArray) : List ByteArray := marks k l.length
def strsCnt (l : List ByteArray) : Nat := l.length
theorem strs_cnt (l : List ByteArray) : strsCnt l ≤ strsSz l := by unfold strsCnt strsSz; omega
theorem strsSz_cons (x : ByteArray) (l : List ByteArray) : strsSz (x :: l) = 1 + x.size + strsSz l := by simp [strsSz]; omega
theorem strsSz_filter (p : ByteArray → Bool) (l : List ByteArray) : strsSz (l.filter p) ≤ strsSz l := by
  induction l with
  | nil => simp
  | cons x l ih =>
    rw [List.filter_cons]
    split
    · rw [strsSz_cons, strsSz_cons]; omega
    · rw [strsSz_cons]; omega
end Go.Proofs.Ytbijkdpifnncmaa
/- Rows whose elements lead to further rows, all of the call's own. -/
namespace Go.Proofs.Ytbijkdpifnncmaa
open Go.RowKit

/-- the blocks that cells lead to -/
def Leads (cs : List Value) (b : Nat) : Prop := ∃ v ∈ cs, v.ownBlock = some b
def Apart (cs cs' : List Value) : Prop := ∀ b, Leads cs b → ¬ Leads cs' b
theorem Apart.symm {cs cs' : List Value} (h : Apart cs cs') : Apart cs' cs := fun b h1 h2 => h b h2 h1
theorem blk_own {A : Option Addr} {n c b : Nat} (h : BlkOf A b) : (Value.slice A n c).ownBlock = some b := by
  rcases A with _ | a
  · exact h.no.elim
  · simpa [Value.ownBlock, BlkOf] using h

/-- how an element lies in cells of its own and in what they lead to -/
structure Elem {α : Type} (F : Nat → Nat → World → List Value → α → Prop) (sz : Nat) : Prop where
  len : ∀ {lo hi w cs x}, F lo hi w cs x → cs.length = sz
  leads : ∀ {lo hi w cs x b}, F lo hi w cs x → Leads cs b → Iv lo hi b ∧ b < w.heap.size
  ch : ∀ {lo hi w w' cs x} {S : Nat → Prop}, F lo hi w cs x → Ch S w w' → (∀ b, Leads cs b → ¬ S b) → F lo hi w' cs x
  wide : ∀ {lo hi lo' hi' w cs x}, F lo hi w cs x → lo' ≤ lo → hi ≤ hi' → F lo' hi' w cs x

structure SubsIn {α : Type} (F : Nat → Nat → World → List Value → α → Prop) (lo hi : Nat) (w : World) (css : List (List Value)) (l : List α) : Prop where
  len : css.length = l.length
  el : ∀ (i : Nat) (cs : List Value) (x : α), css[i]? = some cs → l[i]? = some x → F lo hi w cs x
  apart : css.Pairwise Apart
section
variable {α : Type} {F : Nat → Nat → World → List Value → α → Prop} {sz lo hi lo' hi' : Nat} {w w' : World} {css : List (List Value)} {l : List α}
theorem SubsIn.nil : SubsIn F lo hi w [] ([] : List α) := ⟨rfl, fun i cs x h => by simp at h, List.Pairwise.nil⟩
theorem SubsIn.ex (h : SubsIn F lo hi w css l) {i : Nat} {cs : List Value} (hc : css[i]? = some cs) : ∃ x, l[i]? = some x ∧ F lo hi w cs x := by
  have hi : i < css.length := (List.getElem?_eq_some_iff.1 hc).1
  have hl : i < l.length := by rw [← h.len]; exact hi
  exact ⟨l[i], List.getElem?_eq_getElem hl, h.el i cs _ hc (List.getElem?_eq_getElem hl)⟩
theorem SubsIn.mem (h : SubsIn F lo hi w css l) {cs : List Value} (hc : cs ∈ css) : ∃ x, F lo hi w cs x := by
  obtain ⟨i, hi⟩ := List.mem_iff_getElem?.1 hc
  obtain ⟨x, _, hx⟩ := h.ex hi
  exact ⟨x, hx⟩
theorem SubsIn.leads (E : Elem F sz) (h : SubsIn F lo hi w css l) {cs : List Value} (hc : cs ∈ css) {b : Nat} (hb : Leads cs b) : Iv lo hi b ∧ b < w.heap.size := by
  obtain ⟨x, hx⟩ := h.mem hc
  exact E.leads hx hb
theorem SubsIn.lens (E : Elem F sz) (h : SubsIn F lo hi w css l) : ∀ cs ∈ css, cs.length = sz := fun cs hc => by
  obtain ⟨x, hx⟩ := h.mem hc
  exact E.len hx
theorem SubsIn.ch (E : Elem F sz) {S : Nat → Prop} (h : SubsIn F lo hi w css l) (hc : Ch S w w') (hS : ∀ cs ∈ css, ∀ b, Leads cs b → ¬ S b) : SubsIn F lo hi w' css l :=
  ⟨h.len, fun i cs x h1 h2 => E.ch (h.el i cs x h1 h2) hc (hS cs (List.mem_of_getElem? h1)), h.apart⟩
theorem SubsIn.chi (E : Elem F sz) {S : Nat → Prop} (h : SubsIn F lo hi w css l) (hc : Ch S w w') (hS : ∀ k, Iv lo hi k → ¬ S k) : SubsIn F lo hi w' css l :=
  h.ch E hc (fun _ hm b hb => hS b (h.leads E hm hb).1)
theorem SubsIn.keep (E : Elem F sz) (h : SubsIn F lo hi w css l) (hb : Below w.heap.size w w') : SubsIn F lo hi w' css l :=
  h.chi E (S := fun _ => False) (Ch.of_below hb) (fun _ _ h => h)
theorem SubsIn.wide (E : Elem F sz) (h : SubsIn F lo hi w css l) (h1 : lo' ≤ lo) (h2 : hi ≤ hi') : SubsIn F lo' hi' w css l :=
  ⟨h.len, fun i cs x a b => E.wide (h.el i cs x a b) h1 h2, h.apart⟩
theorem SubsIn.snoc (E : Elem F sz) {cs : List Value} {x : α} (h : SubsIn F lo hi w css l) (hx : F lo hi w cs x) (hn : ∀ cs' ∈ css, Apart cs' cs) : SubsIn F lo hi w (css ++ [cs]) (l ++ [x]) := by
  refine ⟨by simp [h.len], fun i cs' x' h1 h2 => ?_, ?_⟩
  · have hl := h.len
    rcases Nat.lt_or_ge i css.length with hi | hi
    · rw [List.getElem?_append_left hi] at h1
      rw [List.getElem?_append_left (by omega)] at h2
      exact h.el i cs' x' h1 h2
    · rw [List.getElem?_append_right hi] at h1
      rw [List.getElem?_append_right (by omega)] at h2
      have h0 : i - css.length = 0 := by
        rcases Nat.eq_zero_or_pos (i - css.length) with h | h
        · exact h
        · rw [List.getElem?_eq_none (by simp; omega)] at h1; cases h1
      rw [h0] at h1
      rw [show i - l.length = 0 by omega] at h2
      simp at h1 h2
      subst h1 h2
      exact hx
  · rw [List.pairwise_append]
    exact ⟨h.apart, List.pairwise_singleton _ _, fun a ha b hb => by simp at hb; subst hb; exact hn a ha⟩
/-- new cells lead to new blocks -/
theorem SubsIn.snoc_new (E : Elem F sz) {cs : List Value} {x : α} {m : Nat} (h : SubsIn F lo hi w css l) (hx : F lo hi w cs x) (hm : ∀ cs' ∈ css, ∀ b, Leads cs' b → b < m) (hn : ∀ b, Leads cs b → m ≤ b) : SubsIn F lo hi w (css ++ [cs]) (l ++ [x]) :=
  h.snoc E hx (fun cs' h' b h1 h2 => by have := hm cs' h' b h1; have := hn b h2; omega)
/-- one element is changed -/
theorem SubsIn.set (E : Elem F sz) {S : Nat → Prop} {i : Nat} {cs cs' : List Value} {x : α} (h : SubsIn F lo hi w css l) (hci0 : css[i]? = some cs) (hc : Ch S w w') (hS : ∀ b, S b → Leads cs b ∨ ∀ cs'' ∈ css, ¬ Leads cs'' b)
    (hx : F lo hi w' cs' x) (hl : ∀ b, Leads cs' b → Leads cs b) : SubsIn F lo hi w' (css.set i cs') (l.set i x) := by
  have hlt : i < css.length := (List.getElem?_eq_some_iff.1 hci0).1
  have hci : css[i] = cs := (List.getElem?_eq_some_iff.1 hci0).2
  refine ⟨by simp [h.len], fun j d y h1 h2 => ?_, ?_⟩
  · rw [List.getElem?_set] at h1 h2
    by_cases e : i = j
    · subst e
      rw [if_pos rfl, if_pos hlt] at h1
      rw [if_pos rfl, if_pos (by rw [← h.len]; exact hlt)] at h2
      injection h1 with h1; injection h2 with h2
      subst h1 h2
      exact hx
    · rw [if_neg e] at h1 h2
      refine E.ch (h.el j d y h1 h2) hc (fun b hb hs => ?_)
      rcases hS b hs with h' | h'
      · have hj : j < css.length := (List.getElem?_eq_some_iff.1 h1).1
        have hd : css[j] = d := (List.getElem?_eq_some_iff.1 h1).2
        have hp := List.pairwise_iff_getElem.1 h.apart
        rcases Nat.lt_or_gt_of_ne e with h3 | h3
        · have := hp i j hlt hj h3; rw [hci, hd] at this; exact this b h' hb
        · have := hp j i hj hlt h3; rw [hci, hd] at this; exact this b hb h'
      · exact h' d (List.mem_of_getElem? h1) hb
  · refine List.pairwise_iff_getElem.2 fun a b ha hb hab => ?_
    have hp := List.pairwise_iff_getElem.1 h.apart
    simp at ha hb
    have hab' := hp a b ha hb hab
    rw [List.getElem_set, List.getElem_set]
    by_cases e1 : i = a
    · subst e1
      rw [if_pos rfl, if_neg (by omega)]
      intro z h1 h2
      rw [hci] at hab'
      exact hab' z (hl z h1) h2
    · rw [if_neg e1]
      by_cases e2 : i = b
      · subst e2
        rw [if_pos rfl]
        intro z h1 h2
        rw [hci] at hab'
        exact hab' z h1 (hl z h2)
      · rw [if_neg e2]; exact hab'
end

/-! ### the flat list of cells -/
theorem flat_len {css : List (List Value)} {sz : Nat} (h : ∀ cs ∈ css, cs.length = sz) : css.flatten.length = css.length * sz := by
  induction css with
  | nil => simp
  | cons a l ih =>
    rw [List.flatten_cons, List.length_append, ih (fun cs hc => h cs (List.mem_cons_of_mem _ hc)), h a (List.mem_cons_self ..), List.length_cons, Nat.add_mul, Nat.one_mul, Nat.add_comm]
theorem flat_get {css : List (List Value)} {sz : Nat} (h : ∀ cs ∈ css, cs.length = sz) : ∀ {i : Nat} {cs : List Value}, css[i]? = some cs → ∀ {j : Nat}, j < sz → css.flatten[i * sz + j]? = cs[j]? := by
  induction css with
  | nil => intro i cs hc; simp at hc
  | cons a l ih =>
    intro i cs hc j hj
    have ha := h a (List.mem_cons_self ..)
    rw [List.flatten_cons]
    rcases i with _ | i
    · simp at hc
      subst hc
      rw [Nat.zero_mul, Nat.zero_add, List.getElem?_append_left (by omega)]
    · have hc' : l[i]? = some cs := by simpa using hc
      rw [List.getElem?_append_right (by rw [ha, Nat.add_mul]; omega), show (i + 1) * sz + j - a.length = i * sz + j by rw [ha, Nat.add_mul]; omega]
      exact ih (fun cs hc => h cs (List.mem_cons_of_mem _ hc)) hc' hj
theorem flat_snoc (css : List (List Value)) (cs : List Value) : (css ++ [cs]).flatten = css.flatten ++ cs := by simp

/-- cells set within element q -/
theorem flat_set {css : List (List Value)} {sz q r : Nat} {cs : List Value} {v : Value} (h : ∀ cs ∈ css, cs.length = sz) (hq : css[q]? = some cs) (hr : r < sz) : (css.set q (cs.set r v)).flatten = css.flatten.set (q * sz + r) v := by
  have hql : q < css.length := (List.getElem?_eq_some_iff.1 hq).1
  have hcl : cs.length = sz := h cs (List.mem_of_getElem? hq)
  have h' : ∀ d ∈ css.set q (cs.set r v), d.length = sz := fun d hd => by
    rcases List.mem_or_eq_of_mem_set hd with hd | rfl
    · exact h d hd
    · simpa using hcl
  have l1 := flat_len h
  have l2 := flat_len h'
  rw [List.length_set] at l2
  apply List.ext_getElem?
  intro j
  rcases Nat.lt_or_ge j (css.length * sz) with hj | hj
  · have hi : j / sz < css.length := Nat.div_lt_of_lt_mul (by rwa [Nat.mul_comm])
    have hm : j % sz < sz := Nat.mod_lt _ (by omega)
    have hjd : j = j / sz * sz + j % sz := (Nat.div_add_mod' j sz).symm
    generalize j / sz = i at *
    generalize j % sz = m at *
    subst hjd
    rw [List.getElem?_set, l1]
    by_cases e : q = i
    · subst e
      rw [flat_get h' (i := q) (cs := cs.set r v) (by simp [hql]) hm, List.getElem?_set, hcl]
      by_cases e2 : r = m
      · subst e2; simp [hm, hj]
      · rw [if_neg e2, if_neg (by omega)]; exact (flat_get h hq hm).symm
    · have hne : q * sz + r ≠ i * sz + m := by
        intro h2
        have a1 : (q * sz + r) / sz = q := by rw [Nat.add_comm, Nat.add_mul_div_right _ _ (by omega), Nat.div_eq_of_lt hr]; omega
        have a2 : (i * sz + m) / sz = i := by rw [Nat.add_comm, Nat.add_mul_div_right _ _ (by omega), Nat.div_eq_of_lt hm]; omega
        rw [h2, a2] at a1
        exact e a1.symm
      rw [if_neg hne]
      have hci : css[i]? = some css[i] := List.getElem?_eq_getElem hi
      rw [flat_get h hci hm, flat_get h' (i := i) (cs := css[i]) (by rw [List.getElem?_set, if_neg e]; exact hci) hm]
  · rw [List.getElem?_eq_none (by omega), List.getElem?_eq_none (by rw [List.length_set, l1]; exact hj)]
/-- a row of elements of sz cells each, in blocks of [lo, hi), and what they lead to there too -/
structure RowsIn {α : Type} (F : Nat → Nat → World → List Value → α → Prop) (e sz lo hi : Nat) (w : World) (A : Option Addr) (n c : Nat) (l : List α) (css : List (List Value)) : Prop where
  row : RowIn e sz lo hi w A n c css.flatten
  subs : SubsIn F lo hi w css l
  off : ∀ cs ∈ css, ∀ b, Leads cs b → ¬ BlkOf A b
  nl : n = l.length
section
variable {α : Type} {F : Nat → Nat → World → List Value → α → Prop} {e sz lo hi lo' hi' n c : Nat} {w w' : World} {A : Option Addr} {css : List (List Value)} {l : List α}
theorem RowsIn.ch (E : Elem F sz) {S : Nat → Prop} (h : RowsIn F e sz lo hi w A n c l css) (hc : Ch S w w') (hS : ∀ k, Iv lo hi k → ¬ S k) : RowsIn F e sz lo hi w' A n c l css :=
  ⟨h.row.ch hc hS, h.subs.chi E hc hS, h.off, h.nl⟩
theorem RowsIn.keep (E : Elem F sz) (h : RowsIn F e sz lo hi w A n c l css) (hb : Below w.heap.size w w') : RowsIn F e sz lo hi w' A n c l css :=
  h.ch E (S := fun _ => False) (Ch.of_below hb) (fun _ _ h => h)
theorem RowsIn.wide (E : Elem F sz) (h : RowsIn F e sz lo hi w A n c l css) (h1 : lo' ≤ lo) (h2 : hi ≤ hi') : RowsIn F e sz lo' hi' w A n c l css :=
  ⟨h.row.wide h1 h2, h.subs.wide E h1 h2, h.off, h.nl⟩
theorem RowsIn.nil : RowsIn F e sz lo hi w none 0 0 ([] : List α) [] := ⟨RowIn.nil, SubsIn.nil, fun _ h => by simp at h, rfl⟩
/-- element i: its cells in memory -/
theorem RowsIn.elem (E : Elem F sz) (h : RowsIn F e sz lo hi w A n c l css) {i : Nat} (hi' : i < n) : ∃ g cs x, A = some ⟨g, 0, none⟩ ∧ css[i]? = some cs ∧ l[i]? = some x ∧ F lo hi w cs x ∧ ∀ j u, cs[j]? = some u → w.cell? ⟨g, i * sz + j, none⟩ = some u := by
  obtain ⟨g, rfl⟩ := h.row.head (by omega)
  have hl := h.subs.len
  have hn := h.nl
  have hci : css[i]? = some css[i] := List.getElem?_eq_getElem (by omega)
  have hxi : l[i]? = some l[i] := List.getElem?_eq_getElem (by omega)
  have hF := h.subs.el i _ _ hci hxi
  refine ⟨g, _, _, rfl, hci, hxi, hF, fun j u hu => ?_⟩
  have hj : j < sz := by rw [← E.len hF]; exact (List.getElem?_eq_some_iff.1 hu).1
  have hc := h.row.own.cells (g := g) rfl (i * sz + j) u (by rw [flat_get (h.subs.lens E) hci hj]; exact hu)
  rw [Addr.add_lit] at hc
  simpa using hc
end
end Go.Proofs.Ytbijkdpifnncmaa
/- The laws' helpers on lists of entries in one shape. -/
namespace Go.Proofs.Ytbijkdpifnncmaa
open Go.RowKit
attribute [local irreducible] StrsAt

/-- an entry: its path, its chunks -/
structure Ent where
  p : ByteArray
  ch : List ByteArray
def entNil : Ent := ⟨ByteArray.empty, []⟩
def enAt (l : List Ent) (i : Nat) : Ent := l.getD i entNil
theorem enAt_get {l : List Ent} {k : Nat} (h : k < l.length) : enAt l k = l[k] := by simp [enAt, h]
/-- a row of entries -/
def EntsAt (w : World) (A : Option Addr) (n : Nat) (l : List Ent) : Prop := n = l.length ∧ (0 < n → ∃ b off, A = some ⟨b, off, none⟩ ∧ b < w.heap.size ∧ ∀ i, i < n → w.cell? ⟨b, off + i * 2, none⟩ = some (.string (enAt l i).p) ∧
  ∃ A' n' c', w.cell? ⟨b, off + i * 2 + 1, none⟩ = some (.slice A' n' c') ∧ StrsAt w A' n' (enAt l i).ch ∧ (A' = none → c' = 0))
section
variable {w w' : World} {A : Option Addr} {n : Nat} {l : List Ent}
theorem EntsAt.keep (h : EntsAt w A n l) (hb : Below w.heap.size w w') : EntsAt w' A n l := by
  refine ⟨h.1, fun hn => ?_⟩
  obtain ⟨b, off, rfl, hlt, hc⟩ := h.2 hn
  refine ⟨b, off, rfl, Nat.lt_of_lt_of_le hlt hb.size, fun i hi => ?_⟩
  obtain ⟨h0, A', n', c', h1, h2, h3⟩ := hc i hi
  exact ⟨(hb.cell hlt).trans h0, A', n', c', (hb.cell hlt).trans h1, h2.keep hb, h3⟩
theorem EntsAt.at_ (h : EntsAt w A n l) (hn : 0 < n) : ∃ b off, A = some ⟨b, off, none⟩ ∧ b < w.heap.size ∧ ∀ i, i < n → w.cell? ⟨b, off + i * 2, none⟩ = some (.string (enAt l i).p) ∧
  ∃ A' n' c', w.cell? ⟨b, off + i * 2 + 1, none⟩ = some (.slice A' n' c') ∧ StrsAt w A' n' (enAt l i).ch ∧ (A' = none → c' = 0) := h.2 hn
end
/-- an entry's cells that came in -/
def CEnt (w : World) (cs : List Value) (x : Ent) : Prop := ∃ A n c, cs = [.string x.p, .slice A n c] ∧ StrsAt w A n x.ch ∧ (A = none → c = 0) ∧ n ≤ 9223372036854775807 ∧ x.p.size ≤ 9223372036854775807 ∧ ∀ i, i < n → (sAt x.ch i).size ≤ 9223372036854775807
theorem EntsAt.of_row {w : World} {A : Option Addr} {n : Nat} {l : List Ent} (h : RowAt CEnt 2 w A n l) : EntsAt w A n l := by
  have hl := h.1
  refine ⟨hl, fun hn => ?_⟩
  obtain ⟨b, off, rfl, hlt, hc⟩ := h.2 hn
  refine ⟨b, off, rfl, hlt, fun i hi => ?_⟩
  obtain ⟨cs, ⟨A', n', c', rfl, h2, h3, _⟩, _, hcell⟩ := hc i (enAt l i) (by rw [enAt_get (by omega)]; exact List.getElem?_eq_getElem (by omega))
  exact ⟨by simpa using hcell 0 _ rfl, A', n', c', by simpa using hcell 1 _ rfl, h2, h3⟩
structure EntsOk (w : World) (A : Option Addr) (n : Nat) (l : List Ent) : Prop where
  at_ : EntsAt w A n l
  bn : n ≤ 9223372036854775807
  bs : ∀ i, i < n → (enAt l i).p.size ≤ 9223372036854775807 ∧ (enAt l i).ch.length ≤ 9223372036854775807 ∧ ∀ j, j < (enAt l i).ch.length → (sAt (enAt l i).ch j).size ≤ 9223372036854775807
theorem EntsOk.keep {w w' : World} {A : Option Addr} {n : Nat} {l : List Ent} (h : EntsOk w A n l) (hb : Below w.heap.size w w') : EntsOk w' A n l := ⟨h.at_.keep hb, h.bn, h.bs⟩
section
attribute [local semireducible] StrsAt
theorem StrsAt.nn {w : World} {A : Option Addr} {n : Nat} {l : List ByteArray} (h : StrsAt w A n l) : n = l.length := h.1
end
theorem EntsOk.of_row {w : World} {A : Option Addr} {n : Nat} {l : List Ent} (h : RowAt CEnt 2 w A n l) (hn : n ≤ 9223372036854775807) : EntsOk w A n l := by
  refine ⟨EntsAt.of_row h, hn, fun i hi => ?_⟩
  obtain ⟨b, off, rfl, hlt, hc⟩ := h.2 (by omega)
  have hl := h.1
  obtain ⟨cs, ⟨A', n', c', rfl, h2, h3, h4, h5, h6⟩, _⟩ := hc i (enAt l i) (by rw [enAt_get (by omega)]; exact List.getElem?_eq_getElem (by omega))
  have := h2.nn
  exact ⟨h5, by omega, fun j hj => h6 j (by omega)⟩

/-- an entry of the call's own -/
def FEnt (lo hi : Nat) (w : World) (cs : List Value) (x : Ent) : Prop := ∃ A n c, cs = [.string x.p, .slice A n c] ∧ StrsIn lo hi w A n c x.ch
theorem leads2 {s : ByteArray} {v : Value} {b : Nat} (h : Leads [.string s, v] b) : v.ownBlock = some b := by
  obtain ⟨u, hu, hb⟩ := h
  simp at hu
  rcases hu with rfl | rfl
  · simp [Value.ownBlock] at hb
  · exact hb
theorem leads2_mk {s : ByteArray} {v : Value} {b : Nat} (h : v.ownBlock = some b) : Leads [.string s, v] b := ⟨v, by simp, h⟩
theorem elemEnt : Elem FEnt 2 where
  len := fun ⟨A, n, c, h, _⟩ => by subst h; rfl
  leads := fun ⟨A, n, c, h, hi⟩ hb => by subst h; exact hi.row.blk (blk_of (leads2 hb))
  ch := fun ⟨A, n, c, h, hi⟩ hc hS => by
    subst h
    exact ⟨A, n, c, rfl, ⟨⟨own_ch hi.row.own hc (fun k hk => hS k (leads2_mk hk)), hi.row.lt⟩⟩⟩
  wide := fun ⟨A, n, c, h, hi⟩ h1 h2 => ⟨A, n, c, h, hi.wide h1 h2⟩
structure EntsIn (lo hi : Nat) (w : World) (A : Option Addr) (n c : Nat) (l : List Ent) : Prop where
  ex : ∃ css, RowsIn FEnt 33 2 lo hi w A n c l css
theorem own_cap0 {w : World} {base e sz n c : Nat} {A : Option Addr} {xs : List Value} (h : w.ownsRow base e sz (.slice A n c) n xs) : A = none → c = 0 := fun hA => by
  rcases own_form h with ⟨_, _, h0, _⟩ | ⟨g, hg, _⟩
  · exact h0
  · rw [hA] at hg; cases hg
section
variable {lo hi lo' hi' n c : Nat} {w w' : World} {A : Option Addr} {l : List Ent}
theorem EntsIn.keep (h : EntsIn lo hi w A n c l) (hb : Below w.heap.size w w') : EntsIn lo hi w' A n c l := ⟨by obtain ⟨css, h⟩ := h.ex; exact ⟨css, h.keep elemEnt hb⟩⟩
theorem EntsIn.ch {S : Nat → Prop} (h : EntsIn lo hi w A n c l) (hc : Ch S w w') (hS : ∀ k, Iv lo hi k → ¬ S k) : EntsIn lo hi w' A n c l := ⟨by obtain ⟨css, h⟩ := h.ex; exact ⟨css, h.ch elemEnt hc hS⟩⟩
theorem EntsIn.wide (h : EntsIn lo hi w A n c l) (h1 : lo' ≤ lo) (h2 : hi ≤ hi') : EntsIn lo' hi' w A n c l := ⟨by obtain ⟨css, h⟩ := h.ex; exact ⟨css, h.wide elemEnt h1 h2⟩⟩
theorem EntsIn.len (h : EntsIn lo hi w A n c l) : n = l.length := by obtain ⟨css, h⟩ := h.ex; exact h.nl
theorem EntsIn.at_ (h : EntsIn lo hi w A n c l) : EntsAt w A n l := by
  obtain ⟨css, h⟩ := h.ex
  refine ⟨h.nl, fun h0 => ?_⟩
  obtain ⟨g, cs, x, hA, _⟩ := h.elem elemEnt h0
  subst hA
  have hg := (h.row.blk (g := g) (by simp [BlkOf])).2
  refine ⟨g, 0, rfl, hg, fun i hi => ?_⟩
  obtain ⟨g', cs, x, hA, hci, hxi, ⟨A', n', c', rfl, hin⟩, hcell⟩ := h.elem elemEnt hi
  injection hA with hA; injection hA with hA _ _; subst hA
  have hx : enAt l i = x := by simp [enAt, hxi]
  rw [hx]
  exact ⟨by simpa using hcell 0 _ rfl, A', n', c', by simpa using hcell 1 _ rfl, hin.at_, own_cap0 hin.row.own⟩
theorem EntsIn.nil : EntsIn lo hi w none 0 0 [] := ⟨⟨[], RowsIn.nil⟩⟩
end
/-- the answer is entries in memory of the call's own -/
def EntsR (l : List Ent) (w : World) (e : Ending) (w' : World) : Prop :=
  ∃ A n c, e = .returned (.slice A n c) ∧ EntsIn w.heap.size w'.heap.size w' A n c l ∧ Below w.heap.size w w'
def entSz (x : Ent) : Nat := x.p.size + strsSz x.ch
def entsSz (l : List Ent) : Nat := l.length + (l.map entSz).sum
theorem ents_n {w : World} {A : Option Addr} {n : Nat} {l : List Ent} {m : Nat} (h : EntsAt w A n l) (hs : entsSz l ≤ m) : n ≤ m := by
  have := h.1; unfold entsSz at hs; omega
theorem ents_el {l : List Ent} {m : Nat} (hs : entsSz l ≤ m) (i : Nat) : entSz (enAt l i) ≤ m := by
  rcases Nat.lt_or_ge i l.length with h | h
  · rw [enAt_get h]
    have h1 := sumTo_succ entSz l i h
    have h2 := sumTo_le entSz l (i + 1)
    unfold entsSz at hs; omega
  · simp [enAt, h, entSz, entNil, strsSz]

theorem set2c {W : World} {g : Nat} {u v a b : Value} (k0 : W.cell? ⟨g, 0, none⟩ = some a) (k1 : W.cell? ⟨g, 1, none⟩ = some b) :
    ∃ WF, WF = (W.setCell ⟨g, 0, none⟩ u).setCell ⟨g, 1, none⟩ v ∧ WF.cell? ⟨g, 0, none⟩ = some u ∧ WF.cell? ⟨g, 1, none⟩ = some v :=
  ⟨_, rfl, setoff (sethere k0) (.inr (by omega)), sethere (setoff k1 (.inr (by omega)))⟩

theorem infoEntry : (Try.prog.info? 33).map (fun i => (i.zero, i.size, i.bytes)) = some (some (.agg #[.string ByteArray.empty, .slice none 0 0]), 2, 40) := by kernel_rfl

/-- two cells behind a row's first k elements -/
theorem fill2 {xs : List Value} {css : List (List Value)} {k n : Nat} {a b : Value} (hx : ∀ j, j < k * 2 → xs[j]? = css.flatten[j]?) (hl : xs.length = n * 2) (hk : k < n) (hf : css.flatten.length = k * 2) :
    ∀ j, j < (k + 1) * 2 → ((xs.set (k * 2) a).set (k * 2 + 1) b)[j]? = (css ++ [[a, b]]).flatten[j]? := by
  intro j hj
  rw [flat_snoc]
  simp only [List.getElem?_set, List.length_set]
  by_cases e : j < k * 2
  · rw [if_neg (by omega), if_neg (by omega), List.getElem?_append_left (by omega)]
    exact hx j e
  · rw [List.getElem?_append_right (by omega), hf]
    rcases (show j = k * 2 ∨ j = k * 2 + 1 by omega) with e | e
    · subst e; rw [if_neg (by omega), if_pos rfl, if_pos (by omega)]; simp
    · subst e; rw [if_pos rfl, if_pos (by omega)]; simp
theorem take_snoc2 {α : Type} (l : List α) (k : Nat) (h : k < l.length) : l.take (k + 1) = l.take k ++ [l[k]] := List.take_succ_eq_append_getElem h
theorem own_size {w : World} {base e sz n c g : Nat} {xs : List Value} (h : w.ownsRow base e sz (.slice (some ⟨g, 0, none⟩) n c) n xs) : g < w.heap.size :=
  (own_form h).elim (fun h => by obtain ⟨h, _⟩ := h; cases h) (fun ⟨g', hg, _, hlt⟩ => by injection hg with hg; injection hg with hg _ _; omega)

section
open Go.ChangeShapes Go.WideShapes Go.ChangeAt Go.Deep
variable {H : Type} {enc : TypeId × Value → H} {w : World} {base : Nat} {spare : Nat → Bool} {held : Bool}
theorem cellsStringL : Try.prog.cellsOf 9 = 1 := by kernel_rfl
theorem cellsStrsL : Try.prog.cellsOf 31 = 1 := by kernel_rfl
theorem two_of {cs : List Value} (h : cs.length = 2) : ∃ a b, cs = [a, b] := by
  match cs, h with
  | [a, b], _ => exact ⟨a, b, rfl⟩
set_option maxRecDepth 8000 in
theorem trod_strs {fu : Nat} {cs : List Value} {y : DataW H × List MemPlace} (h : DataW.trod enc Try.prog w base spare held fu 31 cs = some y) :
    ∃ A n c l, cs = [.slice A n c] ∧ StrsAt w A n l ∧ (A = none → c = 0) ∧ n ≤ 9223372036854775807 ∧ ∀ i, i < n → (sAt l i).size ≤ 9223372036854775807 := by
  obtain ⟨A, n, c, l, hcs, hr, hn, _, hc⟩ := open_rows_cs (C := fun _ cs (x : ByteArray) => cs = [.string x] ∧ x.size ≤ 9223372036854775807) Try.underlying31 cellsStringL (by omega) (fun fu cs y h => by obtain ⟨m, hm, hw⟩ := trod_str1 Try.underlying9 h; exact ⟨m, hm, hw⟩) h
  have hl := hr.1
  refine ⟨A, n, c, l, hcs, ?_, hc, hn, fun i hi => ?_⟩
  · unfold StrsAt
    refine ⟨hl, fun h0 => ?_⟩
    obtain ⟨b, off, rfl, hlt, hcell⟩ := hr.2 h0
    refine ⟨b, off, rfl, hlt, fun i hi => ?_⟩
    obtain ⟨cs', ⟨hx, _⟩, _, hc'⟩ := hcell i (sAt l i) (by rw [sAt_get (by omega)]; exact List.getElem?_eq_getElem (by omega))
    subst hx
    simpa using hc' 0 _ rfl
  · obtain ⟨b, off, rfl, hlt, hcell⟩ := hr.2 (by omega)
    obtain ⟨cs', ⟨_, hw⟩, _⟩ := hcell i (sAt l i) (by rw [sAt_get (by omega)]; exact List.getElem?_eq_getElem (by omega))
    exact hw
end
end Go.Proofs.Ytbijkdpifnncmaa
/- Contracts of copyTexts and copyEntries. -/
namespace Go.Proofs.Ytbijkdpifnncmaa
open Go.RowKit

/-- an append as an operation of a region that draws its order -/
theorem step_app {P : Program} {ops : Array Oper} {o : Oper} {a : Act} {w : World} {K : Act → World → Prop} {Q : Exit → Act → World → Prop} {E : Prop} (hgd : o.guard = none) (s x : Operand) (t : TypeId)
    (ho : o.op = .call { callee := .builtin .append, args := #[s, x], argTypes := #[t, t] })
    (base : Nat) (e : TypeId) (z : Value) (size bytes : Nat) (ht : P.underlying t = some (.slice e)) (hinfo : (P.info? e).map (fun i => (i.zero, i.size, i.bytes)) = some (some z, size, bytes))
    (hzs : z.cells.size = size) (hsz : 0 < size) (v : Value) (n : Nat) (xs : List Value) (hs : a.eval s = v) (hown : w.ownsRow base e size v n xs)
    (A : Option Addr) (m c : Nat) (news : List Value) (hx : a.eval x = .slice A m c) (hsrc : CellsAt w A m size news) (h1 : ∀ u ∈ news, u.oneCell' = true) (hn : A = none → c = 0)
    (h63 : n + m ≤ maxLen) (hbytes : (n + m) * bytes ≤ 140737488355328) (hbase : base ≤ w.heap.size)
    (h : ∀ A' c' w', w'.ownsRow base e size (.slice A' (n + m) c') (n + m) (xs ++ news) → w.grownBy w' v.ownBlock → Below base w w' →
      ((Value.slice A' (n + m) c').ownBlock = v.ownBlock ∨ (Value.slice A' (n + m) c').ownBlock = some w.heap.size) → K (a.put o.dst (.slice A' (n + m) c')) w') :
    if Region.wanted o (yielded ops a.tmps) = true then Oper.wp P o a w K Q else E := by
  have hw : Region.wanted o (yielded ops a.tmps) = true := by simp [Region.wanted, hgd]
  rw [if_pos hw]
  obtain ⟨A', c', w', hr, h2, h3, h4⟩ := run_app (P := P) w base t o.type e z size bytes ht hinfo hzs hsz v n xs hown A m c news hsrc h1 hn h63 hbytes hbase
  unfold Oper.wp execOp
  simp only [ho, resolve, invoke, builtin, Sem.run_bind, Sem.run_pure, Result.andThen_ok, List.map_toArray, List.map_cons, List.map_nil, hs, hx, hr]
  exact h A' c' w' h2 h3 (below_own hown h3 hbase) h4

theorem strs_one (l : List ByteArray) : ∀ u ∈ l.map Value.string, u.oneCell' = true := by
  intro u hu; obtain ⟨x, _, rfl⟩ := List.mem_map.1 hu; rfl
theorem own_null (w : World) (base e sz : Nat) : w.ownsRow base e sz (.slice none 0 0) 0 [] := World.ownsRow_nil w base e sz

theorem copyTexts_impl (A : Option Addr) (n c : Nat) (l : List ByteArray) (w : World) (h : StrsAt w A n l) (hc : A = none → c = 0) (hn : n ≤ 16777216) :
    Calls Try.prog 47 #[.slice A n c] w fun e w' => ∃ A' c', e = .returned (.slice A' n c') ∧ StrsIn w.heap.size w'.heap.size w' A' n c' l ∧ Below w.heap.size w w' := by
  have hcl := h.cells
  have hown := own_null w w.heap.size 9 1
  have hz := Nat.le_refl w.heap.size
  go_enter Try.func47, Try.ntmps47
  go_wp2_with (at_builtin; refine wpList_app (P := Try.prog) w rfl (.const (.slice none 0 0)) (.tmp 3) 31 rfl w.heap.size 9 _ 1 16 Try.underlying31 infoString rfl (by omega) (.slice none 0 0) 0 [] rfl hown A n c (l.map Value.string) rfl hcl (strs_one _) hc (by unfold maxLen; omega) (by omega) hz ?_; intro A' c' w1 hown1 hg1 hb1 _)
  go_returns
  simp only [Nat.zero_add, List.nil_append] at hown1 ⊢
  exact ⟨A', c', rfl, ⟨RowIn.of_own hown1⟩, hb1⟩

theorem Ch.of_grow {w w' : World} {o : Option Nat} (h : w.grownBy w' o) : Ch (fun k => o = some k) w w' := ⟨h.os, h.tape, h.output, h.size, fun k hk hn => h.block k hk (fun e => hn e.symm)⟩
theorem blk_own' {A : Option Addr} {n c b : Nat} (h : BlkOf A b) : (Value.slice A n c).ownBlock = some b := blk_own h
/-- one element more behind an append -/
theorem RowsIn.app {α : Type} {F : Nat → Nat → World → List Value → α → Prop} {e sz lo n c m c' : Nat} {w w' : World} {A A' : Option Addr} {css : List (List Value)} {l : List α} {cs : List Value} {x : α}
    (E : Elem F sz) (h : RowsIn F e sz lo w.heap.size w A n c l css) (hx : F lo w.heap.size w cs x) (hap : ∀ cs' ∈ css, Apart cs' cs) (hoff : ∀ b, Leads cs b → ¬ BlkOf A b)
    (hown : w'.ownsRow lo e sz (.slice A' (n + 1) c') (n + 1) (css.flatten ++ cs)) (hg : w.grownBy w' (Value.slice A n c).ownBlock)
    (hob : (Value.slice A' (n + 1) c').ownBlock = (Value.slice A n c).ownBlock ∨ (Value.slice A' (n + 1) c').ownBlock = some m) (hm : w.heap.size ≤ m) :
    RowsIn F e sz lo w'.heap.size w' A' (n + 1) c' (l ++ [x]) (css ++ [cs]) := by
  have hC := Ch.of_grow hg
  have hs := h.subs.snoc E hx hap
  have hall : ∀ cs' ∈ css ++ [cs], ∀ b, Leads cs' b → ¬ BlkOf A b ∧ b < w.heap.size := fun cs' h' b hb => by
    rcases List.mem_append.1 h' with h' | h'
    · exact ⟨h.off cs' h' b hb, (h.subs.leads E h' hb).2⟩
    · have : cs' = cs := by simpa using h'
      subst this
      exact ⟨hoff b hb, (E.leads hx hb).2⟩
  refine ⟨RowIn.of_own (by rw [flat_snoc]; exact hown), (hs.ch E hC (fun cs' h' b hb e => (hall cs' h' b hb).1 (blk_of e))).wide E (Nat.le_refl _) hg.size, fun cs' h' b hb hA => ?_, by simp [h.nl]⟩
  have h1 := hall cs' h' b hb
  rcases hob with e1 | e1
  · exact h1.1 (blk_of (e1.symm.trans (blk_own' hA)))
  · have := Option.some.inj ((blk_own' (n := n + 1) (c := c') hA).symm.trans e1)
    omega

theorem new2 (w : World) (e : TypeId) (a b : Value) : CellsAt (w.alloc (.cells #[a, b] e)) (some ⟨w.heap.size, 0, none⟩) 1 2 [a, b] := by
  refine ⟨rfl, fun _ => ⟨w.heap.size, 0, rfl, fun j u hu => ?_⟩⟩
  rw [Nat.zero_add, World.cell?_alloc_new]
  simpa using hu
theorem grown_cells {w W w' : World} {g : Nat} {u v : Value} {o : Option Nat} (hS : W.cell? ⟨g, 0, none⟩ = some u ∧ W.cell? ⟨g, 1, none⟩ = some v ∧ Below w.heap.size w W) (hg : W.grownBy w' o) (ho : ∀ b, o = some b → b < g) (hb : Below w.heap.size W w') :
    w'.cell? ⟨g, 0, none⟩ = some u ∧ w'.cell? ⟨g, 1, none⟩ = some v ∧ Below w.heap.size w w' :=
  have hC := Ch.of_grow hg
  ⟨hC.cell hS.1 (fun e => by have := ho g e; omega), hC.cell hS.2.1 (fun e => by have := ho g e; omega), hS.2.2.trans hb⟩

attribute [local irreducible] StrsAt
set_option maxRecDepth 4000 in
set_option maxHeartbeats 1000000 in
theorem copyEntries_impl (A : Option Addr) (n c : Nat) (l : List Ent) (w : World) (h : EntsAt w A n l) (hs : entsSz l ≤ 1048576) :
    Calls Try.prog 44 #[.slice A n c] w (EntsR l w) := by
  have HL := Lib.hid h.1.symm
  have hn := ents_n h hs
  have hel := ents_el hs
  go_enter Try.func44, Try.ntmps44
  go_wp2
  go_loopw [3, 8] (fun o i wr => ∃ (k : Nat) (O : Option Addr) (cap : Nat) (css : List (List Value)), k ≤ n ∧ i = .int .i64 k ∧ o = .slice O k cap ∧ RowsIn FEnt 33 2 w.heap.size wr.heap.size wr O k cap (l.take k) css ∧ Below w.heap.size w wr) (fun _ i _ => n - (intOf i).toNat)
  case atStart => exact ⟨0, none, 0, [], Nat.zero_le _, rfl, rfl, RowsIn.nil, Below.refl _ _⟩
  case round =>
    obtain ⟨k, O, cap, css, hk, rfl, rfl, hrow, hb⟩ := hrel
    by_cases hlt : k < n
    · obtain ⟨b, off, rfl, hbl, hc⟩ := h.at_ (by omega)
      obtain ⟨hp0, A', n', c', hc0, hat, hcap⟩ := hc k hlt
      have hpk := (hb.cell (p := ⟨b, off + k * 2, none⟩) hbl).trans hp0
      have hck := (hb.cell (p := ⟨b, off + k * 2 + 1, none⟩) hbl).trans hc0
      clear hc hc0 hp0
      have hek := hel k
      unfold entSz at hek
      have HN := Lib.hid hat.nn
      have hn4 : n' ≤ 1048576 := by have := HN.out; unfold strsSz at hek; omega
      obtain ⟨W, hW⟩ : ∃ W, W = wr.alloc (.cells #[.string (enAt l k).p, .slice A' n' c'] 33) := ⟨_, rfl⟩
      have al : Below wr.heap.size wr W := by rw [hW]; exact (Below.refl _ _).alloc (Nat.le_refl _) _
      have e0 : W.cell? ⟨wr.heap.size, 0, none⟩ = some (.string (enAt l k).p) := by rw [hW]; simp [go_sem]
      have e1 : W.cell? ⟨wr.heap.size, 1, none⟩ = some (.slice A' n' c') := by rw [hW]; simp [go_sem]
      have hrowW := (hrow.keep elemEnt al).wide elemEnt (Nat.le_refl _) al.size
      have hatW := hat.keep (bthen hb al)
      have hbW := bthen hb al
      go_wp2
      rw [← hW]
      clear hW
      have hlo : ∀ b, BlkOf O b → b < wr.heap.size := fun b hb' => (hrow.row.blk hb').2
      have hWs : wr.heap.size < W.heap.size := Nat.lt_of_not_le (fun h2 => by have := World.block_lt_of_cell? W ⟨wr.heap.size, 0, none⟩ e0; simp at this; omega)
      go_region_held3 (fun w' => w'.cell? ⟨wr.heap.size, 0, none⟩ = some (.string (enAt l k).p) ∧ w'.cell? ⟨wr.heap.size, 1, none⟩ = some (.slice A' n' c') ∧ Below w.heap.size w w') (first | exact hnew | (have hh := ‹_ ∧ _›; exact ⟨keep_cell hbw hh.1, keep_cell hbw hh.2.1, bthen hh.2.2 hbw⟩) | (have hh := ‹_ ∧ _›; exact ⟨keep_alloc hh.1 _, keep_alloc hh.2.1 _, hh.2.2.alloc hh.2.2.size _⟩) | exact ⟨e0, e1, hbW.drew⟩ | (have hh := ‹_ ∧ _›; exact hh)) (first | (go_at_call 47; refine (copyTexts_impl _ _ _ (enAt l k).ch _ (hat.keep (by have hh := ‹_ ∧ _›; exact hh.2.2)) hcap (by omega)).mono ?_; rintro e w2 ⟨B, d, rfl, ho2, hbw⟩; have hrow2 := (hrowW.keep elemEnt (Below.refl _ _).drew).keep elemEnt hbw; have hz2 := hbw.size) | (have hS0 := ‹_ ∧ _›; refine step_app (by rfl) (.tmp 12) (.tmp 19) 24 (by rfl) w.heap.size 33 _ 2 40 Try.underlying24 infoEntry rfl (by omega) (.slice O k cap) k css.flatten (by rfl) (hrow2.keep elemEnt ((Below.refl _ _).alloc (Nat.le_refl _) _)).row.own (some ⟨w2.heap.size, 0, none⟩) 1 1 [.string (enAt l k).p, .slice B n' d] (by rfl) (new2 w2 _ _ _) (by simp [Value.oneCell']) (fun h => by cases h) (by unfold maxLen; omega) (by omega) hS0.2.2.size ?_; intro Q5 c5 w5 hown5 hg5 hb5 hob5; have hnew := grown_cells hS0 hg5 (fun b e => hlo b (blk_of e)) hb5; clear hS0) | fail)
      go_wp2
      have al3 := (Below.refl w2.heap.size w2).alloc (Nat.le_refl _) (.cells #[.string (enAt l k).p, .slice B n' d] 33)
      have hzW : w.heap.size ≤ W.drew.heap.size := hbW.size
      have hWW : W.drew.heap.size = W.heap.size := rfl
      have hz3 := al3.size
      have hkl : k < l.length := by have := HL.out; omega
      have hr3 := (hrow2.keep elemEnt al3).wide elemEnt (Nat.le_refl _) (show W.heap.size ≤ (w2.alloc (.cells #[.string (enAt l k).p, .slice B n' d] 33)).heap.size by omega)
      have happ := hr3.app elemEnt (cs := [.string (enAt l k).p, .slice B n' d]) (x := enAt l k) ⟨B, n', d, rfl, (ho2.keep al3).wide hzW hz3⟩ (fun cs' h' b h1 h2 => by
        have q1 := (hrow2.subs.leads elemEnt h' h1).1
        have q2 := (ho2.row.blk (blk_of (leads2 h2))).1
        unfold Iv at q1 q2; omega) (fun b h1 h2 => by
        have q1 := hlo b h2
        have q2 := (ho2.row.blk (blk_of (leads2 h1))).1
        have q3 := al.size
        unfold Iv at q2; omega) hown5 hg5 hob5 (Nat.le_refl _)
      rw [show l.take k ++ [enAt l k] = l.take (k + 1) by rw [take_snoc2 l k hkl, enAt_get hkl]] at happ
      exact ⟨⟨k + 1, Q5, c5, _, by omega, by go_num, rfl, happ, hnew.2.2⟩, by simp [intOf]; omega⟩
    · go_wp2
      go_returns
      have hkn : k = n := by omega
      subst hkn
      have ht : l.take k = l := List.take_of_length_le (by have := HL.out; omega)
      rw [ht] at hrow
      exact ⟨O, k, cap, rfl, ⟨css, hrow⟩, hb⟩
end Go.Proofs.Ytbijkdpifnncmaa
