/- Contracts and lemmas: Spoil, TreeTextLaw, Has, ShelfT, SortT, Put, TreeList. -/
import Derived.Test.YtbijkdpifnncmaaJ0
import Derived.Test.YtbijkdpifnncmaaJ1
import Derived.Test.YtbijkdpifnncmaaJ6
import Derived.Test.YtbijkdpifnncmaaRows
import Derived.Shelf.Small.Bits
import Derived.Shelf.Strconv.Itoa0
import Derived.Shelf.Sort.Plain
import Derived.Shelf.Slices.CompactS
import Derived.Shelf.Slices.Cells
import Derived.Shelf.Slices.In.SortNone
import Derived.Test.YtbijkdpifnncmaaProg
import Derived.Test.YtbijkdpifnncmaaJ2
import Derived.Test.YtbijkdpifnncmaaJ4
import Derived.Lib.OwnBridge
import Derived.Lib.RowBridge
/- The draws' l1Below at any number and l1Spoil. -/
namespace Go.Proofs.Ytbijkdpifnncmaa
open Go.RowKit

theorem l1Below_big (g : Nat) (n : Int) (w : World) (h : Cur w g) (hn : 256 < n) (hm : n ≤ 1099511627776) :
    Calls Try.prog 59 #[.pointer (some ⟨g, 0, none⟩), .int .i64 n] w fun e w' => ∃ x : Int, e = .returned (.int .i64 x) ∧ 0 ≤ x ∧ x < n ∧ Cur w' g ∧ Ch (fun k => k = g) w w' := by
  go_enter Try.func59, Try.ntmps59
  go_wp2_with fail
  refine (l1Byte_any g _ h).mono ?_
  rintro e w1 ⟨x, rfl, hx0, hx1, hc1, hch1⟩
  go_wp2_with fail
  refine (l1Byte_any g _ hc1).mono ?_
  rintro e w2 ⟨y, rfl, hy0, hy1, hc2, hch2⟩
  have hch2 := hch1.trans hch2
  clear hch1 hc1
  go_wp2_with fail
  refine (l1Byte_any g _ hc2).mono ?_
  rintro e w3 ⟨z, rfl, hz0, hz1, hc3, hch3⟩
  have hch3 := hch2.trans hch3
  clear hch2 hc2
  go_wp2_with fail
  refine (l1Byte_any g _ hc3).mono ?_
  rintro e w4 ⟨u, rfl, hu0, hu1, hc4, hch4⟩
  have hch4 := hch3.trans hch4
  clear hch3 hc3
  go_wp2
  go_returns
  exact ⟨_, rfl, Int.emod_nonneg _ (by omega), Int.emod_lt_of_pos _ (by omega), hc4, hch4⟩
theorem l1Below_all (g : Nat) (n : Int) (w : World) (h : Cur w g) (hm : n ≤ 1099511627776) :
    Calls Try.prog 59 #[.pointer (some ⟨g, 0, none⟩), .int .i64 n] w fun e w' => ∃ x : Int, e = .returned (.int .i64 x) ∧ 0 ≤ x ∧ (0 < n → x < n) ∧ Cur w' g ∧ Ch (fun k => k = g) w w' := by
  rcases Int.lt_or_le 256 n with hn | hn
  · exact (l1Below_big g n w h hn hm).mono fun e w' ⟨x, h1, h2, h3, h4, h5⟩ => ⟨x, h1, h2, fun _ => h3, h4, h5⟩
  · exact (l1Below_any g n w h hn).mono fun e w' ⟨x, h1, h2, h3, _, h4, h5⟩ => ⟨x, h1, h2, h3, h4, h5⟩
theorem xor255 (a b : Nat) (ha : a < 256) (hb : b < 256) : bits .xor .i64 (a : Int) (b : Int) = ((a ^^^ b : Nat) : Int) ∧ a ^^^ b < 256 := by
  have hx : a ^^^ b < 256 := Nat.xor_lt_two_pow (n := 8) ha hb
  refine ⟨?_, hx⟩
  show IntKind.i64.wrap ((BitVec.ofInt 64 (a : Int) ^^^ BitVec.ofInt 64 (b : Int)).toNat : Int) = _
  rw [BitVec.toNat_xor]
  have e : ∀ k : Nat, k < 256 → (BitVec.ofInt 64 (k : Int)).toNat = k := fun k hk => by
    rw [BitVec.toNat_ofInt]; omega
  rw [e a ha, e b hb, IntKind.wrap_i64]; omega
theorem one_size (b : UInt8) : (⟨#[b]⟩ : ByteArray).size = 1 := rfl


theorem conv_byte (w : World) (gb n : Nat) (hn : n < 256) (hc : w.cell? ⟨gb, 0, none⟩ = some (.int .u8 (n : Int))) : (convert 22 9 (.slice (some ⟨gb, 0, none⟩) 1 1)).run Try.prog w = .ok (.string ⟨#[UInt8.ofNat n]⟩) w := by
  have h := run_convert_bytes_back (P := Try.prog) w 22 9 5 ⟨gb, 0, none⟩ 1 [UInt8.ofNat n] Try.underlying22 Try.underlying5 Try.underlying9 (by
    intro j hj
    have hj0 : j = 0 := by simpa using hj
    subst hj0
    rw [Addr.add_zero', hc]
    simp only [List.getElem_cons_zero]
    rw [byte_ofNat n hn])
  simpa using h

set_option maxRecDepth 8000 in
set_option maxHeartbeats 2000000 in
theorem l1Spoil_any (g : Nat) (s : ByteArray) (w : World) (h : Cur w g) (hs : s.size ≤ 1048576) :
    Calls Try.prog 35 #[.pointer (some ⟨g, 0, none⟩), .string s] w fun e w' => ∃ r : ByteArray, e = .returned (.string r) ∧ r.size ≤ s.size + 3 ∧ Cur w' g ∧ Ch (fun k => k = g) w w' := by
  by_cases h0 : s.size = 0
  · go_enter Try.func35, Try.ntmps35
    go_wp2_with fail
    refine (l1Text_any g _ _ h (by omega) (by omega)).mono ?_
    rintro e w1 ⟨r, rfl, hr, hc1, hch1⟩
    go_wp2
    go_returns
    exact ⟨r, rfl, by omega, hc1, hch1⟩
  · have hpos : 0 < s.size := by omega
    go_enter Try.func35, Try.ntmps35
    go_wp2_with fail
    refine (l1Below_all g _ _ h (by omega)).mono ?_
    rintro e w1 ⟨x, rfl, hx0, hx1, hc1, hch1⟩
    obtain ⟨k, rfl⟩ := Int.eq_ofNat_of_zero_le hx0
    have hk : k < s.size := by have := hx1 (by omega); omega
    clear hx0 hx1
    go_wp2_with fail
    refine (l1Below_any g _ _ hc1 (by omega)).mono ?_
    rintro e w2 ⟨x, rfl, hx0, hx1, _, hc2, hch2⟩
    have hch2 := hch1.trans hch2
    have hx4 := hx1 (by omega)
    clear hx1 hc1 hch1
    have hsA : (s.extract 0 k).size = k := by rw [ByteArray.size_extract]; omega
    have hsB : (s.extract k s.size).size = s.size - k := by rw [ByteArray.size_extract]; omega
    have hsC : (s.extract (k + 1) s.size).size = s.size - (k + 1) := by rw [ByteArray.size_extract]; omega
    have hlt2 := hc2.lt
    rcases (show x = 0 ∨ x = 1 ∨ x = 2 ∨ x = 3 by omega) with rfl | rfl | rfl | rfl
    · go_wp2
      go_quiet (fail)
      go_wp2
      go_returns
      exact ⟨_, rfl, by rw [ByteArray.size_append, hsA, hsC]; omega, hc2.ch (S := fun _ => False) ((Ch.refl _).drewN _) (fun _ h => h.elim), hch2.drewN _⟩
    · go_wp2
      refine wp_region_dagb [29, 30, 31, 32, 33, 34, 35, 36, 37, 38, 39, 40, 41, 4] (by kernel_rfl) (by kernel_rfl) (fun D vs w' => ∃ v29 v30 v31 v32 v33 v34 v35 v36 v37 v38 v39 v40 v41 v4 : Value, vs = [v29, v30, v31, v32, v33, v34, v35, v36, v37, v38, v39, v40, v41, v4] ∧ Cur w' g ∧ Ch (fun k => k = g) w w' ∧ (D 0 = true → v29 = .string s) ∧ (D 1 = true → v30 = .int .i64 (k : Int)) ∧ (D 2 = true → v31 = .string (s.extract 0 k)) ∧ (D 3 = true → v32 = .pointer (some ⟨g, 0, none⟩)) ∧ (D 4 = true → ∃ n : Nat, v33 = .int .i64 (n : Int) ∧ n < 256) ∧ (D 5 = true → ∃ n : Nat, v34 = .int .u8 (n : Int) ∧ n < 256) ∧ (D 6 = true → ∃ (gb : Nat) (n : Nat), v35 = .slice (some ⟨gb, 0, none⟩) 1 1 ∧ n < 256 ∧ w'.cell? ⟨gb, 0, none⟩ = some (.int .u8 (n : Int)) ∧ g < gb ∧ gb < w'.heap.size) ∧ (D 7 = true → ∃ b : UInt8, v36 = .string ⟨#[b]⟩) ∧ (D 8 = true → ∃ r : ByteArray, v37 = .string r ∧ r.size = k + 1) ∧ (D 9 = true → v38 = .string s) ∧ (D 10 = true → v39 = .int .i64 (k : Int)) ∧ (D 11 = true → v40 = .string (s.extract k s.size)) ∧ (D 12 = true → ∃ r : ByteArray, v41 = .string r ∧ r.size = s.size + 1) ∧ (D 13 = true → ∃ r : ByteArray, v4 = .string r ∧ r.size = s.size + 1))
        ⟨_, _, _, _, _, _, _, _, _, _, _, _, _, _, rfl, hc2.keep (Below.refl _ _).drew, hch2.thenB (Below.refl _ _).drew, (fun h => by cases h), (fun h => by cases h), (fun h => by cases h), (fun h => by cases h), (fun h => by cases h), (fun h => by cases h), (fun h => by cases h), (fun h => by cases h), (fun h => by cases h), (fun h => by cases h), (fun h => by cases h), (fun h => by cases h), (fun h => by cases h), (fun h => by cases h)⟩ ?_ ?_
      · intro i D vs w' hi hD hdep hcl hI
        have hi' : i < 14 := hi
        obtain ⟨v29, v30, v31, v32, v33, v34, v35, v36, v37, v38, v39, v40, v41, v4, rfl, hc, hch, k0, k1, k2, k3, k4, k5, k6, k7, k8, k9, k10, k11, k12, k13⟩ := hI
        simp only [putAll, List.setIfInBounds_toArray, List.set_cons_succ, List.set_cons_zero]
        rcases (show i = 0 ∨ i = 1 ∨ i = 2 ∨ i = 3 ∨ i = 4 ∨ i = 5 ∨ i = 6 ∨ i = 7 ∨ i = 8 ∨ i = 9 ∨ i = 10 ∨ i = 11 ∨ i = 12 ∨ i = 13 by omega) with rfl | rfl | rfl | rfl | rfl | rfl | rfl | rfl | rfl | rfl | rfl | rfl | rfl | rfl
        · refine wpOp_step (by simp only [List.getElem?_toArray, List.getElem?_cons_zero]; rfl) (fun K hK => ?_)
          go_simp
          refine hK _ _ ⟨[.string s, v30, v31, v32, v33, v34, v35, v36, v37, v38, v39, v40, v41, v4], ?_, _, _, _, _, _, _, _, _, _, _, _, _, _, _, rfl, hc, hch, (fun _ => rfl), k1, k2, k3, k4, k5, k6, k7, k8, k9, k10, k11, k12, k13⟩
          simp only [putAll, List.setIfInBounds_toArray, List.set_cons_succ, List.set_cons_zero]
        · refine wpOp_step (by simp only [List.getElem?_toArray, List.getElem?_cons_succ, List.getElem?_cons_zero]; rfl) (fun K hK => ?_)
          go_simp
          refine hK _ _ ⟨[v29, .int .i64 (k : Int), v31, v32, v33, v34, v35, v36, v37, v38, v39, v40, v41, v4], ?_, _, _, _, _, _, _, _, _, _, _, _, _, _, _, rfl, hc, hch, k0, (fun _ => rfl), k2, k3, k4, k5, k6, k7, k8, k9, k10, k11, k12, k13⟩
          simp only [putAll, List.setIfInBounds_toArray, List.set_cons_succ, List.set_cons_zero]
        · have e0 := k0 (hdep 0 (by kernel_rfl))
          subst e0
          have e1 := k1 (hdep 1 (by kernel_rfl))
          subst e1
          refine wpOp_step (by simp only [List.getElem?_toArray, List.getElem?_cons_succ, List.getElem?_cons_zero]; rfl) (fun K hK => ?_)
          go_simp
          rw [if_pos (by omega)]
          go_simp
          refine hK _ _ ⟨[.string s, .int .i64 (k : Int), .string (s.extract 0 k), v32, v33, v34, v35, v36, v37, v38, v39, v40, v41, v4], ?_, _, _, _, _, _, _, _, _, _, _, _, _, _, _, rfl, hc, hch, (fun _ => rfl), (fun _ => rfl), (fun _ => rfl), k3, k4, k5, k6, k7, k8, k9, k10, k11, k12, k13⟩
          simp only [putAll, List.setIfInBounds_toArray, List.set_cons_succ, List.set_cons_zero]
        · refine wpOp_step (by simp only [List.getElem?_toArray, List.getElem?_cons_succ, List.getElem?_cons_zero]; rfl) (fun K hK => ?_)
          go_simp
          refine hK _ _ ⟨[v29, v30, v31, .pointer (some ⟨g, 0, none⟩), v33, v34, v35, v36, v37, v38, v39, v40, v41, v4], ?_, _, _, _, _, _, _, _, _, _, _, _, _, _, _, rfl, hc, hch, k0, k1, k2, (fun _ => rfl), k4, k5, k6, k7, k8, k9, k10, k11, k12, k13⟩
          simp only [putAll, List.setIfInBounds_toArray, List.set_cons_succ, List.set_cons_zero]
        · have e3 := k3 (hdep 3 (by kernel_rfl))
          subst e3
          refine wpOp_step (by simp only [List.getElem?_toArray, List.getElem?_cons_succ, List.getElem?_cons_zero]; rfl) (fun K hK => ?_)
          go_simp
          refine (l1Byte_any g _ hc).mono ?_
          rintro e w4 ⟨x, rfl, hx0, hx1, hc4, hch4⟩
          obtain ⟨n, rfl⟩ := Int.eq_ofNat_of_zero_le hx0
          have hchw := hch.trans hch4
          have hz4 := hch4.size
          have hgz := hc.lt
          refine hK _ _ ⟨[v29, v30, v31, .pointer (some ⟨g, 0, none⟩), .int .i64 (n : Int), v34, v35, v36, v37, v38, v39, v40, v41, v4], ?_, _, _, _, _, _, _, _, _, _, _, _, _, _, _, rfl, hc4, hchw, k0, k1, k2, (fun _ => rfl), (fun _ => ⟨n, rfl, by omega⟩), k5, (fun h => by obtain ⟨gb, n, e, hn, hcell, hgb, hgl⟩ := k6 h; exact ⟨gb, n, e, hn, hch4.cell hcell (by omega), hgb, Nat.lt_of_lt_of_le hgl hz4⟩), k7, k8, k9, k10, k11, k12, k13⟩
          simp only [putAll, List.setIfInBounds_toArray, List.set_cons_succ, List.set_cons_zero]
        · obtain ⟨n, rfl, hn⟩ := k4 (hdep 4 (by kernel_rfl))
          have hw : IntKind.u8.wrap (n : Int) = n := by rw [IntKind.wrap_u8]; omega
          refine wpOp_step (by simp only [List.getElem?_toArray, List.getElem?_cons_succ, List.getElem?_cons_zero]; rfl) (fun K hK => ?_)
          go_simp
          refine hK _ _ ⟨[v29, v30, v31, v32, .int .i64 (n : Int), .int .u8 (n : Int), v35, v36, v37, v38, v39, v40, v41, v4], ?_, _, _, _, _, _, _, _, _, _, _, _, _, _, _, rfl, hc, hch, k0, k1, k2, k3, (fun _ => ⟨n, rfl, hn⟩), (fun _ => ⟨n, rfl, hn⟩), k6, k7, k8, k9, k10, k11, k12, k13⟩
          simp only [putAll, List.setIfInBounds_toArray, List.set_cons_succ, List.set_cons_zero]
        · obtain ⟨n, rfl, hn⟩ := k5 (hdep 5 (by kernel_rfl))
          have hal := (Below.refl w'.heap.size w').alloc (Nat.le_refl _) (.cells #[.int .u8 (n : Int)] 5)
          have hgz := hc.lt
          refine wpOp_step (by simp only [List.getElem?_toArray, List.getElem?_cons_succ, List.getElem?_cons_zero]; rfl) (fun K hK => ?_)
          go_simp
          refine hK _ _ ⟨[v29, v30, v31, v32, v33, .int .u8 (n : Int), .slice (some ⟨w'.heap.size, 0, none⟩) 1 1, v36, v37, v38, v39, v40, v41, v4], ?_, _, _, _, _, _, _, _, _, _, _, _, _, _, _, rfl, (hc.keep hal), (hch.trans (Ch.of_below hal)), k0, k1, k2, k3, k4, (fun _ => ⟨n, rfl, hn⟩), (fun _ => ⟨_, _, rfl, hn, by simp [go_sem], hgz, by simp⟩), k7, k8, k9, k10, k11, k12, k13⟩
          simp only [putAll, List.setIfInBounds_toArray, List.set_cons_succ, List.set_cons_zero]
        · obtain ⟨gb, n, rfl, hn, hcell, hgb, hgl⟩ := k6 (hdep 6 (by kernel_rfl))
          have hcv := conv_byte w' gb n hn hcell
          refine wpOp_step (by simp only [List.getElem?_toArray, List.getElem?_cons_succ, List.getElem?_cons_zero]; rfl) (fun K hK => ?_)
          go_simp
          refine hK _ _ ⟨[v29, v30, v31, v32, v33, v34, .slice (some ⟨gb, 0, none⟩) 1 1, .string ⟨#[UInt8.ofNat n]⟩, v37, v38, v39, v40, v41, v4], ?_, _, _, _, _, _, _, _, _, _, _, _, _, _, _, rfl, hc, hch, k0, k1, k2, k3, k4, k5, (fun _ => ⟨gb, n, rfl, hn, hcell, hgb, hgl⟩), (fun _ => ⟨_, rfl⟩), k8, k9, k10, k11, k12, k13⟩
          simp only [putAll, List.setIfInBounds_toArray, List.set_cons_succ, List.set_cons_zero]
        · have e2 := k2 (hdep 2 (by kernel_rfl))
          subst e2
          obtain ⟨b, rfl⟩ := k7 (hdep 7 (by kernel_rfl))
          refine wpOp_step (by simp only [List.getElem?_toArray, List.getElem?_cons_succ, List.getElem?_cons_zero]; rfl) (fun K hK => ?_)
          go_simp
          rw [if_neg (by have h1 := one_size b; omega)]
          go_simp
          refine hK _ _ ⟨[v29, v30, .string (s.extract 0 k), v32, v33, v34, v35, .string ⟨#[b]⟩, .string (s.extract 0 k ++ ⟨#[b]⟩), v38, v39, v40, v41, v4], ?_, _, _, _, _, _, _, _, _, _, _, _, _, _, _, rfl, hc, hch, k0, k1, (fun _ => rfl), k3, k4, k5, k6, (fun _ => ⟨b, rfl⟩), (fun _ => ⟨_, rfl, by rw [ByteArray.size_append, hsA, one_size]⟩), k9, k10, k11, k12, k13⟩
          simp only [putAll, List.setIfInBounds_toArray, List.set_cons_succ, List.set_cons_zero]
        · refine wpOp_step (by simp only [List.getElem?_toArray, List.getElem?_cons_succ, List.getElem?_cons_zero]; rfl) (fun K hK => ?_)
          go_simp
          refine hK _ _ ⟨[v29, v30, v31, v32, v33, v34, v35, v36, v37, .string s, v39, v40, v41, v4], ?_, _, _, _, _, _, _, _, _, _, _, _, _, _, _, rfl, hc, hch, k0, k1, k2, k3, k4, k5, k6, k7, k8, (fun _ => rfl), k10, k11, k12, k13⟩
          simp only [putAll, List.setIfInBounds_toArray, List.set_cons_succ, List.set_cons_zero]
        · refine wpOp_step (by simp only [List.getElem?_toArray, List.getElem?_cons_succ, List.getElem?_cons_zero]; rfl) (fun K hK => ?_)
          go_simp
          refine hK _ _ ⟨[v29, v30, v31, v32, v33, v34, v35, v36, v37, v38, .int .i64 (k : Int), v40, v41, v4], ?_, _, _, _, _, _, _, _, _, _, _, _, _, _, _, rfl, hc, hch, k0, k1, k2, k3, k4, k5, k6, k7, k8, k9, (fun _ => rfl), k11, k12, k13⟩
          simp only [putAll, List.setIfInBounds_toArray, List.set_cons_succ, List.set_cons_zero]
        · have e9 := k9 (hdep 9 (by kernel_rfl))
          subst e9
          have e10 := k10 (hdep 10 (by kernel_rfl))
          subst e10
          refine wpOp_step (by simp only [List.getElem?_toArray, List.getElem?_cons_succ, List.getElem?_cons_zero]; rfl) (fun K hK => ?_)
          go_simp
          rw [if_pos (by omega)]
          go_simp
          refine hK _ _ ⟨[v29, v30, v31, v32, v33, v34, v35, v36, v37, .string s, .int .i64 (k : Int), .string (s.extract k s.size), v41, v4], ?_, _, _, _, _, _, _, _, _, _, _, _, _, _, _, rfl, hc, hch, k0, k1, k2, k3, k4, k5, k6, k7, k8, (fun _ => rfl), (fun _ => rfl), (fun _ => rfl), k12, k13⟩
          simp only [putAll, List.setIfInBounds_toArray, List.set_cons_succ, List.set_cons_zero]
        · obtain ⟨r, rfl, hr⟩ := k8 (hdep 8 (by kernel_rfl))
          have e11 := k11 (hdep 11 (by kernel_rfl))
          subst e11
          refine wpOp_step (by simp only [List.getElem?_toArray, List.getElem?_cons_succ, List.getElem?_cons_zero]; rfl) (fun K hK => ?_)
          go_simp
          rw [if_neg (by omega)]
          go_simp
          refine hK _ _ ⟨[v29, v30, v31, v32, v33, v34, v35, v36, .string r, v38, v39, .string (s.extract k s.size), .string (r ++ s.extract k s.size), v4], ?_, _, _, _, _, _, _, _, _, _, _, _, _, _, _, rfl, hc, hch, k0, k1, k2, k3, k4, k5, k6, k7, (fun _ => ⟨r, rfl, hr⟩), k9, k10, (fun _ => rfl), (fun _ => ⟨_, rfl, by rw [ByteArray.size_append, hsB, hr]; omega⟩), k13⟩
          simp only [putAll, List.setIfInBounds_toArray, List.set_cons_succ, List.set_cons_zero]
        · obtain ⟨r, rfl, hr⟩ := k12 (hdep 12 (by kernel_rfl))
          refine wpOp_step (by simp only [List.getElem?_toArray, List.getElem?_cons_succ, List.getElem?_cons_zero]; rfl) (fun K hK => ?_)
          go_simp
          refine hK _ _ ⟨[v29, v30, v31, v32, v33, v34, v35, v36, v37, v38, v39, v40, .string r, .string r], ?_, _, _, _, _, _, _, _, _, _, _, _, _, _, _, rfl, hc, hch, k0, k1, k2, k3, k4, k5, k6, k7, k8, k9, k10, k11, (fun _ => ⟨r, rfl, hr⟩), (fun _ => ⟨_, rfl, hr⟩)⟩
          simp only [putAll, List.setIfInBounds_toArray, List.set_cons_succ, List.set_cons_zero]
      · intro D vs w' hD hI
        obtain ⟨v29, v30, v31, v32, v33, v34, v35, v36, v37, v38, v39, v40, v41, v4, rfl, hc, hch, k0, k1, k2, k3, k4, k5, k6, k7, k8, k9, k10, k11, k12, k13⟩ := hI
        simp only [putAll, List.setIfInBounds_toArray, List.set_cons_succ, List.set_cons_zero]
        obtain ⟨r, rfl, hr⟩ := k13 (hD 13 (show 13 < 14 by decide))
        go_wp2
        go_returns
        exact ⟨r, rfl, by omega, hc, hch⟩
    · go_wp2
      go_returns
      exact ⟨_, rfl, by omega, hc2, hch2⟩
    · go_wp2
      refine wp_region_dagb [47, 48, 49, 50, 51, 52, 53, 54, 55, 56, 57, 58, 59, 60, 61, 62, 63, 64, 65, 66, 4] (by kernel_rfl) (by kernel_rfl) (fun D vs w' => ∃ v47 v48 v49 v50 v51 v52 v53 v54 v55 v56 v57 v58 v59 v60 v61 v62 v63 v64 v65 v66 v4 : Value, vs = [v47, v48, v49, v50, v51, v52, v53, v54, v55, v56, v57, v58, v59, v60, v61, v62, v63, v64, v65, v66, v4] ∧ Cur w' g ∧ Ch (fun k => k = g) w w' ∧ (D 0 = true → v47 = .string s) ∧ (D 1 = true → v48 = .int .i64 (k : Int)) ∧ (D 2 = true → v49 = .string (s.extract 0 k)) ∧ (D 3 = true → v50 = .string s) ∧ (D 4 = true → v51 = .int .i64 (k : Int)) ∧ (D 5 = true → ∃ n : Nat, v52 = .int .u8 (n : Int) ∧ n < 256) ∧ (D 6 = true → ∃ n : Nat, v53 = .int .i64 (n : Int) ∧ n < 256) ∧ (D 7 = true → v54 = .pointer (some ⟨g, 0, none⟩)) ∧ (D 8 = true → ∃ n : Nat, v55 = .int .i64 (n : Int) ∧ n < 255) ∧ (D 9 = true → ∃ n : Nat, v56 = .int .i64 (n : Int) ∧ n < 256) ∧ (D 10 = true → ∃ n : Nat, v57 = .int .i64 (n : Int) ∧ n < 256) ∧ (D 11 = true → ∃ n : Nat, v58 = .int .u8 (n : Int) ∧ n < 256) ∧ (D 12 = true → ∃ (gb : Nat) (n : Nat), v59 = .slice (some ⟨gb, 0, none⟩) 1 1 ∧ n < 256 ∧ w'.cell? ⟨gb, 0, none⟩ = some (.int .u8 (n : Int)) ∧ g < gb ∧ gb < w'.heap.size) ∧ (D 13 = true → ∃ b : UInt8, v60 = .string ⟨#[b]⟩) ∧ (D 14 = true → ∃ r : ByteArray, v61 = .string r ∧ r.size = k + 1) ∧ (D 15 = true → v62 = .string s) ∧ (D 16 = true → v63 = .int .i64 (k : Int)) ∧ (D 17 = true → v64 = .int .i64 ((k : Int) + 1)) ∧ (D 18 = true → v65 = .string (s.extract (k + 1) s.size)) ∧ (D 19 = true → ∃ r : ByteArray, v66 = .string r ∧ r.size = s.size) ∧ (D 20 = true → ∃ r : ByteArray, v4 = .string r ∧ r.size = s.size))
        ⟨_, _, _, _, _, _, _, _, _, _, _, _, _, _, _, _, _, _, _, _, _, rfl, hc2.keep (Below.refl _ _).drew, hch2.thenB (Below.refl _ _).drew, (fun h => by cases h), (fun h => by cases h), (fun h => by cases h), (fun h => by cases h), (fun h => by cases h), (fun h => by cases h), (fun h => by cases h), (fun h => by cases h), (fun h => by cases h), (fun h => by cases h), (fun h => by cases h), (fun h => by cases h), (fun h => by cases h), (fun h => by cases h), (fun h => by cases h), (fun h => by cases h), (fun h => by cases h), (fun h => by cases h), (fun h => by cases h), (fun h => by cases h), (fun h => by cases h)⟩ ?_ ?_
      · intro i D vs w' hi hD hdep hcl hI
        have hi' : i < 21 := hi
        obtain ⟨v47, v48, v49, v50, v51, v52, v53, v54, v55, v56, v57, v58, v59, v60, v61, v62, v63, v64, v65, v66, v4, rfl, hc, hch, k0, k1, k2, k3, k4, k5, k6, k7, k8, k9, k10, k11, k12, k13, k14, k15, k16, k17, k18, k19, k20⟩ := hI
        simp only [putAll, List.setIfInBounds_toArray, List.set_cons_succ, List.set_cons_zero]
        rcases (show i = 0 ∨ i = 1 ∨ i = 2 ∨ i = 3 ∨ i = 4 ∨ i = 5 ∨ i = 6 ∨ i = 7 ∨ i = 8 ∨ i = 9 ∨ i = 10 ∨ i = 11 ∨ i = 12 ∨ i = 13 ∨ i = 14 ∨ i = 15 ∨ i = 16 ∨ i = 17 ∨ i = 18 ∨ i = 19 ∨ i = 20 by omega) with rfl | rfl | rfl | rfl | rfl | rfl | rfl | rfl | rfl | rfl | rfl | rfl | rfl | rfl | rfl | rfl | rfl | rfl | rfl | rfl | rfl
        · refine wpOp_step (by simp only [List.getElem?_toArray, List.getElem?_cons_zero]; rfl) (fun K hK => ?_)
          go_simp
          refine hK _ _ ⟨[.string s, v48, v49, v50, v51, v52, v53, v54, v55, v56, v57, v58, v59, v60, v61, v62, v63, v64, v65, v66, v4], ?_, _, _, _, _, _, _, _, _, _, _, _, _, _, _, _, _, _, _, _, _, _, rfl, hc, hch, (fun _ => rfl), k1, k2, k3, k4, k5, k6, k7, k8, k9, k10, k11, k12, k13, k14, k15, k16, k17, k18, k19, k20⟩
          simp only [putAll, List.setIfInBounds_toArray, List.set_cons_succ, List.set_cons_zero]
        · refine wpOp_step (by simp only [List.getElem?_toArray, List.getElem?_cons_succ, List.getElem?_cons_zero]; rfl) (fun K hK => ?_)
          go_simp
          refine hK _ _ ⟨[v47, .int .i64 (k : Int), v49, v50, v51, v52, v53, v54, v55, v56, v57, v58, v59, v60, v61, v62, v63, v64, v65, v66, v4], ?_, _, _, _, _, _, _, _, _, _, _, _, _, _, _, _, _, _, _, _, _, _, rfl, hc, hch, k0, (fun _ => rfl), k2, k3, k4, k5, k6, k7, k8, k9, k10, k11, k12, k13, k14, k15, k16, k17, k18, k19, k20⟩
          simp only [putAll, List.setIfInBounds_toArray, List.set_cons_succ, List.set_cons_zero]
        · have e0 := k0 (hdep 0 (by kernel_rfl))
          subst e0
          have e1 := k1 (hdep 1 (by kernel_rfl))
          subst e1
          refine wpOp_step (by simp only [List.getElem?_toArray, List.getElem?_cons_succ, List.getElem?_cons_zero]; rfl) (fun K hK => ?_)
          go_simp
          rw [if_pos (by omega)]
          go_simp
          refine hK _ _ ⟨[.string s, .int .i64 (k : Int), .string (s.extract 0 k), v50, v51, v52, v53, v54, v55, v56, v57, v58, v59, v60, v61, v62, v63, v64, v65, v66, v4], ?_, _, _, _, _, _, _, _, _, _, _, _, _, _, _, _, _, _, _, _, _, _, rfl, hc, hch, (fun _ => rfl), (fun _ => rfl), (fun _ => rfl), k3, k4, k5, k6, k7, k8, k9, k10, k11, k12, k13, k14, k15, k16, k17, k18, k19, k20⟩
          simp only [putAll, List.setIfInBounds_toArray, List.set_cons_succ, List.set_cons_zero]
        · refine wpOp_step (by simp only [List.getElem?_toArray, List.getElem?_cons_succ, List.getElem?_cons_zero]; rfl) (fun K hK => ?_)
          go_simp
          refine hK _ _ ⟨[v47, v48, v49, .string s, v51, v52, v53, v54, v55, v56, v57, v58, v59, v60, v61, v62, v63, v64, v65, v66, v4], ?_, _, _, _, _, _, _, _, _, _, _, _, _, _, _, _, _, _, _, _, _, _, rfl, hc, hch, k0, k1, k2, (fun _ => rfl), k4, k5, k6, k7, k8, k9, k10, k11, k12, k13, k14, k15, k16, k17, k18, k19, k20⟩
          simp only [putAll, List.setIfInBounds_toArray, List.set_cons_succ, List.set_cons_zero]
        · refine wpOp_step (by simp only [List.getElem?_toArray, List.getElem?_cons_succ, List.getElem?_cons_zero]; rfl) (fun K hK => ?_)
          go_simp
          refine hK _ _ ⟨[v47, v48, v49, v50, .int .i64 (k : Int), v52, v53, v54, v55, v56, v57, v58, v59, v60, v61, v62, v63, v64, v65, v66, v4], ?_, _, _, _, _, _, _, _, _, _, _, _, _, _, _, _, _, _, _, _, _, _, rfl, hc, hch, k0, k1, k2, k3, (fun _ => rfl), k5, k6, k7, k8, k9, k10, k11, k12, k13, k14, k15, k16, k17, k18, k19, k20⟩
          simp only [putAll, List.setIfInBounds_toArray, List.set_cons_succ, List.set_cons_zero]
        · have e3 := k3 (hdep 3 (by kernel_rfl))
          subst e3
          have e4 := k4 (hdep 4 (by kernel_rfl))
          subst e4
          have hbt := bAt_get hk
          refine wpOp_step (by simp only [List.getElem?_toArray, List.getElem?_cons_succ, List.getElem?_cons_zero]; rfl) (fun K hK => ?_)
          go_simp
          refine hK _ _ ⟨[v47, v48, v49, .string s, .int .i64 (k : Int), .int .u8 (bAt s k : Nat), v53, v54, v55, v56, v57, v58, v59, v60, v61, v62, v63, v64, v65, v66, v4], ?_, _, _, _, _, _, _, _, _, _, _, _, _, _, _, _, _, _, _, _, _, _, rfl, hc, hch, k0, k1, k2, (fun _ => rfl), (fun _ => rfl), (fun _ => ⟨bAt s k, rfl, bAt_lt s k⟩), k6, k7, k8, k9, k10, k11, k12, k13, k14, k15, k16, k17, k18, k19, k20⟩
          simp only [putAll, List.setIfInBounds_toArray, List.set_cons_succ, List.set_cons_zero]
        · obtain ⟨n, rfl, hn⟩ := k5 (hdep 5 (by kernel_rfl))
          have hw : IntKind.i64.wrap (n : Int) = n := by rw [IntKind.wrap_i64]; omega
          refine wpOp_step (by simp only [List.getElem?_toArray, List.getElem?_cons_succ, List.getElem?_cons_zero]; rfl) (fun K hK => ?_)
          go_simp
          refine hK _ _ ⟨[v47, v48, v49, v50, v51, .int .u8 (n : Int), .int .i64 (n : Int), v54, v55, v56, v57, v58, v59, v60, v61, v62, v63, v64, v65, v66, v4], ?_, _, _, _, _, _, _, _, _, _, _, _, _, _, _, _, _, _, _, _, _, _, rfl, hc, hch, k0, k1, k2, k3, k4, (fun _ => ⟨n, rfl, hn⟩), (fun _ => ⟨n, rfl, hn⟩), k7, k8, k9, k10, k11, k12, k13, k14, k15, k16, k17, k18, k19, k20⟩
          simp only [putAll, List.setIfInBounds_toArray, List.set_cons_succ, List.set_cons_zero]
        · refine wpOp_step (by simp only [List.getElem?_toArray, List.getElem?_cons_succ, List.getElem?_cons_zero]; rfl) (fun K hK => ?_)
          go_simp
          refine hK _ _ ⟨[v47, v48, v49, v50, v51, v52, v53, .pointer (some ⟨g, 0, none⟩), v55, v56, v57, v58, v59, v60, v61, v62, v63, v64, v65, v66, v4], ?_, _, _, _, _, _, _, _, _, _, _, _, _, _, _, _, _, _, _, _, _, _, rfl, hc, hch, k0, k1, k2, k3, k4, k5, k6, (fun _ => rfl), k8, k9, k10, k11, k12, k13, k14, k15, k16, k17, k18, k19, k20⟩
          simp only [putAll, List.setIfInBounds_toArray, List.set_cons_succ, List.set_cons_zero]
        · have e7 := k7 (hdep 7 (by kernel_rfl))
          subst e7
          refine wpOp_step (by simp only [List.getElem?_toArray, List.getElem?_cons_succ, List.getElem?_cons_zero]; rfl) (fun K hK => ?_)
          go_simp
          refine (l1Below_any g _ _ hc (by omega)).mono ?_
          rintro e w4 ⟨x, rfl, hx0, hx1, _, hc4, hch4⟩
          obtain ⟨n, rfl⟩ := Int.eq_ofNat_of_zero_le hx0
          have hchw := hch.trans hch4
          have hx2 := hx1 (by omega)
          have hz4 := hch4.size
          refine hK _ _ ⟨[v47, v48, v49, v50, v51, v52, v53, .pointer (some ⟨g, 0, none⟩), .int .i64 (n : Int), v56, v57, v58, v59, v60, v61, v62, v63, v64, v65, v66, v4], ?_, _, _, _, _, _, _, _, _, _, _, _, _, _, _, _, _, _, _, _, _, _, rfl, hc4, hchw, k0, k1, k2, k3, k4, k5, k6, (fun _ => rfl), (fun _ => ⟨n, rfl, by omega⟩), k9, k10, k11, (fun h => by obtain ⟨gb, n, e, hn, hcell, hgb, hgl⟩ := k12 h; exact ⟨gb, n, e, hn, hch4.cell hcell (by omega), hgb, Nat.lt_of_lt_of_le hgl hz4⟩), k13, k14, k15, k16, k17, k18, k19, k20⟩
          simp only [putAll, List.setIfInBounds_toArray, List.set_cons_succ, List.set_cons_zero]
        · obtain ⟨n, rfl, hn⟩ := k8 (hdep 8 (by kernel_rfl))
          have hw : IntKind.i64.wrap (1 + (n : Int)) = 1 + n := by rw [IntKind.wrap_i64]; omega
          refine wpOp_step (by simp only [List.getElem?_toArray, List.getElem?_cons_succ, List.getElem?_cons_zero]; rfl) (fun K hK => ?_)
          go_simp
          refine hK _ _ ⟨[v47, v48, v49, v50, v51, v52, v53, v54, .int .i64 (n : Int), .int .i64 (1 + (n : Int)), v57, v58, v59, v60, v61, v62, v63, v64, v65, v66, v4], ?_, _, _, _, _, _, _, _, _, _, _, _, _, _, _, _, _, _, _, _, _, _, rfl, hc, hch, k0, k1, k2, k3, k4, k5, k6, k7, (fun _ => ⟨n, rfl, hn⟩), (fun _ => ⟨1 + n, by push_cast; rfl, by omega⟩), k10, k11, k12, k13, k14, k15, k16, k17, k18, k19, k20⟩
          simp only [putAll, List.setIfInBounds_toArray, List.set_cons_succ, List.set_cons_zero]
        · obtain ⟨n, rfl, hn⟩ := k6 (hdep 6 (by kernel_rfl))
          obtain ⟨m, rfl, hm⟩ := k9 (hdep 9 (by kernel_rfl))
          obtain ⟨hx1, hx2⟩ := xor255 n m hn hm
          refine wpOp_step (by simp only [List.getElem?_toArray, List.getElem?_cons_succ, List.getElem?_cons_zero]; rfl) (fun K hK => ?_)
          go_simp
          refine hK _ _ ⟨[v47, v48, v49, v50, v51, v52, .int .i64 (n : Int), v54, v55, .int .i64 (m : Int), .int .i64 ((n ^^^ m : Nat) : Int), v58, v59, v60, v61, v62, v63, v64, v65, v66, v4], ?_, _, _, _, _, _, _, _, _, _, _, _, _, _, _, _, _, _, _, _, _, _, rfl, hc, hch, k0, k1, k2, k3, k4, k5, (fun _ => ⟨n, rfl, hn⟩), k7, k8, (fun _ => ⟨m, rfl, hm⟩), (fun _ => ⟨n ^^^ m, rfl, hx2⟩), k11, k12, k13, k14, k15, k16, k17, k18, k19, k20⟩
          simp only [putAll, List.setIfInBounds_toArray, List.set_cons_succ, List.set_cons_zero]
        · obtain ⟨n, rfl, hn⟩ := k10 (hdep 10 (by kernel_rfl))
          have hw : IntKind.u8.wrap (n : Int) = n := by rw [IntKind.wrap_u8]; omega
          refine wpOp_step (by simp only [List.getElem?_toArray, List.getElem?_cons_succ, List.getElem?_cons_zero]; rfl) (fun K hK => ?_)
          go_simp
          refine hK _ _ ⟨[v47, v48, v49, v50, v51, v52, v53, v54, v55, v56, .int .i64 (n : Int), .int .u8 (n : Int), v59, v60, v61, v62, v63, v64, v65, v66, v4], ?_, _, _, _, _, _, _, _, _, _, _, _, _, _, _, _, _, _, _, _, _, _, rfl, hc, hch, k0, k1, k2, k3, k4, k5, k6, k7, k8, k9, (fun _ => ⟨n, rfl, hn⟩), (fun _ => ⟨n, rfl, hn⟩), k12, k13, k14, k15, k16, k17, k18, k19, k20⟩
          simp only [putAll, List.setIfInBounds_toArray, List.set_cons_succ, List.set_cons_zero]
        · obtain ⟨n, rfl, hn⟩ := k11 (hdep 11 (by kernel_rfl))
          have hal := (Below.refl w'.heap.size w').alloc (Nat.le_refl _) (.cells #[.int .u8 (n : Int)] 5)
          have hgz := hc.lt
          refine wpOp_step (by simp only [List.getElem?_toArray, List.getElem?_cons_succ, List.getElem?_cons_zero]; rfl) (fun K hK => ?_)
          go_simp
          refine hK _ _ ⟨[v47, v48, v49, v50, v51, v52, v53, v54, v55, v56, v57, .int .u8 (n : Int), .slice (some ⟨w'.heap.size, 0, none⟩) 1 1, v60, v61, v62, v63, v64, v65, v66, v4], ?_, _, _, _, _, _, _, _, _, _, _, _, _, _, _, _, _, _, _, _, _, _, rfl, (hc.keep hal), (hch.trans (Ch.of_below hal)), k0, k1, k2, k3, k4, k5, k6, k7, k8, k9, k10, (fun _ => ⟨n, rfl, hn⟩), (fun _ => ⟨_, _, rfl, hn, by simp [go_sem], hgz, by simp⟩), k13, k14, k15, k16, k17, k18, k19, k20⟩
          simp only [putAll, List.setIfInBounds_toArray, List.set_cons_succ, List.set_cons_zero]
        · obtain ⟨gb, n, rfl, hn, hcell, hgb, hgl⟩ := k12 (hdep 12 (by kernel_rfl))
          have hcv := conv_byte w' gb n hn hcell
          refine wpOp_step (by simp only [List.getElem?_toArray, List.getElem?_cons_succ, List.getElem?_cons_zero]; rfl) (fun K hK => ?_)
          go_simp
          refine hK _ _ ⟨[v47, v48, v49, v50, v51, v52, v53, v54, v55, v56, v57, v58, .slice (some ⟨gb, 0, none⟩) 1 1, .string ⟨#[UInt8.ofNat n]⟩, v61, v62, v63, v64, v65, v66, v4], ?_, _, _, _, _, _, _, _, _, _, _, _, _, _, _, _, _, _, _, _, _, _, rfl, hc, hch, k0, k1, k2, k3, k4, k5, k6, k7, k8, k9, k10, k11, (fun _ => ⟨gb, n, rfl, hn, hcell, hgb, hgl⟩), (fun _ => ⟨_, rfl⟩), k14, k15, k16, k17, k18, k19, k20⟩
          simp only [putAll, List.setIfInBounds_toArray, List.set_cons_succ, List.set_cons_zero]
        · have e2 := k2 (hdep 2 (by kernel_rfl))
          subst e2
          obtain ⟨b, rfl⟩ := k13 (hdep 13 (by kernel_rfl))
          refine wpOp_step (by simp only [List.getElem?_toArray, List.getElem?_cons_succ, List.getElem?_cons_zero]; rfl) (fun K hK => ?_)
          go_simp
          rw [if_neg (by have h1 := one_size b; omega)]
          go_simp
          refine hK _ _ ⟨[v47, v48, .string (s.extract 0 k), v50, v51, v52, v53, v54, v55, v56, v57, v58, v59, .string ⟨#[b]⟩, .string (s.extract 0 k ++ ⟨#[b]⟩), v62, v63, v64, v65, v66, v4], ?_, _, _, _, _, _, _, _, _, _, _, _, _, _, _, _, _, _, _, _, _, _, rfl, hc, hch, k0, k1, (fun _ => rfl), k3, k4, k5, k6, k7, k8, k9, k10, k11, k12, (fun _ => ⟨b, rfl⟩), (fun _ => ⟨_, rfl, by rw [ByteArray.size_append, hsA, one_size]⟩), k15, k16, k17, k18, k19, k20⟩
          simp only [putAll, List.setIfInBounds_toArray, List.set_cons_succ, List.set_cons_zero]
        · refine wpOp_step (by simp only [List.getElem?_toArray, List.getElem?_cons_succ, List.getElem?_cons_zero]; rfl) (fun K hK => ?_)
          go_simp
          refine hK _ _ ⟨[v47, v48, v49, v50, v51, v52, v53, v54, v55, v56, v57, v58, v59, v60, v61, .string s, v63, v64, v65, v66, v4], ?_, _, _, _, _, _, _, _, _, _, _, _, _, _, _, _, _, _, _, _, _, _, rfl, hc, hch, k0, k1, k2, k3, k4, k5, k6, k7, k8, k9, k10, k11, k12, k13, k14, (fun _ => rfl), k16, k17, k18, k19, k20⟩
          simp only [putAll, List.setIfInBounds_toArray, List.set_cons_succ, List.set_cons_zero]
        · refine wpOp_step (by simp only [List.getElem?_toArray, List.getElem?_cons_succ, List.getElem?_cons_zero]; rfl) (fun K hK => ?_)
          go_simp
          refine hK _ _ ⟨[v47, v48, v49, v50, v51, v52, v53, v54, v55, v56, v57, v58, v59, v60, v61, v62, .int .i64 (k : Int), v64, v65, v66, v4], ?_, _, _, _, _, _, _, _, _, _, _, _, _, _, _, _, _, _, _, _, _, _, rfl, hc, hch, k0, k1, k2, k3, k4, k5, k6, k7, k8, k9, k10, k11, k12, k13, k14, k15, (fun _ => rfl), k17, k18, k19, k20⟩
          simp only [putAll, List.setIfInBounds_toArray, List.set_cons_succ, List.set_cons_zero]
        · have e16 := k16 (hdep 16 (by kernel_rfl))
          subst e16
          have hw : IntKind.i64.wrap ((k : Int) + 1) = k + 1 := by rw [IntKind.wrap_i64]; omega
          refine wpOp_step (by simp only [List.getElem?_toArray, List.getElem?_cons_succ, List.getElem?_cons_zero]; rfl) (fun K hK => ?_)
          go_simp
          refine hK _ _ ⟨[v47, v48, v49, v50, v51, v52, v53, v54, v55, v56, v57, v58, v59, v60, v61, v62, .int .i64 (k : Int), .int .i64 ((k : Int) + 1), v65, v66, v4], ?_, _, _, _, _, _, _, _, _, _, _, _, _, _, _, _, _, _, _, _, _, _, rfl, hc, hch, k0, k1, k2, k3, k4, k5, k6, k7, k8, k9, k10, k11, k12, k13, k14, k15, (fun _ => rfl), (fun _ => rfl), k18, k19, k20⟩
          simp only [putAll, List.setIfInBounds_toArray, List.set_cons_succ, List.set_cons_zero]
        · have e15 := k15 (hdep 15 (by kernel_rfl))
          subst e15
          have e17 := k17 (hdep 17 (by kernel_rfl))
          subst e17
          refine wpOp_step (by simp only [List.getElem?_toArray, List.getElem?_cons_succ, List.getElem?_cons_zero]; rfl) (fun K hK => ?_)
          go_simp
          rw [if_pos (by omega)]
          go_simp
          refine hK _ _ ⟨[v47, v48, v49, v50, v51, v52, v53, v54, v55, v56, v57, v58, v59, v60, v61, .string s, v63, .int .i64 ((k : Int) + 1), .string (s.extract (k + 1) s.size), v66, v4], ?_, _, _, _, _, _, _, _, _, _, _, _, _, _, _, _, _, _, _, _, _, _, rfl, hc, hch, k0, k1, k2, k3, k4, k5, k6, k7, k8, k9, k10, k11, k12, k13, k14, (fun _ => rfl), k16, (fun _ => rfl), (fun _ => rfl), k19, k20⟩
          simp only [putAll, List.setIfInBounds_toArray, List.set_cons_succ, List.set_cons_zero]
        · obtain ⟨r, rfl, hr⟩ := k14 (hdep 14 (by kernel_rfl))
          have e18 := k18 (hdep 18 (by kernel_rfl))
          subst e18
          refine wpOp_step (by simp only [List.getElem?_toArray, List.getElem?_cons_succ, List.getElem?_cons_zero]; rfl) (fun K hK => ?_)
          go_simp
          rw [if_neg (by omega)]
          go_simp
          refine hK _ _ ⟨[v47, v48, v49, v50, v51, v52, v53, v54, v55, v56, v57, v58, v59, v60, .string r, v62, v63, v64, .string (s.extract (k + 1) s.size), .string (r ++ s.extract (k + 1) s.size), v4], ?_, _, _, _, _, _, _, _, _, _, _, _, _, _, _, _, _, _, _, _, _, _, rfl, hc, hch, k0, k1, k2, k3, k4, k5, k6, k7, k8, k9, k10, k11, k12, k13, (fun _ => ⟨r, rfl, hr⟩), k15, k16, k17, (fun _ => rfl), (fun _ => ⟨_, rfl, by rw [ByteArray.size_append, hsC, hr]; omega⟩), k20⟩
          simp only [putAll, List.setIfInBounds_toArray, List.set_cons_succ, List.set_cons_zero]
        · obtain ⟨r, rfl, hr⟩ := k19 (hdep 19 (by kernel_rfl))
          refine wpOp_step (by simp only [List.getElem?_toArray, List.getElem?_cons_succ, List.getElem?_cons_zero]; rfl) (fun K hK => ?_)
          go_simp
          refine hK _ _ ⟨[v47, v48, v49, v50, v51, v52, v53, v54, v55, v56, v57, v58, v59, v60, v61, v62, v63, v64, v65, .string r, .string r], ?_, _, _, _, _, _, _, _, _, _, _, _, _, _, _, _, _, _, _, _, _, _, rfl, hc, hch, k0, k1, k2, k3, k4, k5, k6, k7, k8, k9, k10, k11, k12, k13, k14, k15, k16, k17, k18, (fun _ => ⟨r, rfl, hr⟩), (fun _ => ⟨_, rfl, hr⟩)⟩
          simp only [putAll, List.setIfInBounds_toArray, List.set_cons_succ, List.set_cons_zero]
      · intro D vs w' hD hI
        obtain ⟨v47, v48, v49, v50, v51, v52, v53, v54, v55, v56, v57, v58, v59, v60, v61, v62, v63, v64, v65, v66, v4, rfl, hc, hch, k0, k1, k2, k3, k4, k5, k6, k7, k8, k9, k10, k11, k12, k13, k14, k15, k16, k17, k18, k19, k20⟩ := hI
        simp only [putAll, List.setIfInBounds_toArray, List.set_cons_succ, List.set_cons_zero]
        obtain ⟨r, rfl, hr⟩ := k20 (hD 20 (show 20 < 21 by decide))
        go_wp2
        go_returns
        exact ⟨r, rfl, by omega, hc, hch⟩
end Go.Proofs.Ytbijkdpifnncmaa
/- Plain law of trees' texts: a text is the text of one tree; the draw of texts. -/
namespace Go.Proofs.Ytbijkdpifnncmaa
open Go.RowKit

theorem chL_inj : ∀ {c c' : List ByteArray} {t t' : ByteArray}, c.length = c'.length → (∀ x ∈ c, x.size = 8) → (∀ x ∈ c', x.size = 8) → chL c ++ t = chL c' ++ t' → c = c' ∧ t = t'
  | [], [], t, t', _, _, _, h => ⟨rfl, by simpa [chL] using h⟩
  | x :: c, y :: c', t, t', hl, h1, h2, h => by
    simp only [chL, ByteArray.append_assoc] at h
    have e1 := cutF_app x (chL c ++ t) (h1 x (List.mem_cons_self ..))
    have e2 := cutF_app y (chL c' ++ t') (h2 y (List.mem_cons_self ..))
    rw [h, e2] at e1
    simp only [Prod.mk.injEq] at e1
    obtain ⟨e3, e4, _⟩ := e1
    obtain ⟨e5, e6⟩ := chL_inj (by simpa using hl) (fun z hz => h1 z (List.mem_cons_of_mem _ hz)) (fun z hz => h2 z (List.mem_cons_of_mem _ hz)) e4.symm
    exact ⟨by rw [e3, e5], e6⟩
  | [], _ :: _, _, _, hl, _, _, _ => by simp at hl
  | _ :: _, [], _, _, hl, _, _, _ => by simp at hl
def okE (l : List Ent) : Prop := ∀ e ∈ l, e.ch.length ≤ 4 ∧ ∀ x ∈ e.ch, x.size = 8
theorem okE_of {l : List Ent} (h : treeOkB l = true) : okE l := fun e he => by
  obtain ⟨k, hk, rfl⟩ := List.mem_iff_getElem.1 he
  have ht := tok_at h hk
  rw [enAt_get hk] at ht
  refine ⟨ht.1, fun x hx => ?_⟩
  obtain ⟨j, hj, rfl⟩ := List.mem_iff_getElem.1 hx
  have := ht.2 j hj
  simpa [sAt, hj] using this
theorem restL_inj : ∀ {l l' : List Ent}, okE l → okE l' → (restL l).size ≤ 562949953421311 → restL l = restL l' → l = l'
  | [], [], _, _, _, _ => rfl
  | [], e :: l', _, _, _, h => by
    have h1 := congrArg ByteArray.size h
    simp only [restL, ByteArray.size_append] at h1
    have h2 := varS_pos e.p.size
    have h3 : ByteArray.empty.size = 0 := rfl
    omega
  | e :: l, [], _, _, _, h => by
    have h1 := congrArg ByteArray.size h
    simp only [restL, ByteArray.size_append] at h1
    have h2 := varS_pos e.p.size
    have h3 : ByteArray.empty.size = 0 := rfl
    omega
  | e :: l, f :: l', h1, h2, hz, h => by
    have hz' : (restL (f :: l')).size ≤ 562949953421311 := by rw [← h]; exact hz
    have hz0 := hz
    simp only [restL, ByteArray.size_append] at hz0 hz'
    have a1 := textF_app (p := e.p) (by omega) (varS e.ch.length ++ (chL e.ch ++ restL l))
    have a2 := textF_app (p := f.p) (by omega) (varS f.ch.length ++ (chL f.ch ++ restL l'))
    simp only [restL] at h
    rw [h, a2] at a1
    simp only [Prod.mk.injEq] at a1
    obtain ⟨e1, e2, _⟩ := a1
    have he := h1 e (List.mem_cons_self ..)
    have hf := h2 f (List.mem_cons_self ..)
    have b1 := manyF_var (n := e.ch.length) (most := 4) he.1 (by omega) (chL e.ch ++ restL l)
    have b2 := manyF_var (n := f.ch.length) (most := 4) hf.1 (by omega) (chL f.ch ++ restL l')
    rw [← e2, b2] at b1
    simp only [Prod.mk.injEq] at b1
    obtain ⟨e3, e4, _⟩ := b1
    obtain ⟨e5, e6⟩ := chL_inj e3 hf.2 he.2 e4
    have e7 := restL_inj (l := l) (l' := l') (fun x hx => h1 x (List.mem_cons_of_mem _ hx)) (fun x hx => h2 x (List.mem_cons_of_mem _ hx)) (by omega) e6.symm
    have e8 : e = f := by
      obtain ⟨p, c⟩ := e
      obtain ⟨p', c'⟩ := f
      simp only at e1 e5
      rw [e1, e5]
    rw [e8, e7]
open Classical in
theorem trB_tree (l : List Ent) : trB (treeText l) = true := by
  cases h : treeOkB l
  · have h0 : treeOkB ([] : List Ent) = true := by decide
    have : treeText l = treeText [] := by unfold treeText; rw [h, h0]; rfl
    rw [this]
    unfold trB; exact decide_eq_true ⟨[], h0, rfl⟩
  · unfold trB; exact decide_eq_true ⟨l, h, rfl⟩
theorem trL_text {s : ByteArray} (h : trB s = true) : treeOkB (trL s) = true ∧ treeText (trL s) = s := by
  have hex : ∃ l, treeOkB l = true ∧ treeText l = s := by unfold trB at h; simpa using h
  unfold trL
  rw [dif_pos hex]
  exact Classical.choose_spec hex
theorem trL_same {l : List Ent} (h : treeOkB l = true) (hz : (treeText l).size ≤ 562949953421311) : trL (treeText l) = l := by
  obtain ⟨h1, h2⟩ := trL_text (trB_tree l)
  have h3 : restL (trL (treeText l)) = restL l := by rw [← treeText_restL h1, h2, treeText_restL h]
  exact restL_inj (okE_of h1) (okE_of h) (by rw [h3, ← treeText_restL h]; exact hz) h3
theorem chL_small : ∀ {c : List ByteArray}, (∀ x ∈ c, x.size ≤ 9) → (chL c).size ≤ 9 * c.length
  | [], _ => by simp [chL]
  | x :: c, h => by
    have h1 := h x (List.mem_cons_self ..)
    have h2 := chL_small (c := c) (fun y hy => h y (List.mem_cons_of_mem _ hy))
    simp only [chL, ByteArray.size_append, List.length_cons]; omega
theorem restL_small : ∀ {l : List Ent}, smallE l → (restL l).size ≤ 60 * l.length
  | [], _ => by simp [restL]
  | e :: l, h => by
    have h1 := h e (List.mem_cons_self ..)
    have h2 := restL_small (l := l) (fun y hy => h y (List.mem_cons_of_mem _ hy))
    have h3 := chL_small h1.2.2
    have h4 := varS_size e.p.size
    have h5 := varS_size e.ch.length
    simp only [restL, ByteArray.size_append, List.length_cons]; omega
theorem treeText_small {l : List Ent} (h : smallE l) (hl : l.length ≤ 11) : (treeText l).size ≤ 660 := by
  cases ht : treeOkB l
  · unfold treeText; rw [ht]; exact Nat.zero_le _
  · rw [treeText_restL ht]
    have := restL_small h
    omega

attribute [local irreducible] EntsAt treeText
theorem drawTreeRead_any (A : Option Addr) (n c : Nat) (f : Nat → Int) (w : World) (h : CodeAt w A n f) (hn : n ≤ 1048576) :
    Calls Try.prog 9 #[.slice A n c] w fun e w' => ∃ s : ByteArray, e = .returned (.string s) ∧ s.size ≤ 700 ∧ Below w.heap.size w w' := by
  go_enter Try.func9, Try.ntmps9
  go_wp2_with fail
  refine (l1New_any _ _ _ _ _ h hn).mono ?_
  rintro e w1 ⟨rfl, hc1, hb1⟩
  have hz1 := hb1.size
  go_wp2_with fail
  refine (l30Some_any _ _ hc1).mono ?_
  rintro e w2 ⟨A0, n0, c0, l, rfl, hr2, hl0, hs0, hc2, hch2⟩
  have hB2 := hb1.trans (hch2.below (B := w.heap.size) (fun k hk => by omega) hz1)
  have hsz := smallE_sz hs0
  have hts := treeText_small hs0 hl0
  go_wp2_with fail
  refine (treeText_spec _ _ _ l _ hr2.at_ (by omega)).mono ?_
  rintro e w3 ⟨rfl, hb3⟩
  have hc3 := hc2.keep hb3
  have hB3 := bthen hB2 hb3
  generalize treeText l = s at *
  clear hr2 hc2 hch2 hc1 hB2
  go_wp2_with fail
  refine (l1Once_any _ _ _ hc3 (by omega)).mono ?_
  rintro e w4 ⟨b, rfl, hc4, hch4⟩
  have hB4 := hB3.trans (hch4.below (B := w.heap.size) (fun k hk => by omega) hB3.size)
  cases b
  · go_wp2
    go_returns
    exact ⟨s, rfl, by omega, hB4⟩
  · go_wp2_with fail
    refine (l1Spoil_any _ s _ hc4 (by omega)).mono ?_
    rintro e w5 ⟨r, rfl, hr, hc5, hch5⟩
    go_wp2
    go_returns
    exact ⟨r, rfl, by omega, hB4.trans (hch5.below (B := w.heap.size) (fun k hk => by omega) hB4.size)⟩
end Go.Proofs.Ytbijkdpifnncmaa
/- Is a text in a list: the reference's l15In. -/
namespace Go.Proofs.Ytbijkdpifnncmaa
open Go.RowKit

/-- is a text among texts? -/
def hasS (l : List ByteArray) (x : ByteArray) : Bool := l.any (fun y => decide (y = x))
theorem hasS_yes {l : List ByteArray} {k : Nat} {x : ByteArray} (hk : k < l.length) (h : sAt l k = x) : hasS l x = true := by
  unfold hasS; rw [List.any_eq_true]; exact ⟨l[k], List.getElem_mem hk, by rw [← h, sAt_get hk]; simp⟩
theorem hasS_no {l : List ByteArray} {x : ByteArray} (h : ∀ j, j < l.length → sAt l j ≠ x) : hasS l x = false := by
  unfold hasS; rw [List.any_eq_false]
  intro y hy hx
  obtain ⟨i, hi, rfl⟩ := List.mem_iff_getElem.1 hy
  exact h i hi (by rw [sAt_get hi]; simpa using hx)

theorem l15In_any (A : Option Addr) (n c : Nat) (l : List ByteArray) (x : ByteArray) (w : World) (h : StrsAt w A n l) (hn : n ≤ 9223372036854775807) :
    Calls Try.prog 76 #[.slice A n c, .string x] w fun e w' => e = .returned (.bool (hasS l x)) ∧ w = w' := by
  have HL := Lib.hid h.1.symm
  go_enter Try.func76, Try.ntmps76
  go_wp2
  go_loop [5] (fun i => ∃ k : Nat, k ≤ n ∧ i = .int .i64 k ∧ ∀ j, j < k → sAt l j ≠ x) (fun i => n - (intOf i).toNat)
  case atStart => exact ⟨0, Nat.zero_le _, rfl, fun j hj => absurd hj (by omega)⟩
  case round =>
    obtain ⟨k, hk, rfl, hx⟩ := hrel
    have HX := Lib.hid hx; clear hx
    by_cases hlt : k < n
    · obtain ⟨b, off, rfl, hbl, hc⟩ := h.at_ (by omega)
      have hck := hc k hlt
      clear hc
      by_cases hxe : sAt l k = x
      · have HE := Lib.hid hxe
        have g1 : ((sAt l k).toList == x.toList) = true := by rw [str_beq]; simpa using hxe
        clear hxe
        go_wp2
        go_returns
        exact ⟨ret_bool (hasS_yes (k := k) (by have := HL.out; omega) HE.out).symm, rfl⟩
      · have HE := Lib.hid hxe
        have g1 : ((sAt l k).toList == x.toList) = false := by rw [str_beq]; simpa using hxe
        clear hxe
        go_wp2
        refine ⟨⟨k + 1, by omega, by go_num, ?_⟩, by simp [intOf]; omega⟩
        intro j hj
        by_cases e : j = k
        · subst e; exact HE.out
        · exact HX.out j (by omega)
    · go_wp2
      go_returns
      exact ⟨ret_bool (hasS_no (fun j hj => HX.out j (by have := HL.out; omega))).symm, rfl⟩


end Go.Proofs.Ytbijkdpifnncmaa
/- Contracts of Go's library at this program, laid by the kit's shelf in plain declarations: slices.Sort, slices.Compact. -/
namespace Go.Proofs
open Go.Shelf
def Try.lays190_ren : Go.Shelf.Ren := ⟨fun | 190 => 53 | 125 => 75 | 258 => 74 | 128 => 89 | 129 => 90 | 302 => 80 | 303 => 81 | 304 => 82 | 305 => 83 | 306 => 84 | 307 => 85 | 308 => 86 | 309 => 87 | 310 => 88 | 333 => 93 | 329 => 94 | 330 => 95 | 334 => 96 | 335 => 97 | 336 => 98 | 344 => 101 | n => n, fun | 31 => 31 | 9 => 9 | 3 => 3 | 46 => 81 | 0 => 0 | 51 => 102 | 53 => 104 | 4 => 4 | 183 => 95 | 182 => 94 | 131 => 99 | 5 => 5 | 218 => 106 | 222 => 110 | 228 => 114 | 229 => 85 | n => n, fun | n => n⟩
theorem Try.lays190 : Go.Proofs.Lays.n190 Try.prog Try.lays190_ren := {
  mixed := by kernel_rfl
  f125 := Try.func75.trans (congrArg some (by kernel_rfl))
  f128 := Try.func89.trans (congrArg some (by kernel_rfl))
  f129 := Try.func90.trans (congrArg some (by kernel_rfl))
  f190 := Try.func53.trans (congrArg some (by kernel_rfl))
  f258 := Try.func74.trans (congrArg some (by kernel_rfl))
  f302 := Try.func80.trans (congrArg some (by kernel_rfl))
  f303 := Try.func81.trans (congrArg some (by kernel_rfl))
  f304 := Try.func82.trans (congrArg some (by kernel_rfl))
  f305 := Try.func83.trans (congrArg some (by kernel_rfl))
  f306 := Try.func84.trans (congrArg some (by kernel_rfl))
  f307 := Try.func85.trans (congrArg some (by kernel_rfl))
  f308 := Try.func86.trans (congrArg some (by kernel_rfl))
  f309 := Try.func87.trans (congrArg some (by kernel_rfl))
  f310 := Try.func88.trans (congrArg some (by kernel_rfl))
  f329 := Try.func94.trans (congrArg some (by kernel_rfl))
  f330 := Try.func95.trans (congrArg some (by kernel_rfl))
  f333 := Try.func93.trans (congrArg some (by kernel_rfl))
  f334 := Try.func96.trans (congrArg some (by kernel_rfl))
  f335 := Try.func97.trans (congrArg some (by kernel_rfl))
  f336 := Try.func98.trans (congrArg some (by kernel_rfl))
  f344 := Try.func101.trans (congrArg some (by kernel_rfl))
  t0 := Try.underlying0
  a0 := Try.isAgg0
  z0 := Try.sizeOf0
  v0 := Try.zeroValue0
  t3 := Try.underlying3
  a3 := Try.isAgg3
  z3 := Try.sizeOf3
  v3 := Try.zeroValue3
  t4 := Try.underlying4
  a4 := Try.isAgg4
  z4 := Try.sizeOf4
  v4 := Try.zeroValue4
  t5 := Try.underlying5
  a5 := Try.isAgg5
  z5 := Try.sizeOf5
  v5 := Try.zeroValue5
  t9 := Try.underlying9
  a9 := Try.isAgg9
  z9 := Try.sizeOf9
  v9 := Try.zeroValue9
  t31 := Try.underlying31
  a31 := Try.isAgg31
  z31 := Try.sizeOf31
  v31 := Try.zeroValue31
  t46 := Try.underlying81
  a46 := Try.isAgg81
  z46 := Try.sizeOf81
  v46 := Try.zeroValue81
  t51 := Try.underlying102
  a51 := Try.isAgg102
  z51 := Try.sizeOf102
  v51 := Try.zeroValue102
  t53 := Try.underlying104
  a53 := Try.isAgg104
  z53 := Try.sizeOf104
  v53 := Try.zeroValue104
  t131 := Try.underlying99
  a131 := Try.isAgg99
  z131 := Try.sizeOf99
  v131 := Try.zeroValue99
  t182 := Try.underlying94
  a182 := Try.isAgg94
  z182 := Try.sizeOf94
  v182 := Try.zeroValue94
  t183 := Try.underlying95
  a183 := Try.isAgg95
  z183 := Try.sizeOf95
  v183 := Try.zeroValue95
  t218 := Try.underlying106
  a218 := Try.isAgg106
  z218 := Try.sizeOf106
  v218 := Try.zeroValue106
  t222 := Try.underlying110
  a222 := Try.isAgg110
  z222 := Try.sizeOf110
  v222 := Try.zeroValue110
  t228 := Try.underlying114
  a228 := Try.isAgg114
  z228 := Try.sizeOf114
  v228 := Try.zeroValue114
  t229 := Try.underlying85
  a229 := Try.isAgg85
  z229 := Try.sizeOf85
  v229 := Try.zeroValue85 }
open Go.Sort Go.RowKit in
theorem Try.slices_Sort_string (blk off cap : Nat) (ss : List (List UInt8)) (w : World) (hH : Holds encStr w blk off ss.toArray) (hblk : blk < w.heap.size) (hsz : ss.length < 4611686018427387904) :
    Calls Try.prog 53 #[.slice (some ⟨blk, off, none⟩) ss.length cap] w fun e w' =>
      e = .returned (.tuple #[]) ∧ ∃ n os, w' = grow (putRow encStr (Sort.ahead w n) blk off (ss.mergeSort fun x y => decide (x ≤ y)).toArray) os := Any.slices_Sort_string Try.lays190 blk off cap ss w hH hblk hsz
def Try.lays194_ren : Go.Shelf.Ren := ⟨fun | 194 => 54 | n => n, fun | 31 => 31 | 9 => 9 | 3 => 3 | 4 => 4 | 0 => 0 | n => n, fun | n => n⟩
theorem Try.lays194 : Go.Proofs.Lays.n194 Try.prog Try.lays194_ren := {
  mixed := by kernel_rfl
  f194 := Try.func54.trans (congrArg some (by kernel_rfl))
  t0 := Try.underlying0
  a0 := Try.isAgg0
  z0 := Try.sizeOf0
  v0 := Try.zeroValue0
  t3 := Try.underlying3
  a3 := Try.isAgg3
  z3 := Try.sizeOf3
  v3 := Try.zeroValue3
  t4 := Try.underlying4
  a4 := Try.isAgg4
  z4 := Try.sizeOf4
  v4 := Try.zeroValue4
  t9 := Try.underlying9
  a9 := Try.isAgg9
  z9 := Try.sizeOf9
  v9 := Try.zeroValue9
  t31 := Try.underlying31
  a31 := Try.isAgg31
  z31 := Try.sizeOf31
  v31 := Try.zeroValue31 }
open Go.RowKit Go.Lib Go.Sort in
theorem Try.slices_Compact_string_arr (blk off cap : Nat) (d : Array (List UInt8)) (w : World) (hH : Holds encStr w blk off d) (hsz : d.size ≤ 9223372036854775807) (hcap : d.size ≤ cap) :
    Calls Try.prog 54 #[.slice (some ⟨blk, off, none⟩) d.size cap] w fun e w' => e = .returned (.slice (some ⟨blk, off, none⟩) (compactUpTo d d.size).length cap) ∧ ∃ q, w' = putRow encStr (Sort.ahead w q) blk off (compactUpTo d d.size ++ List.replicate (d.size - (compactUpTo d d.size).length) []).toArray := Any.slices_Compact_string_arr Try.lays194 blk off cap d w hH hsz hcap
open Go.RowKit Go.Lib Go.Sort in
theorem Try.slices_Compact_string (blk off cap : Nat) (zs : List (List UInt8)) (w : World) (hH : Holds encStr w blk off zs.toArray) (hsz : zs.length ≤ 9223372036854775807) (hcap : zs.length ≤ cap) :
    Calls Try.prog 54 #[.slice (some ⟨blk, off, none⟩) zs.length cap] w fun e w' => e = .returned (.slice (some ⟨blk, off, none⟩) (Lib.compact zs).length cap) ∧ ∃ q, w' = putRow encStr (Sort.ahead w q) blk off (Lib.compact zs ++ List.replicate (zs.length - (Lib.compact zs).length) []).toArray := Any.slices_Compact_string Try.lays194 blk off cap zs w hH hsz hcap
open Go.RowKit Go.Lib Go.Sort in
theorem Try.slices_Compact_string_empty (a : Option Addr) (cap : Nat) (w : World) :
    Calls Try.prog 54 #[.slice a 0 cap] w fun e w' => e = .returned (.slice a 0 cap) ∧ w' = w := Any.slices_Compact_string_empty Try.lays194 a cap w
open Go.RowKit Go.Lib Go.Sort in
theorem Try.slices_Compact_string_cells (b off n c : Nat) (Sx : Nat → ByteArray) (w : World) (hbig : n ≤ 9223372036854775807) (hcap : n ≤ c) (hc : ∀ i, i < n → w.cell? ⟨b, off + i, none⟩ = some (.string (Sx i))) (hf : ∀ j, j < n → w.frozen? ⟨b, off + j, none⟩ = false) :
    Calls Try.prog 54 #[.slice (some ⟨b, off, none⟩) n c] w fun e w' => e = .returned (.slice (some ⟨b, off, none⟩) (Lib.compact (Lib.strsOf Sx n)).length c) ∧ ∃ q, w' = (w.drewN q).setCells b off ((Lib.compact (Lib.strsOf Sx n) ++ List.replicate (n - (Lib.compact (Lib.strsOf Sx n)).length) []).map encStr) := Any.slices_Compact_string_cells Try.lays194 b off n c Sx w hbig hcap hc hf
open Go.RowKit Go.Sort in
theorem Try.slices_Sort_string_none (p : Option Addr) (cap : Nat) (w : World) :
    Calls Try.prog 53 #[.slice p 0 cap] w fun e w' => e = .returned (.tuple #[]) ∧ w' = w := Any.slices_Sort_string_none Try.lays190 p cap w
end Go.Proofs
/- slices.Sort and slices.Compact on rows of texts of the call's own. -/
namespace Go.Proofs.Ytbijkdpifnncmaa
open Go.RowKit

def ofL (x : By) : ByteArray := ⟨x.toArray⟩
def toL (s : ByteArray) : By := s.data.toList
theorem ofL_toL (s : ByteArray) : ofL (toL s) = s := by cases s; simp [ofL, toL]
theorem toL_ofL (x : By) : toL (ofL x) = x := by simp [ofL, toL]
theorem encs (l : List By) : l.map encStr = (l.map ofL).map Value.string := by
  rw [List.map_map]; rfl
/-- texts given by their bytes -/
def txs (l : List By) : List ByteArray := l.map ofL
theorem txs_toL (l : List ByteArray) : txs (l.map toL) = l := by unfold txs; rw [List.map_map, show ofL ∘ toL = id from funext ofL_toL, List.map_id]

theorem belowT_grow (w : World) (os : Array Obj) : Below w.heap.size w (Sort.grow w os) :=
  ⟨rfl, rfl, rfl, by show w.heap.size ≤ (w.heap ++ os).size; rw [Array.size_append]; omega, fun k hk => Sort.heap_grow_old w os hk⟩
theorem chT_putRow {enc : By → Value} (w : World) (g q : Nat) (d : Array By) : Ch (fun k => k = g) w (Sort.putRow enc (Sort.ahead w q) g 0 d) :=
  ⟨rfl, rfl, rfl, by simp [Sort.putRow, Sort.mapBlock, Sort.ahead], fun k _ hn => by simp [Sort.putRow, Sort.mapBlock, Sort.ahead, Array.getElem?_modify, Ne.symm hn]⟩

theorem sort_texts (A : Option Addr) (n c : Nat) (l : List By) (lo hi : Nat) (w : World) (h : StrsIn lo hi w A n c (txs l)) (hn : n ≤ 16777216) :
    Calls Try.prog 53 #[.slice A n c] w fun e w' => e = .returned (.tuple #[]) ∧ StrsIn lo hi w' A n c (txs (sortB l)) ∧ Ch (Iv lo hi) w w' := by
  have hl : n = l.length := by have := h.at_.1; simpa [txs] using this
  have hrow := h.row
  unfold txs at hrow
  rw [← encs] at hrow
  rcases A with _ | a
  · have h0 : n = 0 ∧ c = 0 ∧ l.map encStr = [] := by
      rcases own_form hrow.own with ⟨_, h0, hc, hx⟩ | ⟨g, hg, _⟩
      · exact ⟨h0, hc, hx⟩
      · cases hg
    obtain ⟨rfl, rfl, hx⟩ := h0
    have hl0 : l = [] := by simpa using hx
    subst hl0
    refine (Try.slices_Sort_string_none none 0 w).mono fun e w' ⟨h1, h2⟩ => ?_
    subst h2
    exact ⟨h1, by simpa [sortB] using h, Ch.refl _⟩
  · obtain ⟨g, cap, hv, hlo, hg, hnc, hcm, hln, hH⟩ := Lib.holds_of_ownsRow (enc := encStr) hrow.own (by intro hx; injection hx with hx; cases hx)
    injection hv with ha _ hcc
    injection ha with ha
    subst ha hcc
    subst hl
    refine (Try.slices_Sort_string g 0 c l w hH hg (by omega)).mono fun e w' ⟨h1, q, os, h2⟩ => ⟨h1, ?_⟩
    subst h2
    have hrow2 := Lib.ownsRow_putRow (q := q) (ys := sortB l) (k := l.length) hrow.own (sortB_len l) (Nat.le_refl _)
    rw [List.take_of_length_le (by rw [sortB_len]; exact Nat.le_refl _)] at hrow2
    have hb := belowT_grow (Sort.putRow encStr (Sort.ahead w q) g 0 (sortB l).toArray) os
    have hgi := (hrow.blk (g := g) (by simp [BlkOf])).1
    refine ⟨⟨?_⟩, ((chT_putRow w g q _).mono fun k hk => by subst hk; exact hgi).trans (Ch.of_below hb)⟩
    unfold txs
    rw [← encs]
    exact (RowIn.mk hrow2 hrow.lt).keep hb

theorem compact_texts (A : Option Addr) (n c : Nat) (l : List By) (lo hi : Nat) (w : World) (h : StrsIn lo hi w A n c (txs l)) (hn : n ≤ 16777216) :
    Calls Try.prog 54 #[.slice A n c] w fun e w' => ∃ n', e = .returned (.slice A n' c) ∧ StrsIn lo hi w' A n' c (txs (Lib.compact l)) ∧ Ch (Iv lo hi) w w' := by
  have hl : n = l.length := by have := h.at_.1; simpa [txs] using this
  have hrow := h.row
  unfold txs at hrow
  rw [← encs] at hrow
  rcases A with _ | a
  · have h0 : n = 0 ∧ c = 0 ∧ l.map encStr = [] := by
      rcases own_form hrow.own with ⟨_, h0, hc, hx⟩ | ⟨g, hg, _⟩
      · exact ⟨h0, hc, hx⟩
      · cases hg
    obtain ⟨rfl, rfl, hx⟩ := h0
    have hl0 : l = [] := by simpa using hx
    subst hl0
    refine (Try.slices_Compact_string_empty none 0 w).mono fun e w' ⟨h1, h2⟩ => ?_
    subst h2
    exact ⟨0, h1, h, Ch.refl _⟩
  · obtain ⟨g, cap, hv, hlo, hg, hnc, hcm, hln, hH⟩ := Lib.holds_of_ownsRow (enc := encStr) hrow.own (by intro hx; injection hx with hx; cases hx)
    injection hv with ha _ hcc
    injection ha with ha
    subst ha hcc
    subst hl
    have hcl := Lib.compact_length_le l
    refine (Try.slices_Compact_string g 0 c l w hH (by omega) hnc).mono fun e w' ⟨h1, q, h2⟩ => ⟨_, h1, ?_⟩
    subst h2
    have hrow2 := Lib.ownsRow_putRow (q := q) (ys := Lib.compact l ++ List.replicate (l.length - (Lib.compact l).length) []) (k := (Lib.compact l).length) hrow.own (by simp; omega) hcl
    rw [List.take_left' rfl] at hrow2
    have hgi := (hrow.blk (g := g) (by simp [BlkOf])).1
    refine ⟨⟨?_⟩, (chT_putRow w g q _).mono fun k hk => by subst hk; exact hgi⟩
    unfold txs
    rw [← encs]
    exact RowIn.mk hrow2 hrow.lt
end Go.Proofs.Ytbijkdpifnncmaa
/- Contract of the reference's l15Put. -/
namespace Go.Proofs.Ytbijkdpifnncmaa
open Go.RowKit
theorem strsLen {w : World} {A : Option Addr} {n : Nat} {l : List ByteArray} (h : StrsAt w A n l) : n = l.length := h.1
attribute [local irreducible] StrsAt

/-- the put on its way: is x put? what is out? -/
def stStep (x : By) (s : Bool × List By) (y : By) : Bool × List By := if s.1 = false ∧ ltB x y then (true, s.2 ++ [x, y]) else (s.1, s.2 ++ [y])
def stT (x : By) (p : Bool) (l : List By) : Bool × List By := l.foldl (stStep x) (p, [])
def stEnd (x : By) (s : Bool × List By) : List By := if s.1 = true then s.2 else s.2 ++ [x]
theorem stT_nil (x : By) (p : Bool) : stT x p [] = (p, []) := rfl
theorem stT_snoc (x : By) (p : Bool) (l : List By) (y : By) : stT x p (l ++ [y]) = stStep x (stT x p l) y := by simp [stT]
theorem st_true (x : By) (l o : List By) : l.foldl (stStep x) (true, o) = (true, o ++ l) := by
  induction l generalizing o with
  | nil => simp
  | cons y l ih => rw [List.foldl_cons]; unfold stStep; simp only [Bool.true_eq_false, false_and, if_false]; rw [show (fun s y => if s.1 = false ∧ ltB x y then (true, s.2 ++ [x, y]) else (s.1, s.2 ++ [y])) = stStep x from rfl, ih]; simp
theorem st_false (x : By) (l o : List By) : stEnd x (l.foldl (stStep x) (false, o)) = o ++ insB x l := by
  induction l generalizing o with
  | nil => simp [stEnd, insB]
  | cons y l ih =>
    rw [List.foldl_cons, insB]
    by_cases h : ltB x y
    · rw [show stStep x (false, o) y = (true, o ++ [x, y]) by simp [stStep, h], st_true, if_pos h]; simp [stEnd]
    · rw [show stStep x (false, o) y = (false, o ++ [y]) by simp [stStep, h], ih, if_neg h]; simp
theorem st_put (x : By) (l : List By) : stEnd x (stT x (decide (x ∈ l)) l) = putB l x := by
  unfold putB
  by_cases h : x ∈ l
  · rw [if_pos h, show decide (x ∈ l) = true by simpa using h, stT, st_true]; simp [stEnd]
  · rw [if_neg h, show decide (x ∈ l) = false by simpa using h, stT, st_false]; simp
theorem stStep_len (x : By) (s : Bool × List By) (y : By) : (stStep x s y).2.length + (if s.1 = true then 1 else 0) ≤ s.2.length + 1 + (if (stStep x s y).1 = true then 1 else 0) := by
  unfold stStep
  split
  · rename_i h; simp [h.1]
  · simp
theorem stT_len (x : By) (p : Bool) (l : List By) : (stT x p l).2.length ≤ l.length + (if (stT x p l).1 = true then 1 else 0) := by
  have : ∀ (l : List By) (s : Bool × List By), (l.foldl (stStep x) s).2.length + (if s.1 = true then 1 else 0) ≤ s.2.length + l.length + (if (l.foldl (stStep x) s).1 = true then 1 else 0) := by
    intro l
    induction l with
    | nil => intro s; simp only [List.foldl_nil, List.length_nil, Nat.add_zero]; exact Nat.le_refl _
    | cons y l ih => intro s; rw [List.foldl_cons]; have h1 := ih (stStep x s y); have h2 := stStep_len x s y; rw [List.length_cons]; omega
  have := this l (p, [])
  simp only [List.length_nil] at this
  unfold stT; omega

theorem txs_at {bs : List By} {k : Nat} (h : k < bs.length) : sAt (txs bs) k = ofL bs[k] := by simp [sAt, txs, h]
theorem txs_len (bs : List By) : (txs bs).length = bs.length := by simp [txs]
theorem txs_app (a b : List By) : txs (a ++ b) = txs a ++ txs b := by simp [txs]
theorem ofL_list (x : By) : (ofL x).toList = x := by rw [Lib.toList_data]; simp [ofL]
theorem ofL_inj {x y : By} (h : ofL x = ofL y) : x = y := by have := congrArg toL h; rwa [toL_ofL, toL_ofL] at this
theorem hasS_txs (bs : List By) (x : By) : hasS (txs bs) (ofL x) = decide (x ∈ bs) := by
  unfold hasS txs
  rw [Bool.eq_iff_iff, List.any_eq_true, decide_eq_true_eq]
  constructor
  · rintro ⟨y, hy, h⟩
    obtain ⟨z, hz, rfl⟩ := List.mem_map.1 hy
    rw [← ofL_inj (of_decide_eq_true h)]; exact hz
  · intro h
    exact ⟨ofL x, List.mem_map.2 ⟨x, h, rfl⟩, by simp⟩
/-- the reference's comparison: is y greater than x? -/
theorem gtr_iff (x y : By) : (Op.bytesLess (ofL y).toList (ofL x).toList || (ofL y).toList == (ofL x).toList) = !decide (ltB x y) := by
  rw [ofL_list, ofL_list, Bool.eq_iff_iff]
  simp only [Bool.or_eq_true, beq_iff_eq, Bool.not_eq_true', decide_eq_false_iff_not]
  constructor
  · rintro (h | h)
    · exact fun hh => ltB_irr _ (ltB_trans h hh)
    · subst h; exact ltB_irr _
  · intro h
    by_cases h2 : ltB y x
    · exact .inl h2
    · exact .inr (ltB_tri h2 h)

theorem own_str (w : World) {base : Nat} (hb : base ≤ w.heap.size) : (w.alloc (.cells #[] 9)).ownsRow base 9 1 (.slice (some ⟨w.heap.size, 0, none⟩) 0 0) 0 ((txs []).map Value.string) := own_empty w _ _ hb

set_option maxRecDepth 4000 in
set_option maxHeartbeats 1000000 in
theorem l15Put_any (A : Option Addr) (n c : Nat) (bs : List By) (x : By) (w : World) (h : StrsAt w A n (txs bs)) (hn : n ≤ 16777215) :
    Calls Try.prog 56 #[.slice A n c, .string (ofL x)] w (StrsR (txs (putB bs x)) w) := by
  have HL := Lib.hid (show n = bs.length by have := strsLen h; rwa [txs_len] at this)
  have al0 := (Below.refl w.heap.size w).alloc (Nat.le_refl _) (.cells #[] 9)
  have HP := Lib.hid (st_put x bs)
  have HS := Lib.hid (hasS_txs bs x)
  obtain ⟨p0, hp0⟩ : ∃ p, decide (x ∈ bs) = p := ⟨_, rfl⟩
  have HP0 := Lib.hid hp0
  clear hp0
  go_enter Try.func56, Try.ntmps56
  go_wp2_with fail
  refine (l15In_any _ _ _ _ _ _ (h.keep al0) (by omega)).mono ?_
  rintro e w1 ⟨rfl, rfl⟩
  rw [HS.out, HP0.out]
  go_wp2
  go_loopw [5, 6, 7] (fun o q i wr => ∃ (k : Nat) (O : Option Addr) (cap : Nat), k ≤ n ∧ i = .int .i64 k ∧ q = .bool (stT x p0 (bs.take k)).1 ∧ o = .slice O (stT x p0 (bs.take k)).2.length cap ∧
    wr.ownsRow w.heap.size 9 1 (.slice O (stT x p0 (bs.take k)).2.length cap) (stT x p0 (bs.take k)).2.length ((txs (stT x p0 (bs.take k)).2).map Value.string) ∧ Below w.heap.size w wr) (fun _ _ i _ => n - (intOf i).toNat)
  case atStart => exact ⟨0, _, 0, Nat.zero_le _, rfl, rfl, rfl, own_str w (Nat.le_refl _), al0⟩
  case round =>
    obtain ⟨k, O, cap, hk, rfl, rfl, rfl, hown, hb⟩ := hrel
    have hbl := stT_len x p0 (bs.take k)
    have hbl2 : (stT x p0 (bs.take k)).2.length ≤ k + 1 := by rw [List.length_take] at hbl; split at hbl <;> omega
    clear hbl
    by_cases hlt : k < n
    · have hkl : k < bs.length := by have := HL.out; omega
      obtain ⟨b, off, rfl, hbb, hc⟩ := h.at_ (by omega)
      have hck := (hb.cell (p := ⟨b, off + k, none⟩) hbb).trans (hc k hlt)
      rw [txs_at hkl] at hck
      clear hc
      have HT := Lib.hid (show stT x p0 (bs.take (k + 1)) = stStep x (stT x p0 (bs.take k)) bs[k] by rw [List.take_succ_eq_append_getElem hkl, stT_snoc])
      have hG := gtr_iff x bs[k]
      generalize bs[k] = y at *
      generalize hs : stT x p0 (bs.take k) = s at *
      obtain ⟨sp, so⟩ := s
      have hz := hb.size
      clear hs
      simp only at hown hbl2 ⊢
      cases sp
      · by_cases hd : ltB x y
        · rw [show decide (ltB x y) = true by simpa using hd] at hG
          have HE := Lib.hid (show stStep x (false, so) y = (true, so ++ [x] ++ [y]) by simp [stStep, hd])
          clear hd
          go_wp2_with (first | ((at_builtin; refine wpList_app1 (P := Try.prog) wr rfl (.tmp 28) (.tmp 30) 31 rfl w.heap.size 9 _ 1 16 Try.underlying31 infoString rfl (by omega) (.slice O _ cap) _ _ rfl hown #[.string (ofL x)] rfl rfl (by simp [Value.oneCell']) (by unfold maxLen; omega) (by omega) hz ?_; intro O2 cap2 w3 hown3 hg3 hb3 _); have hck3 := (hb3.cell (p := ⟨b, off + k, none⟩) hbb).trans hck; have hz3 := Nat.le_trans hz hb3.size) | (at_builtin; refine wpList_app1 (P := Try.prog) w3 rfl (.tmp 32) (.tmp 37) 31 rfl w.heap.size 9 _ 1 16 Try.underlying31 infoString rfl (by omega) (.slice O2 _ cap2) _ _ rfl hown3 #[.string (ofL y)] rfl rfl (by simp [Value.oneCell']) (by unfold maxLen; omega) (by omega) hz3 ?_; intro O4 cap4 w4 hown4 hg4 hb4 _))
          refine ⟨⟨k + 1, O4, cap4, by omega, by go_num, by rw [HT.out, HE.out], by rw [HT.out, HE.out]; simp, ?_, (hb.trans hb3).trans hb4⟩, by simp [intOf]; omega⟩
          rw [HT.out, HE.out]
          simpa [txs_app, txs] using hown4
        · rw [show decide (ltB x y) = false by simpa using hd] at hG
          have HE := Lib.hid (show stStep x (false, so) y = (false, so ++ [y]) by simp [stStep, hd])
          clear hd
          go_wp2_with (at_builtin; refine wpList_app1 (P := Try.prog) wr rfl (.tmp 32) (.tmp 37) 31 rfl w.heap.size 9 _ 1 16 Try.underlying31 infoString rfl (by omega) (.slice O _ cap) _ _ rfl hown #[.string (ofL y)] rfl rfl (by simp [Value.oneCell']) (by unfold maxLen; omega) (by omega) hz ?_; intro O4 cap4 w4 hown4 hg4 hb4 _)
          refine ⟨⟨k + 1, O4, cap4, by omega, by go_num, by rw [HT.out, HE.out], by rw [HT.out, HE.out]; simp, ?_, hb.trans hb4⟩, by simp [intOf]; omega⟩
          rw [HT.out, HE.out]
          simpa [txs_app, txs] using hown4
      · have HE := Lib.hid (show stStep x (true, so) y = (true, so ++ [y]) by simp [stStep])
        clear hG
        go_wp2_with (at_builtin; refine wpList_app1 (P := Try.prog) wr rfl (.tmp 32) (.tmp 37) 31 rfl w.heap.size 9 _ 1 16 Try.underlying31 infoString rfl (by omega) (.slice O _ cap) _ _ rfl hown #[.string (ofL y)] rfl rfl (by simp [Value.oneCell']) (by unfold maxLen; omega) (by omega) hz ?_; intro O4 cap4 w4 hown4 hg4 hb4 _)
        refine ⟨⟨k + 1, O4, cap4, by omega, by go_num, by rw [HT.out, HE.out], by rw [HT.out, HE.out]; simp, ?_, hb.trans hb4⟩, by simp [intOf]; omega⟩
        rw [HT.out, HE.out]
        simpa [txs_app, txs] using hown4
    · have ht : bs.take k = bs := List.take_of_length_le (by have := HL.out; omega)
      rw [ht] at hown hbl2 ⊢
      have HP2 := Lib.hid (HP.out)
      rw [HP0.out] at HP2
      generalize stT x p0 bs = s at *
      obtain ⟨sp, so⟩ := s
      have hz := hb.size
      have HE := Lib.hid (show stEnd x (sp, so) = putB bs x from HP2.out)
      clear HP2
      simp only at hown hbl2 ⊢
      cases sp
      · go_wp2_with (at_builtin; refine wpList_app1 (P := Try.prog) wr rfl (.tmp 41) (.tmp 43) 31 rfl w.heap.size 9 _ 1 16 Try.underlying31 infoString rfl (by omega) (.slice O _ cap) _ _ rfl hown #[.string (ofL x)] rfl rfl (by simp [Value.oneCell']) (by unfold maxLen; omega) (by omega) hz ?_; intro O4 cap4 w4 hown4 hg4 hb4 _)
        go_returns
        refine ⟨O4, _, cap4, rfl, StrsIn.of_own ?_, hb.trans hb4⟩
        rw [← HE.out]
        simpa [stEnd, txs_app, txs] using hown4
      · go_wp2
        go_returns
        refine ⟨O, _, cap, rfl, StrsIn.of_own ?_, hb⟩
        rw [← HE.out]
        simpa [stEnd] using hown
end Go.Proofs.Ytbijkdpifnncmaa
/- Contracts of TreeList, both sides. -/
namespace Go.Proofs.Ytbijkdpifnncmaa
open Go.RowKit
attribute [local irreducible] StrsAt treeOkB underB beginsB splitS

/-- where the name in a directory begins -/
def offOf (q : ByteArray) : Nat := if q.size = 0 then 0 else q.size + 1
def selB (q x : ByteArray) : Bool := if q.size = 0 then true else underB x q
def nameOf (q x : ByteArray) : ByteArray := if 1 < (splitS (x.extract (offOf q) x.size) 47).length then sAt (splitS (x.extract (offOf q) x.size) 47) 0 ++ ⟨#[47]⟩ else sAt (splitS (x.extract (offOf q) x.size) 47) 0
def nms (l : List Ent) (q : ByteArray) : List ByteArray := (l.filter (fun e => selB q e.p)).map (fun e => nameOf q e.p)
def treeList (l : List Ent) (q : ByteArray) : List ByteArray := if treeOkB l = true then txs (putsB ((nms l q).map toL)) else []
theorem nms_len (l : List Ent) (q : ByteArray) : (nms l q).length ≤ l.length := by unfold nms; rw [List.length_map]; exact List.length_filter_le _ _
theorem nms_take {l : List Ent} {q : ByteArray} {k : Nat} (hk : k < l.length) : nms (l.take (k + 1)) q = nms (l.take k) q ++ (if selB q (enAt l k).p = true then [nameOf q (enAt l k).p] else []) := by
  unfold nms
  rw [filter_take hk, List.map_append]
  by_cases h : selB q (enAt l k).p = true <;> simp [h]
theorem name_eq (q x : ByteArray) : nameOf q x = if 1 < (splitS (x.extract (offOf q) x.size) 47).length then sAt (splitS (x.extract (offOf q) x.size) 47) 0 ++ ⟨#[47]⟩ else sAt (splitS (x.extract (offOf q) x.size) 47) 0 := rfl
theorem ext_size (x : ByteArray) (i : Nat) : (x.extract i x.size).size ≤ x.size := by rw [ByteArray.size_extract]; omega
theorem ext_all (x : ByteArray) : x.extract 0 x.size = x := by
  apply ba_ext
  rw [ext_list, List.take_of_length_le (by rw [Array.length_toList]; exact Nat.le_refl _)]
section
attribute [local semireducible] underB beginsB treeOkB
theorem under_size {x q : ByteArray} (h : underB x q = true) : q.size + 1 ≤ x.size := by
  unfold underB at h; simp only [Bool.and_eq_true, decide_eq_true_eq] at h; omega
theorem begins_empty {x q : ByteArray} (h : q.size = 0) : beginsB x q = true := by
  unfold beginsB
  simp only [Bool.and_eq_true, decide_eq_true_eq]
  refine ⟨by omega, ?_⟩
  apply ba_ext
  rw [ext_list, h]
  have : q.data.toList.length = 0 := by rw [Array.length_toList]; exact h
  simp [List.length_eq_zero_iff.1 this]
theorem treeOk_len {l : List Ent} (h : treeOkB l = true) : l.length ≤ 12 := by
  unfold treeOkB at h; simp only [Bool.and_eq_true, decide_eq_true_eq] at h; exact h.1
end
theorem sel_size {q x : ByteArray} (h : selB q x = true) : offOf q ≤ x.size := by
  unfold selB at h; unfold offOf
  split at h
  · rename_i h0; rw [if_pos h0]; omega
  · rename_i h0; rw [if_neg h0]; exact under_size h
theorem name_size (q x : ByteArray) : (nameOf q x).size ≤ x.size + 1 := by
  have h1 := sAt_splitS_size (x.extract (offOf q) x.size) 47 0
  have h2 := ext_size x (offOf q)
  unfold nameOf; split
  · rw [ByteArray.size_append]; have : (⟨#[47]⟩ : ByteArray).size = 1 := rfl; omega
  · omega
theorem strsSz_le {l : List ByteArray} {m : Nat} (h : ∀ x ∈ l, x.size ≤ m) : strsSz l ≤ l.length * (m + 1) := by
  induction l with
  | nil => simp [strsSz]
  | cons x l ih =>
    rw [strsSz_cons, List.length_cons, Nat.add_mul]
    have := ih (fun y hy => h y (List.mem_cons_of_mem _ hy))
    have := h x (List.mem_cons_self ..)
    omega
theorem treeList_sz (l : List Ent) (q : ByteArray) (hs : entsSz l ≤ 1048576) : strsSz (treeList l q) ≤ 16777216 := by
  unfold treeList
  split
  · rename_i hok
    have hl := treeOk_len hok
    have hx : ∀ x ∈ txs (putsB ((nms l q).map toL)), x.size ≤ 1048577 := by
      intro x hx
      obtain ⟨y, hy, rfl⟩ := List.mem_map.1 hx
      obtain ⟨z, hz, rfl⟩ := List.mem_map.1 (putsB_mem.1 hy)
      rw [ofL_toL]
      obtain ⟨e, he, rfl⟩ := List.mem_map.1 hz
      have hm := (List.mem_filter.1 he).1
      obtain ⟨i, hi, hie⟩ := List.mem_iff_getElem.1 hm
      have h1 := ents_el hs i
      rw [enAt_get hi, hie] at h1
      have h2 := name_size q e.p
      unfold entSz at h1
      omega
    have h1 := strsSz_le hx
    have h2 : (txs (putsB ((nms l q).map toL))).length ≤ 12 := by
      rw [txs_len]
      have a1 := putsB_len ((nms l q).map toL)
      have a2 := nms_len l q
      rw [List.length_map] at a1
      omega
    have h3 : (txs (putsB ((nms l q).map toL))).length * (1048577 + 1) ≤ 12 * (1048577 + 1) := Nat.mul_le_mul_right _ h2
    omega
  · simp [strsSz]

set_option maxRecDepth 8000 in
set_option maxHeartbeats 2000000 in
theorem treeList_impl (A : Option Addr) (n c : Nat) (l : List Ent) (q : ByteArray) (w : World) (h : EntsAt w A n l) (hs : entsSz l ≤ 1048576) (hq : q.size ≤ 1048576) :
    Calls Try.prog 21 #[.slice A n c, .string q] w (StrsR (treeList l q) w) := by
  have HL := Lib.hid h.1
  have hn := ents_n h hs
  have hel := ents_el hs
  have NZ := Lib.hid (show nms (l.take 0) q = [] by simp [nms])
  obtain ⟨t, ht⟩ : ∃ t, treeOkB l = t := ⟨_, rfl⟩
  have HQ := Lib.hid ht
  cases t
  · have HR := Lib.hid (show treeList l q = [] by simp [treeList, ht])
    clear ht
    rw [HR.out]
    go_enter Try.func21, Try.ntmps21
    go_wp2_with fail
    refine (treeOk_impl _ _ _ l _ h hs).mono ?_
    rintro e w1 ⟨rfl, hb1⟩; rw [HQ.out]
    go_wp2
    go_returns
    exact ⟨none, 0, 0, rfl, StrsIn.nil, hb1⟩
  · have HR := Lib.hid (show treeList l q = txs (putsB ((nms l q).map toL)) by simp [treeList, ht])
    clear ht
    by_cases hq0 : q.size = 0
    · have g0 := str_nil (s := q) (by omega)
      have HDS := Lib.hid (show q.size ≤ 1048577 by omega)
      have HQ0 := Lib.hid hq0
      clear hq0
      go_enter Try.func21, Try.ntmps21
      go_wp2_with fail
      refine (treeOk_impl _ _ _ l _ h hs).mono ?_
      rintro e w1 ⟨rfl, hb1⟩; rw [HQ.out]
      have hz1 := hb1.size
      go_wp2
      go_loopw [6, 22] (fun o i wr => ∃ (k : Nat) (O : Option Addr) (cap : Nat), k ≤ n ∧ i = .int .i64 k ∧ o = .slice O (nms (l.take k) q).length cap ∧
        wr.ownsRow w.heap.size 9 1 (.slice O (nms (l.take k) q).length cap) (nms (l.take k) q).length ((nms (l.take k) q).map Value.string) ∧ Below w.heap.size w wr) (fun _ i _ => n - (intOf i).toNat)
      case atStart => exact ⟨0, _, 0, Nat.zero_le _, rfl, by rw [NZ.out]; rfl, by rw [NZ.out]; exact (own_str w1 hz1), hb1.alloc hz1 _⟩
      case round =>
        obtain ⟨k, O, cap, hk, rfl, rfl, hown, hb⟩ := hrel
        have hml := nms_len (l.take k) q
        rw [List.length_take] at hml
        have hz := hb.size
        by_cases hlt : k < n
        · have hkl : k < l.length := by have := HL.out; omega
          obtain ⟨b, off, rfl, hbb, hc⟩ := h.at_ (by omega)
          obtain ⟨hp0, A', n', c', hc0, _, _⟩ := hc k hlt
          have hpk := (hb.cell (p := ⟨b, off + k * 2, none⟩) hbb).trans hp0
          have hck := (hb.cell (p := ⟨b, off + k * 2 + 1, none⟩) hbb).trans hc0
          clear hc hc0 hp0
          have hek := hel k
          unfold entSz at hek
          have HN := Lib.hid (nms_take (q := q) hkl)
          have HSEL := Lib.hid (show beginsB (enAt l k).p q = selB q (enAt l k).p by rw [begins_empty HQ0.out]; simp [selB, HQ0.out])
          generalize (enAt l k).p = x at *
          have hxs : x.size ≤ 1048576 := by omega
          clear hek
          obtain ⟨sl, hsl⟩ : ∃ s, selB q x = s := ⟨_, rfl⟩
          have HSL := Lib.hid hsl
          have HTO := Lib.hid (fun (h : selB q x = true) => show q.size ≤ x.size by rw [HQ0.out]; exact Nat.zero_le _)
          clear hsl
          have alE := (Below.refl wr.heap.size wr).alloc (Nat.le_refl _) (.cells #[.string x, .slice A' n' c'] 33)
          cases sl
          · go_wp2_with fail
            refine (begins_any x _ _ (by omega) (by have := HDS.out; omega)).mono ?_
            rintro e w2 ⟨rfl, rfl⟩
            rw [HSEL.out, HSL.out]
            go_wp2
            refine ⟨⟨k + 1, O, cap, by omega, by go_num, by rw [HN.out, HSL.out]; simp, ?_, bthen hb alE⟩, by simp [intOf]; omega⟩
            rw [HN.out, HSL.out]
            simpa using ((RowIn.of_own hown).keep alE).own
          · have hto := HTO.out HSL.out
            go_wp2_with fail
            refine (begins_any x _ _ (by omega) (by have := HDS.out; omega)).mono ?_
            rintro e w2 ⟨rfl, rfl⟩
            rw [HSEL.out, HSL.out]
            have hz2 := alE.size
            have hhs : (q.size) ≤ x.size := by omega
            go_wp2_with fail
            refine (split_impl (x.extract (q.size) x.size) 47 _ (by have := ext_size x (q.size); omega)).mono ?_
            rintro e w3 ⟨A3, n3, c3, rfl, hown3, hb3⟩
            have hb3r := bthen alE hb3
            have hl3 := splitS_len (x.extract (q.size) x.size) 47
            have hn3 : n3 = (splitS (x.extract (q.size) x.size) 47).length := by have := hown3.1; simpa using this.symm
            have HN3 := Lib.hid hn3
            have hn31 : 1 ≤ n3 := by omega
            have hn32 : n3 ≤ 1048577 := by have := ext_size x (q.size); omega
            obtain ⟨g3, rfl⟩ := (RowIn.of_own hown3).head (by omega)
            have hc3 := hown3.cellAt 0 (by omega)
            have hw0 := sAt_splitS_size (x.extract (q.size) x.size) 47 0
            have hx0 := ext_size x (q.size)
            rw [show ((splitS (x.extract (q.size) x.size) 47).map Value.string)[0]? = some (.string (sAt (splitS (x.extract (q.size) x.size) 47) 0)) by
              rw [List.getElem?_map, sAt_get (show 0 < (splitS (x.extract (q.size) x.size) 47).length by omega), List.getElem?_eq_getElem (show 0 < (splitS (x.extract (q.size) x.size) 47).length by omega)]; rfl] at hc3
            have hownr := ((RowIn.of_own hown).keep hb3r).own
            have hzr := Nat.le_trans hz hb3r.size
            have HNM := Lib.hid (name_eq q x)
            rw [show offOf q = q.size by simp [offOf, HQ0.out]] at HNM
            clear hl3 hn3 hown3
            generalize sAt (splitS (x.extract (q.size) x.size) 47) 0 = w0 at *
            by_cases h1 : 1 < n3
            · have HNX := Lib.hid (show nameOf q x = w0 ++ ⟨#[47]⟩ by rw [HNM.out, if_pos (by have := HN3.out; omega)])
              have hbs : w0.size + 1 ≤ 9223372036854775807 := by omega
              have h1z : (1 : Int) < (n3 : Int) := by omega
              have hmb : (nms (l.take k) q).length ≤ 1048576 := by omega
              go_wp2_with (at_builtin; refine wpList_app1 (P := Try.prog) w3 rfl (.tmp 45) (.tmp 47) 31 rfl w.heap.size 9 _ 1 16 Try.underlying31 infoString rfl (by omega) (.slice O _ cap) _ _ rfl hownr _ rfl rfl (by simp [Value.oneCell']) (by unfold maxLen; omega) (by omega) hzr ?_; intro O4 cap4 w4 hown4 hg4 hb4 _)
              refine ⟨⟨k + 1, O4, cap4, by omega, by go_num, by rw [HN.out, HSL.out]; simp, ?_, (bthen hb hb3r).trans hb4⟩, by simp [intOf]; omega⟩
              rw [HN.out, HSL.out]
              simpa [HNX.out] using hown4
            · have HNX := Lib.hid (show nameOf q x = w0 by rw [HNM.out, if_neg (by have := HN3.out; omega)])
              have h1z : ¬ (1 : Int) < (n3 : Int) := by omega
              have hmb : (nms (l.take k) q).length ≤ 1048576 := by omega
              go_wp2_with (at_builtin; refine wpList_app1 (P := Try.prog) w3 rfl (.tmp 45) (.tmp 47) 31 rfl w.heap.size 9 _ 1 16 Try.underlying31 infoString rfl (by omega) (.slice O _ cap) _ _ rfl hownr #[.string w0] rfl rfl (by simp [Value.oneCell']) (by unfold maxLen; omega) (by omega) hzr ?_; intro O4 cap4 w4 hown4 hg4 hb4 _)
              refine ⟨⟨k + 1, O4, cap4, by omega, by go_num, by rw [HN.out, HSL.out]; simp, ?_, (bthen hb hb3r).trans hb4⟩, by simp [intOf]; omega⟩
              rw [HN.out, HSL.out]
              simpa [HNX.out] using hown4
        · have ht : l.take k = l := List.take_of_length_le (by have := HL.out; omega)
          rw [ht] at hown hml ⊢
          have hin : StrsIn w.heap.size wr.heap.size wr O (nms l q).length cap (txs ((nms l q).map toL)) := by rw [txs_toL]; exact StrsIn.of_own hown
          have hle : (nms l q).length ≤ 16777216 := by have := nms_len l q; have := HL.out; omega
          go_wp2_with fail
          refine (sort_texts _ _ _ _ _ _ _ hin hle).mono ?_
          rintro e w2 ⟨rfl, hin2, hch2⟩
          go_wp2_with fail
          refine (compact_texts _ _ _ _ _ _ _ hin2 hle).mono ?_
          rintro e w3 ⟨n3, rfl, hin3, hch3⟩
          rw [compact_sort] at hin3
          have hcc := hch2.trans hch3
          go_wp2
          go_returns
          refine ⟨O, n3, cap, rfl, ?_, hb.trans (hcc.below (fun k hk => by unfold Iv at hk; omega) hz)⟩
          rw [HR.out]
          exact hin3.wide (Nat.le_refl _) hcc.size
    · have g0 := str_ne (s := q) (by omega)
      have hss := slash_size q
      have happ : ¬ 9223372036854775807 < q.size + 1 := by omega
      have HDS := Lib.hid (show (slash q).size ≤ 1048577 by omega)
      go_enter Try.func21, Try.ntmps21
      go_wp2_with fail
      refine (treeOk_impl _ _ _ l _ h hs).mono ?_
      rintro e w1 ⟨rfl, hb1⟩; rw [HQ.out]
      have hz1 := hb1.size
      go_wp2
      go_loopw [6, 22] (fun o i wr => ∃ (k : Nat) (O : Option Addr) (cap : Nat), k ≤ n ∧ i = .int .i64 k ∧ o = .slice O (nms (l.take k) q).length cap ∧
        wr.ownsRow w.heap.size 9 1 (.slice O (nms (l.take k) q).length cap) (nms (l.take k) q).length ((nms (l.take k) q).map Value.string) ∧ Below w.heap.size w wr) (fun _ i _ => n - (intOf i).toNat)
      case atStart => exact ⟨0, _, 0, Nat.zero_le _, rfl, by rw [NZ.out]; rfl, by rw [NZ.out]; exact (own_str w1 hz1), hb1.alloc hz1 _⟩
      case round =>
        obtain ⟨k, O, cap, hk, rfl, rfl, hown, hb⟩ := hrel
        have hml := nms_len (l.take k) q
        rw [List.length_take] at hml
        have hz := hb.size
        by_cases hlt : k < n
        · have hkl : k < l.length := by have := HL.out; omega
          obtain ⟨b, off, rfl, hbb, hc⟩ := h.at_ (by omega)
          obtain ⟨hp0, A', n', c', hc0, _, _⟩ := hc k hlt
          have hpk := (hb.cell (p := ⟨b, off + k * 2, none⟩) hbb).trans hp0
          have hck := (hb.cell (p := ⟨b, off + k * 2 + 1, none⟩) hbb).trans hc0
          clear hc hc0 hp0
          have hek := hel k
          unfold entSz at hek
          have HN := Lib.hid (nms_take (q := q) hkl)
          have HSEL := Lib.hid (show beginsB (enAt l k).p (slash q) = selB q (enAt l k).p by rw [begins_slash]; simp [selB, hq0])
          generalize (enAt l k).p = x at *
          have hxs : x.size ≤ 1048576 := by omega
          clear hek
          obtain ⟨sl, hsl⟩ : ∃ s, selB q x = s := ⟨_, rfl⟩
          have HSL := Lib.hid hsl
          have HTO := Lib.hid (fun (h : selB q x = true) => show q.size + 1 ≤ x.size by have := sel_size h; simp [offOf, hq0] at this; omega)
          clear hsl
          have alE := (Below.refl wr.heap.size wr).alloc (Nat.le_refl _) (.cells #[.string x, .slice A' n' c'] 33)
          cases sl
          · go_wp2_with fail
            refine (begins_any x (slash q) _ (by omega) (by have := HDS.out; omega)).mono ?_
            rintro e w2 ⟨rfl, rfl⟩
            rw [HSEL.out, HSL.out]
            go_wp2
            refine ⟨⟨k + 1, O, cap, by omega, by go_num, by rw [HN.out, HSL.out]; simp, ?_, bthen hb alE⟩, by simp [intOf]; omega⟩
            rw [HN.out, HSL.out]
            simpa using ((RowIn.of_own hown).keep alE).own
          · have hto := HTO.out HSL.out
            go_wp2_with fail
            refine (begins_any x (slash q) _ (by omega) (by have := HDS.out; omega)).mono ?_
            rintro e w2 ⟨rfl, rfl⟩
            rw [HSEL.out, HSL.out]
            have hz2 := alE.size
            have hhs : (q.size + 1) ≤ x.size := by omega
            go_wp2_with fail
            refine (split_impl (x.extract (q.size + 1) x.size) 47 _ (by have := ext_size x (q.size + 1); omega)).mono ?_
            rintro e w3 ⟨A3, n3, c3, rfl, hown3, hb3⟩
            have hb3r := bthen alE hb3
            have hl3 := splitS_len (x.extract (q.size + 1) x.size) 47
            have hn3 : n3 = (splitS (x.extract (q.size + 1) x.size) 47).length := by have := hown3.1; simpa using this.symm
            have HN3 := Lib.hid hn3
            have hn31 : 1 ≤ n3 := by omega
            have hn32 : n3 ≤ 1048577 := by have := ext_size x (q.size + 1); omega
            obtain ⟨g3, rfl⟩ := (RowIn.of_own hown3).head (by omega)
            have hc3 := hown3.cellAt 0 (by omega)
            have hw0 := sAt_splitS_size (x.extract (q.size + 1) x.size) 47 0
            have hx0 := ext_size x (q.size + 1)
            rw [show ((splitS (x.extract (q.size + 1) x.size) 47).map Value.string)[0]? = some (.string (sAt (splitS (x.extract (q.size + 1) x.size) 47) 0)) by
              rw [List.getElem?_map, sAt_get (show 0 < (splitS (x.extract (q.size + 1) x.size) 47).length by omega), List.getElem?_eq_getElem (show 0 < (splitS (x.extract (q.size + 1) x.size) 47).length by omega)]; rfl] at hc3
            have hownr := ((RowIn.of_own hown).keep hb3r).own
            have hzr := Nat.le_trans hz hb3r.size
            have HNM := Lib.hid (name_eq q x)
            rw [show offOf q = q.size + 1 by simp [offOf, hq0]] at HNM
            clear hl3 hn3 hown3
            generalize sAt (splitS (x.extract (q.size + 1) x.size) 47) 0 = w0 at *
            by_cases h1 : 1 < n3
            · have HNX := Lib.hid (show nameOf q x = w0 ++ ⟨#[47]⟩ by rw [HNM.out, if_pos (by have := HN3.out; omega)])
              have hbs : w0.size + 1 ≤ 9223372036854775807 := by omega
              have h1z : (1 : Int) < (n3 : Int) := by omega
              have hmb : (nms (l.take k) q).length ≤ 1048576 := by omega
              go_wp2_with (at_builtin; refine wpList_app1 (P := Try.prog) w3 rfl (.tmp 45) (.tmp 47) 31 rfl w.heap.size 9 _ 1 16 Try.underlying31 infoString rfl (by omega) (.slice O _ cap) _ _ rfl hownr _ rfl rfl (by simp [Value.oneCell']) (by unfold maxLen; omega) (by omega) hzr ?_; intro O4 cap4 w4 hown4 hg4 hb4 _)
              refine ⟨⟨k + 1, O4, cap4, by omega, by go_num, by rw [HN.out, HSL.out]; simp, ?_, (bthen hb hb3r).trans hb4⟩, by simp [intOf]; omega⟩
              rw [HN.out, HSL.out]
              simpa [HNX.out] using hown4
            · have HNX := Lib.hid (show nameOf q x = w0 by rw [HNM.out, if_neg (by have := HN3.out; omega)])
              have h1z : ¬ (1 : Int) < (n3 : Int) := by omega
              have hmb : (nms (l.take k) q).length ≤ 1048576 := by omega
              go_wp2_with (at_builtin; refine wpList_app1 (P := Try.prog) w3 rfl (.tmp 45) (.tmp 47) 31 rfl w.heap.size 9 _ 1 16 Try.underlying31 infoString rfl (by omega) (.slice O _ cap) _ _ rfl hownr #[.string w0] rfl rfl (by simp [Value.oneCell']) (by unfold maxLen; omega) (by omega) hzr ?_; intro O4 cap4 w4 hown4 hg4 hb4 _)
              refine ⟨⟨k + 1, O4, cap4, by omega, by go_num, by rw [HN.out, HSL.out]; simp, ?_, (bthen hb hb3r).trans hb4⟩, by simp [intOf]; omega⟩
              rw [HN.out, HSL.out]
              simpa [HNX.out] using hown4
        · have ht : l.take k = l := List.take_of_length_le (by have := HL.out; omega)
          rw [ht] at hown hml ⊢
          have hin : StrsIn w.heap.size wr.heap.size wr O (nms l q).length cap (txs ((nms l q).map toL)) := by rw [txs_toL]; exact StrsIn.of_own hown
          have hle : (nms l q).length ≤ 16777216 := by have := nms_len l q; have := HL.out; omega
          go_wp2_with fail
          refine (sort_texts _ _ _ _ _ _ _ hin hle).mono ?_
          rintro e w2 ⟨rfl, hin2, hch2⟩
          go_wp2_with fail
          refine (compact_texts _ _ _ _ _ _ _ hin2 hle).mono ?_
          rintro e w3 ⟨n3, rfl, hin3, hch3⟩
          rw [compact_sort] at hin3
          have hcc := hch2.trans hch3
          go_wp2
          go_returns
          refine ⟨O, n3, cap, rfl, ?_, hb.trans (hcc.below (fun k hk => by unfold Iv at hk; omega) hz)⟩
          rw [HR.out]
          exact hin3.wide (Nat.le_refl _) hcc.size
end Go.Proofs.Ytbijkdpifnncmaa
