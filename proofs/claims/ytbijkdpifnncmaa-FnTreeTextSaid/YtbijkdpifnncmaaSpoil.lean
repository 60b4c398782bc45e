/- The draws' l1Below at any number and l1Spoil. -/
import Derived.Test.YtbijkdpifnncmaaDrawX
import Derived.Test.YtbijkdpifnncmaaDagB
import Derived.Test.YtbijkdpifnncmaaFixed
namespace Go.Proofs.Ytbijkdpifnncmaa
open Go.RowKit

theorem l1Below_big (g : Nat) (n : Int) (w : World) (h : Cur w g) (hn : 256 < n) (hm : n ≤ 1099511627776) :
    Calls Try.prog 59 #[.pointer (some ⟨g, 0, none⟩), .int .i64 n] w fun e w' => ∃ x : Int, e = .returned (.int .i64 x) ∧ 0 ≤ x ∧ x < n ∧ Cur w' g ∧ Ch (fun k => k = g) w w' := by
  go_enter Try.func59, Try.ntmps59
  go_wp2_with fail
  refine (l1Byte_any g _ h).mono ?_
  rintro e w1 ⟨x, rfl, hx0, hx1, hc1, hch1⟩
  go_wp2_with fail
  refine (l1Byte_any g _ hc1).mono ?_
  rintro e w2 ⟨y, rfl, hy0, hy1, hc2, hch2⟩
  have hch2 := hch1.trans hch2
  clear hch1 hc1
  go_wp2_with fail
  refine (l1Byte_any g _ hc2).mono ?_
  rintro e w3 ⟨z, rfl, hz0, hz1, hc3, hch3⟩
  have hch3 := hch2.trans hch3
  clear hch2 hc2
  go_wp2_with fail
  refine (l1Byte_any g _ hc3).mono ?_
  rintro e w4 ⟨u, rfl, hu0, hu1, hc4, hch4⟩
  have hch4 := hch3.trans hch4
  clear hch3 hc3
  go_wp2
  go_returns
  exact ⟨_, rfl, Int.emod_nonneg _ (by omega), Int.emod_lt_of_pos _ (by omega), hc4, hch4⟩
theorem l1Below_all (g : Nat) (n : Int) (w : World) (h : Cur w g) (hm : n ≤ 1099511627776) :
    Calls Try.prog 59 #[.pointer (some ⟨g, 0, none⟩), .int .i64 n] w fun e w' => ∃ x : Int, e = .returned (.int .i64 x) ∧ 0 ≤ x ∧ (0 < n → x < n) ∧ Cur w' g ∧ Ch (fun k => k = g) w w' := by
  rcases Int.lt_or_le 256 n with hn | hn
  · exact (l1Below_big g n w h hn hm).mono fun e w' ⟨x, h1, h2, h3, h4, h5⟩ => ⟨x, h1, h2, fun _ => h3, h4, h5⟩
  · exact (l1Below_any g n w h hn).mono fun e w' ⟨x, h1, h2, h3, _, h4, h5⟩ => ⟨x, h1, h2, h3, h4, h5⟩
theorem xor255 (a b : Nat) (ha : a < 256) (hb : b < 256) : bits .xor .i64 (a : Int) (b : Int) = ((a ^^^ b : Nat) : Int) ∧ a ^^^ b < 256 := by
  have hx : a ^^^ b < 256 := Nat.xor_lt_two_pow (n := 8) ha hb
  refine ⟨?_, hx⟩
  show IntKind.i64.wrap ((BitVec.ofInt 64 (a : Int) ^^^ BitVec.ofInt 64 (b : Int)).toNat : Int) = _
  rw [BitVec.toNat_xor]
  have e : ∀ k : Nat, k < 256 → (BitVec.ofInt 64 (k : Int)).toNat = k := fun k hk => by
    rw [BitVec.toNat_ofInt]; omega
  rw [e a ha, e b hb, IntKind.wrap_i64]; omega
theorem one_size (b : UInt8) : (⟨#[b]⟩ : ByteArray).size = 1 := rfl


theorem conv_byte (w : World) (gb n : Nat) (hn : n < 256) (hc : w.cell? ⟨gb, 0, none⟩ = some (.int .u8 (n : Int))) : (convert 22 9 (.slice (some ⟨gb, 0, none⟩) 1 1)).run Try.prog w = .ok (.string ⟨#[UInt8.ofNat n]⟩) w := by
  have h := run_convert_bytes_back (P := Try.prog) w 22 9 5 ⟨gb, 0, none⟩ 1 [UInt8.ofNat n] Try.underlying22 Try.underlying5 Try.underlying9 (by
    intro j hj
    have hj0 : j = 0 := by simpa using hj
    subst hj0
    rw [Addr.add_zero', hc]
    simp only [List.getElem_cons_zero]
    rw [byte_ofNat n hn])
  simpa using h

set_option maxRecDepth 8000 in
set_option maxHeartbeats 2000000 in
theorem l1Spoil_any (g : Nat) (s : ByteArray) (w : World) (h : Cur w g) (hs : s.size ≤ 1048576) :
    Calls Try.prog 35 #[.pointer (some ⟨g, 0, none⟩), .string s] w fun e w' => ∃ r : ByteArray, e = .returned (.string r) ∧ r.size ≤ s.size + 3 ∧ Cur w' g ∧ Ch (fun k => k = g) w w' := by
  by_cases h0 : s.size = 0
  · go_enter Try.func35, Try.ntmps35
    go_wp2_with fail
    refine (l1Text_any g _ _ h (by omega) (by omega)).mono ?_
    rintro e w1 ⟨r, rfl, hr, hc1, hch1⟩
    go_wp2
    go_returns
    exact ⟨r, rfl, by omega, hc1, hch1⟩
  · have hpos : 0 < s.size := by omega
    go_enter Try.func35, Try.ntmps35
    go_wp2_with fail
    refine (l1Below_all g _ _ h (by omega)).mono ?_
    rintro e w1 ⟨x, rfl, hx0, hx1, hc1, hch1⟩
    obtain ⟨k, rfl⟩ := Int.eq_ofNat_of_zero_le hx0
    have hk : k < s.size := by have := hx1 (by omega); omega
    clear hx0 hx1
    go_wp2_with fail
    refine (l1Below_any g _ _ hc1 (by omega)).mono ?_
    rintro e w2 ⟨x, rfl, hx0, hx1, _, hc2, hch2⟩
    have hch2 := hch1.trans hch2
    have hx4 := hx1 (by omega)
    clear hx1 hc1 hch1
    have hsA : (s.extract 0 k).size = k := by rw [ByteArray.size_extract]; omega
    have hsB : (s.extract k s.size).size = s.size - k := by rw [ByteArray.size_extract]; omega
    have hsC : (s.extract (k + 1) s.size).size = s.size - (k + 1) := by rw [ByteArray.size_extract]; omega
    have hlt2 := hc2.lt
    rcases (show x = 0 ∨ x = 1 ∨ x = 2 ∨ x = 3 by omega) with rfl | rfl | rfl | rfl
    · go_wp2
      go_quiet (fail)
      go_wp2
      go_returns
      exact ⟨_, rfl, by rw [ByteArray.size_append, hsA, hsC]; omega, hc2.ch (S := fun _ => False) ((Ch.refl _).drewN _) (fun _ h => h.elim), hch2.drewN _⟩
    · go_wp2
      refine wp_region_dagb [29, 30, 31, 32, 33, 34, 35, 36, 37, 38, 39, 40, 41, 4] (by kernel_rfl) (by kernel_rfl) (fun D vs w' => ∃ v29 v30 v31 v32 v33 v34 v35 v36 v37 v38 v39 v40 v41 v4 : Value, vs = [v29, v30, v31, v32, v33, v34, v35, v36, v37, v38, v39, v40, v41, v4] ∧ Cur w' g ∧ Ch (fun k => k = g) w w' ∧ (D 0 = true → v29 = .string s) ∧ (D 1 = true → v30 = .int .i64 (k : Int)) ∧ (D 2 = true → v31 = .string (s.extract 0 k)) ∧ (D 3 = true → v32 = .pointer (some ⟨g, 0, none⟩)) ∧ (D 4 = true → ∃ n : Nat, v33 = .int .i64 (n : Int) ∧ n < 256) ∧ (D 5 = true → ∃ n : Nat, v34 = .int .u8 (n : Int) ∧ n < 256) ∧ (D 6 = true → ∃ (gb : Nat) (n : Nat), v35 = .slice (some ⟨gb, 0, none⟩) 1 1 ∧ n < 256 ∧ w'.cell? ⟨gb, 0, none⟩ = some (.int .u8 (n : Int)) ∧ g < gb ∧ gb < w'.heap.size) ∧ (D 7 = true → ∃ b : UInt8, v36 = .string ⟨#[b]⟩) ∧ (D 8 = true → ∃ r : ByteArray, v37 = .string r ∧ r.size = k + 1) ∧ (D 9 = true → v38 = .string s) ∧ (D 10 = true → v39 = .int .i64 (k : Int)) ∧ (D 11 = true → v40 = .string (s.extract k s.size)) ∧ (D 12 = true → ∃ r : ByteArray, v41 = .string r ∧ r.size = s.size + 1) ∧ (D 13 = true → ∃ r : ByteArray, v4 = .string r ∧ r.size = s.size + 1))
        ⟨_, _, _, _, _, _, _, _, _, _, _, _, _, _, rfl, hc2.keep (Below.refl _ _).drew, hch2.thenB (Below.refl _ _).drew, (fun h => by cases h), (fun h => by cases h), (fun h => by cases h), (fun h => by cases h), (fun h => by cases h), (fun h => by cases h), (fun h => by cases h), (fun h => by cases h), (fun h => by cases h), (fun h => by cases h), (fun h => by cases h), (fun h => by cases h), (fun h => by cases h), (fun h => by cases h)⟩ ?_ ?_
      · intro i D vs w' hi hD hdep hcl hI
        have hi' : i < 14 := hi
        obtain ⟨v29, v30, v31, v32, v33, v34, v35, v36, v37, v38, v39, v40, v41, v4, rfl, hc, hch, k0, k1, k2, k3, k4, k5, k6, k7, k8, k9, k10, k11, k12, k13⟩ := hI
        simp only [putAll, List.setIfInBounds_toArray, List.set_cons_succ, List.set_cons_zero]
        rcases (show i = 0 ∨ i = 1 ∨ i = 2 ∨ i = 3 ∨ i = 4 ∨ i = 5 ∨ i = 6 ∨ i = 7 ∨ i = 8 ∨ i = 9 ∨ i = 10 ∨ i = 11 ∨ i = 12 ∨ i = 13 by omega) with rfl | rfl | rfl | rfl | rfl | rfl | rfl | rfl | rfl | rfl | rfl | rfl | rfl | rfl
        · refine wpOp_step (by simp only [List.getElem?_toArray, List.getElem?_cons_zero]; rfl) (fun K hK => ?_)
          go_simp
          refine hK _ _ ⟨[.string s, v30, v31, v32, v33, v34, v35, v36, v37, v38, v39, v40, v41, v4], ?_, _, _, _, _, _, _, _, _, _, _, _, _, _, _, rfl, hc, hch, (fun _ => rfl), k1, k2, k3, k4, k5, k6, k7, k8, k9, k10, k11, k12, k13⟩
          simp only [putAll, List.setIfInBounds_toArray, List.set_cons_succ, List.set_cons_zero]
        · refine wpOp_step (by simp only [List.getElem?_toArray, List.getElem?_cons_succ, List.getElem?_cons_zero]; rfl) (fun K hK => ?_)
          go_simp
          refine hK _ _ ⟨[v29, .int .i64 (k : Int), v31, v32, v33, v34, v35, v36, v37, v38, v39, v40, v41, v4], ?_, _, _, _, _, _, _, _, _, _, _, _, _, _, _, rfl, hc, hch, k0, (fun _ => rfl), k2, k3, k4, k5, k6, k7, k8, k9, k10, k11, k12, k13⟩
          simp only [putAll, List.setIfInBounds_toArray, List.set_cons_succ, List.set_cons_zero]
        · have e0 := k0 (hdep 0 (by kernel_rfl))
          subst e0
          have e1 := k1 (hdep 1 (by kernel_rfl))
          subst e1
          refine wpOp_step (by simp only [List.getElem?_toArray, List.getElem?_cons_succ, List.getElem?_cons_zero]; rfl) (fun K hK => ?_)
          go_simp
          rw [if_pos (by omega)]
          go_simp
          refine hK _ _ ⟨[.string s, .int .i64 (k : Int), .string (s.extract 0 k), v32, v33, v34, v35, v36, v37, v38, v39, v40, v41, v4], ?_, _, _, _, _, _, _, _, _, _, _, _, _, _, _, rfl, hc, hch, (fun _ => rfl), (fun _ => rfl), (fun _ => rfl), k3, k4, k5, k6, k7, k8, k9, k10, k11, k12, k13⟩
          simp only [putAll, List.setIfInBounds_toArray, List.set_cons_succ, List.set_cons_zero]
        · refine wpOp_step (by simp only [List.getElem?_toArray, List.getElem?_cons_succ, List.getElem?_cons_zero]; rfl) (fun K hK => ?_)
          go_simp
          refine hK _ _ ⟨[v29, v30, v31, .pointer (some ⟨g, 0, none⟩), v33, v34, v35, v36, v37, v38, v39, v40, v41, v4], ?_, _, _, _, _, _, _, _, _, _, _, _, _, _, _, rfl, hc, hch, k0, k1, k2, (fun _ => rfl), k4, k5, k6, k7, k8, k9, k10, k11, k12, k13⟩
          simp only [putAll, List.setIfInBounds_toArray, List.set_cons_succ, List.set_cons_zero]
        · have e3 := k3 (hdep 3 (by kernel_rfl))
          subst e3
          refine wpOp_step (by simp only [List.getElem?_toArray, List.getElem?_cons_succ, List.getElem?_cons_zero]; rfl) (fun K hK => ?_)
          go_simp
          refine (l1Byte_any g _ hc).mono ?_
          rintro e w4 ⟨x, rfl, hx0, hx1, hc4, hch4⟩
          obtain ⟨n, rfl⟩ := Int.eq_ofNat_of_zero_le hx0
          have hchw := hch.trans hch4
          have hz4 := hch4.size
          have hgz := hc.lt
          refine hK _ _ ⟨[v29, v30, v31, .pointer (some ⟨g, 0, none⟩), .int .i64 (n : Int), v34, v35, v36, v37, v38, v39, v40, v41, v4], ?_, _, _, _, _, _, _, _, _, _, _, _, _, _, _, rfl, hc4, hchw, k0, k1, k2, (fun _ => rfl), (fun _ => ⟨n, rfl, by omega⟩), k5, (fun h => by obtain ⟨gb, n, e, hn, hcell, hgb, hgl⟩ := k6 h; exact ⟨gb, n, e, hn, hch4.cell hcell (by omega), hgb, Nat.lt_of_lt_of_le hgl hz4⟩), k7, k8, k9, k10, k11, k12, k13⟩
          simp only [putAll, List.setIfInBounds_toArray, List.set_cons_succ, List.set_cons_zero]
        · obtain ⟨n, rfl, hn⟩ := k4 (hdep 4 (by kernel_rfl))
          have hw : IntKind.u8.wrap (n : Int) = n := by rw [IntKind.wrap_u8]; omega
          refine wpOp_step (by simp only [List.getElem?_toArray, List.getElem?_cons_succ, List.getElem?_cons_zero]; rfl) (fun K hK => ?_)
          go_simp
          refine hK _ _ ⟨[v29, v30, v31, v32, .int .i64 (n : Int), .int .u8 (n : Int), v35, v36, v37, v38, v39, v40, v41, v4], ?_, _, _, _, _, _, _, _, _, _, _, _, _, _, _, rfl, hc, hch, k0, k1, k2, k3, (fun _ => ⟨n, rfl, hn⟩), (fun _ => ⟨n, rfl, hn⟩), k6, k7, k8, k9, k10, k11, k12, k13⟩
          simp only [putAll, List.setIfInBounds_toArray, List.set_cons_succ, List.set_cons_zero]
        · obtain ⟨n, rfl, hn⟩ := k5 (hdep 5 (by kernel_rfl))
          have hal := (Below.refl w'.heap.size w').alloc (Nat.le_refl _) (.cells #[.int .u8 (n : Int)] 5)
          have hgz := hc.lt
          refine wpOp_step (by simp only [List.getElem?_toArray, List.getElem?_cons_succ, List.getElem?_cons_zero]; rfl) (fun K hK => ?_)
          go_simp
          refine hK _ _ ⟨[v29, v30, v31, v32, v33, .int .u8 (n : Int), .slice (some ⟨w'.heap.size, 0, none⟩) 1 1, v36, v37, v38, v39, v40, v41, v4], ?_, _, _, _, _, _, _, _, _, _, _, _, _, _, _, rfl, (hc.keep hal), (hch.trans (Ch.of_below hal)), k0, k1, k2, k3, k4, (fun _ => ⟨n, rfl, hn⟩), (fun _ => ⟨_, _, rfl, hn, by simp [go_sem], hgz, by simp⟩), k7, k8, k9, k10, k11, k12, k13⟩
          simp only [putAll, List.setIfInBounds_toArray, List.set_cons_succ, List.set_cons_zero]
        · obtain ⟨gb, n, rfl, hn, hcell, hgb, hgl⟩ := k6 (hdep 6 (by kernel_rfl))
          have hcv := conv_byte w' gb n hn hcell
          refine wpOp_step (by simp only [List.getElem?_toArray, List.getElem?_cons_succ, List.getElem?_cons_zero]; rfl) (fun K hK => ?_)
          go_simp
          refine hK _ _ ⟨[v29, v30, v31, v32, v33, v34, .slice (some ⟨gb, 0, none⟩) 1 1, .string ⟨#[UInt8.ofNat n]⟩, v37, v38, v39, v40, v41, v4], ?_, _, _, _, _, _, _, _, _, _, _, _, _, _, _, rfl, hc, hch, k0, k1, k2, k3, k4, k5, (fun _ => ⟨gb, n, rfl, hn, hcell, hgb, hgl⟩), (fun _ => ⟨_, rfl⟩), k8, k9, k10, k11, k12, k13⟩
          simp only [putAll, List.setIfInBounds_toArray, List.set_cons_succ, List.set_cons_zero]
        · have e2 := k2 (hdep 2 (by kernel_rfl))
          subst e2
          obtain ⟨b, rfl⟩ := k7 (hdep 7 (by kernel_rfl))
          refine wpOp_step (by simp only [List.getElem?_toArray, List.getElem?_cons_succ, List.getElem?_cons_zero]; rfl) (fun K hK => ?_)
          go_simp
          rw [if_neg (by have h1 := one_size b; omega)]
          go_simp
          refine hK _ _ ⟨[v29, v30, .string (s.extract 0 k), v32, v33, v34, v35, .string ⟨#[b]⟩, .string (s.extract 0 k ++ ⟨#[b]⟩), v38, v39, v40, v41, v4], ?_, _, _, _, _, _, _, _, _, _, _, _, _, _, _, rfl, hc, hch, k0, k1, (fun _ => rfl), k3, k4, k5, k6, (fun _ => ⟨b, rfl⟩), (fun _ => ⟨_, rfl, by rw [ByteArray.size_append, hsA, one_size]⟩), k9, k10, k11, k12, k13⟩
          simp only [putAll, List.setIfInBounds_toArray, List.set_cons_succ, List.set_cons_zero]
        · refine wpOp_step (by simp only [List.getElem?_toArray, List.getElem?_cons_succ, List.getElem?_cons_zero]; rfl) (fun K hK => ?_)
          go_simp
          refine hK _ _ ⟨[v29, v30, v31, v32, v33, v34, v35, v36, v37, .string s, v39, v40, v41, v4], ?_, _, _, _, _, _, _, _, _, _, _, _, _, _, _, rfl, hc, hch, k0, k1, k2, k3, k4, k5, k6, k7, k8, (fun _ => rfl), k10, k11, k12, k13⟩
          simp only [putAll, List.setIfInBounds_toArray, List.set_cons_succ, List.set_cons_zero]
        · refine wpOp_step (by simp only [List.getElem?_toArray, List.getElem?_cons_succ, List.getElem?_cons_zero]; rfl) (fun K hK => ?_)
          go_simp
          refine hK _ _ ⟨[v29, v30, v31, v32, v33, v34, v35, v36, v37, v38, .int .i64 (k : Int), v40, v41, v4], ?_, _, _, _, _, _, _, _, _, _, _, _, _, _, _, rfl, hc, hch, k0, k1, k2, k3, k4, k5, k6, k7, k8, k9, (fun _ => rfl), k11, k12, k13⟩
          simp only [putAll, List.setIfInBounds_toArray, List.set_cons_succ, List.set_cons_zero]
        · have e9 := k9 (hdep 9 (by kernel_rfl))
          subst e9
          have e10 := k10 (hdep 10 (by kernel_rfl))
          subst e10
          refine wpOp_step (by simp only [List.getElem?_toArray, List.getElem?_cons_succ, List.getElem?_cons_zero]; rfl) (fun K hK => ?_)
          go_simp
          rw [if_pos (by omega)]
          go_simp
          refine hK _ _ ⟨[v29, v30, v31, v32, v33, v34, v35, v36, v37, .string s, .int .i64 (k : Int), .string (s.extract k s.size), v41, v4], ?_, _, _, _, _, _, _, _, _, _, _, _, _, _, _, rfl, hc, hch, k0, k1, k2, k3, k4, k5, k6, k7, k8, (fun _ => rfl), (fun _ => rfl), (fun _ => rfl), k12, k13⟩
          simp only [putAll, List.setIfInBounds_toArray, List.set_cons_succ, List.set_cons_zero]
        · obtain ⟨r, rfl, hr⟩ := k8 (hdep 8 (by kernel_rfl))
          have e11 := k11 (hdep 11 (by kernel_rfl))
          subst e11
          refine wpOp_step (by simp only [List.getElem?_toArray, List.getElem?_cons_succ, List.getElem?_cons_zero]; rfl) (fun K hK => ?_)
          go_simp
          rw [if_neg (by omega)]
          go_simp
          refine hK _ _ ⟨[v29, v30, v31, v32, v33, v34, v35, v36, .string r, v38, v39, .string (s.extract k s.size), .string (r ++ s.extract k s.size), v4], ?_, _, _, _, _, _, _, _, _, _, _, _, _, _, _, rfl, hc, hch, k0, k1, k2, k3, k4, k5, k6, k7, (fun _ => ⟨r, rfl, hr⟩), k9, k10, (fun _ => rfl), (fun _ => ⟨_, rfl, by rw [ByteArray.size_append, hsB, hr]; omega⟩), k13⟩
          simp only [putAll, List.setIfInBounds_toArray, List.set_cons_succ, List.set_cons_zero]
        · obtain ⟨r, rfl, hr⟩ := k12 (hdep 12 (by kernel_rfl))
          refine wpOp_step (by simp only [List.getElem?_toArray, List.getElem?_cons_succ, List.getElem?_cons_zero]; rfl) (fun K hK => ?_)
          go_simp
          refine hK _ _ ⟨[v29, v30, v31, v32, v33, v34, v35, v36, v37, v38, v39, v40, .string r, .string r], ?_, _, _, _, _, _, _, _, _, _, _, _, _, _, _, rfl, hc, hch, k0, k1, k2, k3, k4, k5, k6, k7, k8, k9, k10, k11, (fun _ => ⟨r, rfl, hr⟩), (fun _ => ⟨_, rfl, hr⟩)⟩
          simp only [putAll, List.setIfInBounds_toArray, List.set_cons_succ, List.set_cons_zero]
      · intro D vs w' hD hI
        obtain ⟨v29, v30, v31, v32, v33, v34, v35, v36, v37, v38, v39, v40, v41, v4, rfl, hc, hch, k0, k1, k2, k3, k4, k5, k6, k7, k8, k9, k10, k11, k12, k13⟩ := hI
        simp only [putAll, List.setIfInBounds_toArray, List.set_cons_succ, List.set_cons_zero]
        obtain ⟨r, rfl, hr⟩ := k13 (hD 13 (show 13 < 14 by decide))
        go_wp2
        go_returns
        exact ⟨r, rfl, by omega, hc, hch⟩
    · go_wp2
      go_returns
      exact ⟨_, rfl, by omega, hc2, hch2⟩
    · go_wp2
      refine wp_region_dagb [47, 48, 49, 50, 51, 52, 53, 54, 55, 56, 57, 58, 59, 60, 61, 62, 63, 64, 65, 66, 4] (by kernel_rfl) (by kernel_rfl) (fun D vs w' => ∃ v47 v48 v49 v50 v51 v52 v53 v54 v55 v56 v57 v58 v59 v60 v61 v62 v63 v64 v65 v66 v4 : Value, vs = [v47, v48, v49, v50, v51, v52, v53, v54, v55, v56, v57, v58, v59, v60, v61, v62, v63, v64, v65, v66, v4] ∧ Cur w' g ∧ Ch (fun k => k = g) w w' ∧ (D 0 = true → v47 = .string s) ∧ (D 1 = true → v48 = .int .i64 (k : Int)) ∧ (D 2 = true → v49 = .string (s.extract 0 k)) ∧ (D 3 = true → v50 = .string s) ∧ (D 4 = true → v51 = .int .i64 (k : Int)) ∧ (D 5 = true → ∃ n : Nat, v52 = .int .u8 (n : Int) ∧ n < 256) ∧ (D 6 = true → ∃ n : Nat, v53 = .int .i64 (n : Int) ∧ n < 256) ∧ (D 7 = true → v54 = .pointer (some ⟨g, 0, none⟩)) ∧ (D 8 = true → ∃ n : Nat, v55 = .int .i64 (n : Int) ∧ n < 255) ∧ (D 9 = true → ∃ n : Nat, v56 = .int .i64 (n : Int) ∧ n < 256) ∧ (D 10 = true → ∃ n : Nat, v57 = .int .i64 (n : Int) ∧ n < 256) ∧ (D 11 = true → ∃ n : Nat, v58 = .int .u8 (n : Int) ∧ n < 256) ∧ (D 12 = true → ∃ (gb : Nat) (n : Nat), v59 = .slice (some ⟨gb, 0, none⟩) 1 1 ∧ n < 256 ∧ w'.cell? ⟨gb, 0, none⟩ = some (.int .u8 (n : Int)) ∧ g < gb ∧ gb < w'.heap.size) ∧ (D 13 = true → ∃ b : UInt8, v60 = .string ⟨#[b]⟩) ∧ (D 14 = true → ∃ r : ByteArray, v61 = .string r ∧ r.size = k + 1) ∧ (D 15 = true → v62 = .string s) ∧ (D 16 = true → v63 = .int .i64 (k : Int)) ∧ (D 17 = true → v64 = .int .i64 ((k : Int) + 1)) ∧ (D 18 = true → v65 = .string (s.extract (k + 1) s.size)) ∧ (D 19 = true → ∃ r : ByteArray, v66 = .string r ∧ r.size = s.size) ∧ (D 20 = true → ∃ r : ByteArray, v4 = .string r ∧ r.size = s.size))
        ⟨_, _, _, _, _, _, _, _, _, _, _, _, _, _, _, _, _, _, _, _, _, rfl, hc2.keep (Below.refl _ _).drew, hch2.thenB (Below.refl _ _).drew, (fun h => by cases h), (fun h => by cases h), (fun h => by cases h), (fun h => by cases h), (fun h => by cases h), (fun h => by cases h), (fun h => by cases h), (fun h => by cases h), (fun h => by cases h), (fun h => by cases h), (fun h => by cases h), (fun h => by cases h), (fun h => by cases h), (fun h => by cases h), (fun h => by cases h), (fun h => by cases h), (fun h => by cases h), (fun h => by cases h), (fun h => by cases h), (fun h => by cases h), (fun h => by cases h)⟩ ?_ ?_
      · intro i D vs w' hi hD hdep hcl hI
        have hi' : i < 21 := hi
        obtain ⟨v47, v48, v49, v50, v51, v52, v53, v54, v55, v56, v57, v58, v59, v60, v61, v62, v63, v64, v65, v66, v4, rfl, hc, hch, k0, k1, k2, k3, k4, k5, k6, k7, k8, k9, k10, k11, k12, k13, k14, k15, k16, k17, k18, k19, k20⟩ := hI
        simp only [putAll, List.setIfInBounds_toArray, List.set_cons_succ, List.set_cons_zero]
        rcases (show i = 0 ∨ i = 1 ∨ i = 2 ∨ i = 3 ∨ i = 4 ∨ i = 5 ∨ i = 6 ∨ i = 7 ∨ i = 8 ∨ i = 9 ∨ i = 10 ∨ i = 11 ∨ i = 12 ∨ i = 13 ∨ i = 14 ∨ i = 15 ∨ i = 16 ∨ i = 17 ∨ i = 18 ∨ i = 19 ∨ i = 20 by omega) with rfl | rfl | rfl | rfl | rfl | rfl | rfl | rfl | rfl | rfl | rfl | rfl | rfl | rfl | rfl | rfl | rfl | rfl | rfl | rfl | rfl
        · refine wpOp_step (by simp only [List.getElem?_toArray, List.getElem?_cons_zero]; rfl) (fun K hK => ?_)
          go_simp
          refine hK _ _ ⟨[.string s, v48, v49, v50, v51, v52, v53, v54, v55, v56, v57, v58, v59, v60, v61, v62, v63, v64, v65, v66, v4], ?_, _, _, _, _, _, _, _, _, _, _, _, _, _, _, _, _, _, _, _, _, _, rfl, hc, hch, (fun _ => rfl), k1, k2, k3, k4, k5, k6, k7, k8, k9, k10, k11, k12, k13, k14, k15, k16, k17, k18, k19, k20⟩
          simp only [putAll, List.setIfInBounds_toArray, List.set_cons_succ, List.set_cons_zero]
        · refine wpOp_step (by simp only [List.getElem?_toArray, List.getElem?_cons_succ, List.getElem?_cons_zero]; rfl) (fun K hK => ?_)
          go_simp
          refine hK _ _ ⟨[v47, .int .i64 (k : Int), v49, v50, v51, v52, v53, v54, v55, v56, v57, v58, v59, v60, v61, v62, v63, v64, v65, v66, v4], ?_, _, _, _, _, _, _, _, _, _, _, _, _, _, _, _, _, _, _, _, _, _, rfl, hc, hch, k0, (fun _ => rfl), k2, k3, k4, k5, k6, k7, k8, k9, k10, k11, k12, k13, k14, k15, k16, k17, k18, k19, k20⟩
          simp only [putAll, List.setIfInBounds_toArray, List.set_cons_succ, List.set_cons_zero]
        · have e0 := k0 (hdep 0 (by kernel_rfl))
          subst e0
          have e1 := k1 (hdep 1 (by kernel_rfl))
          subst e1
          refine wpOp_step (by simp only [List.getElem?_toArray, List.getElem?_cons_succ, List.getElem?_cons_zero]; rfl) (fun K hK => ?_)
          go_simp
          rw [if_pos (by omega)]
          go_simp
          refine hK _ _ ⟨[.string s, .int .i64 (k : Int), .string (s.extract 0 k), v50, v51, v52, v53, v54, v55, v56, v57, v58, v59, v60, v61, v62, v63, v64, v65, v66, v4], ?_, _, _, _, _, _, _, _, _, _, _, _, _, _, _, _, _, _, _, _, _, _, rfl, hc, hch, (fun _ => rfl), (fun _ => rfl), (fun _ => rfl), k3, k4, k5, k6, k7, k8, k9, k10, k11, k12, k13, k14, k15, k16, k17, k18, k19, k20⟩
          simp only [putAll, List.setIfInBounds_toArray, List.set_cons_succ, List.set_cons_zero]
        · refine wpOp_step (by simp only [List.getElem?_toArray, List.getElem?_cons_succ, List.getElem?_cons_zero]; rfl) (fun K hK => ?_)
          go_simp
          refine hK _ _ ⟨[v47, v48, v49, .string s, v51, v52, v53, v54, v55, v56, v57, v58, v59, v60, v61, v62, v63, v64, v65, v66, v4], ?_, _, _, _, _, _, _, _, _, _, _, _, _, _, _, _, _, _, _, _, _, _, rfl, hc, hch, k0, k1, k2, (fun _ => rfl), k4, k5, k6, k7, k8, k9, k10, k11, k12, k13, k14, k15, k16, k17, k18, k19, k20⟩
          simp only [putAll, List.setIfInBounds_toArray, List.set_cons_succ, List.set_cons_zero]
        · refine wpOp_step (by simp only [List.getElem?_toArray, List.getElem?_cons_succ, List.getElem?_cons_zero]; rfl) (fun K hK => ?_)
          go_simp
          refine hK _ _ ⟨[v47, v48, v49, v50, .int .i64 (k : Int), v52, v53, v54, v55, v56, v57, v58, v59, v60, v61, v62, v63, v64, v65, v66, v4], ?_, _, _, _, _, _, _, _, _, _, _, _, _, _, _, _, _, _, _, _, _, _, rfl, hc, hch, k0, k1, k2, k3, (fun _ => rfl), k5, k6, k7, k8, k9, k10, k11, k12, k13, k14, k15, k16, k17, k18, k19, k20⟩
          simp only [putAll, List.setIfInBounds_toArray, List.set_cons_succ, List.set_cons_zero]
        · have e3 := k3 (hdep 3 (by kernel_rfl))
          subst e3
          have e4 := k4 (hdep 4 (by kernel_rfl))
          subst e4
          have hbt := bAt_get hk
          refine wpOp_step (by simp only [List.getElem?_toArray, List.getElem?_cons_succ, List.getElem?_cons_zero]; rfl) (fun K hK => ?_)
          go_simp
          refine hK _ _ ⟨[v47, v48, v49, .string s, .int .i64 (k : Int), .int .u8 (bAt s k : Nat), v53, v54, v55, v56, v57, v58, v59, v60, v61, v62, v63, v64, v65, v66, v4], ?_, _, _, _, _, _, _, _, _, _, _, _, _, _, _, _, _, _, _, _, _, _, rfl, hc, hch, k0, k1, k2, (fun _ => rfl), (fun _ => rfl), (fun _ => ⟨bAt s k, rfl, bAt_lt s k⟩), k6, k7, k8, k9, k10, k11, k12, k13, k14, k15, k16, k17, k18, k19, k20⟩
          simp only [putAll, List.setIfInBounds_toArray, List.set_cons_succ, List.set_cons_zero]
        · obtain ⟨n, rfl, hn⟩ := k5 (hdep 5 (by kernel_rfl))
          have hw : IntKind.i64.wrap (n : Int) = n := by rw [IntKind.wrap_i64]; omega
          refine wpOp_step (by simp only [List.getElem?_toArray, List.getElem?_cons_succ, List.getElem?_cons_zero]; rfl) (fun K hK => ?_)
          go_simp
          refine hK _ _ ⟨[v47, v48, v49, v50, v51, .int .u8 (n : Int), .int .i64 (n : Int), v54, v55, v56, v57, v58, v59, v60, v61, v62, v63, v64, v65, v66, v4], ?_, _, _, _, _, _, _, _, _, _, _, _, _, _, _, _, _, _, _, _, _, _, rfl, hc, hch, k0, k1, k2, k3, k4, (fun _ => ⟨n, rfl, hn⟩), (fun _ => ⟨n, rfl, hn⟩), k7, k8, k9, k10, k11, k12, k13, k14, k15, k16, k17, k18, k19, k20⟩
          simp only [putAll, List.setIfInBounds_toArray, List.set_cons_succ, List.set_cons_zero]
        · refine wpOp_step (by simp only [List.getElem?_toArray, List.getElem?_cons_succ, List.getElem?_cons_zero]; rfl) (fun K hK => ?_)
          go_simp
          refine hK _ _ ⟨[v47, v48, v49, v50, v51, v52, v53, .pointer (some ⟨g, 0, none⟩), v55, v56, v57, v58, v59, v60, v61, v62, v63, v64, v65, v66, v4], ?_, _, _, _, _, _, _, _, _, _, _, _, _, _, _, _, _, _, _, _, _, _, rfl, hc, hch, k0, k1, k2, k3, k4, k5, k6, (fun _ => rfl), k8, k9, k10, k11, k12, k13, k14, k15, k16, k17, k18, k19, k20⟩
          simp only [putAll, List.setIfInBounds_toArray, List.set_cons_succ, List.set_cons_zero]
        · have e7 := k7 (hdep 7 (by kernel_rfl))
          subst e7
          refine wpOp_step (by simp only [List.getElem?_toArray, List.getElem?_cons_succ, List.getElem?_cons_zero]; rfl) (fun K hK => ?_)
          go_simp
          refine (l1Below_any g _ _ hc (by omega)).mono ?_
          rintro e w4 ⟨x, rfl, hx0, hx1, _, hc4, hch4⟩
          obtain ⟨n, rfl⟩ := Int.eq_ofNat_of_zero_le hx0
          have hchw := hch.trans hch4
          have hx2 := hx1 (by omega)
          have hz4 := hch4.size
          refine hK _ _ ⟨[v47, v48, v49, v50, v51, v52, v53, .pointer (some ⟨g, 0, none⟩), .int .i64 (n : Int), v56, v57, v58, v59, v60, v61, v62, v63, v64, v65, v66, v4], ?_, _, _, _, _, _, _, _, _, _, _, _, _, _, _, _, _, _, _, _, _, _, rfl, hc4, hchw, k0, k1, k2, k3, k4, k5, k6, (fun _ => rfl), (fun _ => ⟨n, rfl, by omega⟩), k9, k10, k11, (fun h => by obtain ⟨gb, n, e, hn, hcell, hgb, hgl⟩ := k12 h; exact ⟨gb, n, e, hn, hch4.cell hcell (by omega), hgb, Nat.lt_of_lt_of_le hgl hz4⟩), k13, k14, k15, k16, k17, k18, k19, k20⟩
          simp only [putAll, List.setIfInBounds_toArray, List.set_cons_succ, List.set_cons_zero]
        · obtain ⟨n, rfl, hn⟩ := k8 (hdep 8 (by kernel_rfl))
          have hw : IntKind.i64.wrap (1 + (n : Int)) = 1 + n := by rw [IntKind.wrap_i64]; omega
          refine wpOp_step (by simp only [List.getElem?_toArray, List.getElem?_cons_succ, List.getElem?_cons_zero]; rfl) (fun K hK => ?_)
          go_simp
          refine hK _ _ ⟨[v47, v48, v49, v50, v51, v52, v53, v54, .int .i64 (n : Int), .int .i64 (1 + (n : Int)), v57, v58, v59, v60, v61, v62, v63, v64, v65, v66, v4], ?_, _, _, _, _, _, _, _, _, _, _, _, _, _, _, _, _, _, _, _, _, _, rfl, hc, hch, k0, k1, k2, k3, k4, k5, k6, k7, (fun _ => ⟨n, rfl, hn⟩), (fun _ => ⟨1 + n, by push_cast; rfl, by omega⟩), k10, k11, k12, k13, k14, k15, k16, k17, k18, k19, k20⟩
          simp only [putAll, List.setIfInBounds_toArray, List.set_cons_succ, List.set_cons_zero]
        · obtain ⟨n, rfl, hn⟩ := k6 (hdep 6 (by kernel_rfl))
          obtain ⟨m, rfl, hm⟩ := k9 (hdep 9 (by kernel_rfl))
          obtain ⟨hx1, hx2⟩ := xor255 n m hn hm
          refine wpOp_step (by simp only [List.getElem?_toArray, List.getElem?_cons_succ, List.getElem?_cons_zero]; rfl) (fun K hK => ?_)
          go_simp
          refine hK _ _ ⟨[v47, v48, v49, v50, v51, v52, .int .i64 (n : Int), v54, v55, .int .i64 (m : Int), .int .i64 ((n ^^^ m : Nat) : Int), v58, v59, v60, v61, v62, v63, v64, v65, v66, v4], ?_, _, _, _, _, _, _, _, _, _, _, _, _, _, _, _, _, _, _, _, _, _, rfl, hc, hch, k0, k1, k2, k3, k4, k5, (fun _ => ⟨n, rfl, hn⟩), k7, k8, (fun _ => ⟨m, rfl, hm⟩), (fun _ => ⟨n ^^^ m, rfl, hx2⟩), k11, k12, k13, k14, k15, k16, k17, k18, k19, k20⟩
          simp only [putAll, List.setIfInBounds_toArray, List.set_cons_succ, List.set_cons_zero]
        · obtain ⟨n, rfl, hn⟩ := k10 (hdep 10 (by kernel_rfl))
          have hw : IntKind.u8.wrap (n : Int) = n := by rw [IntKind.wrap_u8]; omega
          refine wpOp_step (by simp only [List.getElem?_toArray, List.getElem?_cons_succ, List.getElem?_cons_zero]; rfl) (fun K hK => ?_)
          go_simp
          refine hK _ _ ⟨[v47, v48, v49, v50, v51, v52, v53, v54, v55, v56, .int .i64 (n : Int), .int .u8 (n : Int), v59, v60, v61, v62, v63, v64, v65, v66, v4], ?_, _, _, _, _, _, _, _, _, _, _, _, _, _, _, _, _, _, _, _, _, _, rfl, hc, hch, k0, k1, k2, k3, k4, k5, k6, k7, k8, k9, (fun _ => ⟨n, rfl, hn⟩), (fun _ => ⟨n, rfl, hn⟩), k12, k13, k14, k15, k16, k17, k18, k19, k20⟩
          simp only [putAll, List.setIfInBounds_toArray, List.set_cons_succ, List.set_cons_zero]
        · obtain ⟨n, rfl, hn⟩ := k11 (hdep 11 (by kernel_rfl))
          have hal := (Below.refl w'.heap.size w').alloc (Nat.le_refl _) (.cells #[.int .u8 (n : Int)] 5)
          have hgz := hc.lt
          refine wpOp_step (by simp only [List.getElem?_toArray, List.getElem?_cons_succ, List.getElem?_cons_zero]; rfl) (fun K hK => ?_)
          go_simp
          refine hK _ _ ⟨[v47, v48, v49, v50, v51, v52, v53, v54, v55, v56, v57, .int .u8 (n : Int), .slice (some ⟨w'.heap.size, 0, none⟩) 1 1, v60, v61, v62, v63, v64, v65, v66, v4], ?_, _, _, _, _, _, _, _, _, _, _, _, _, _, _, _, _, _, _, _, _, _, rfl, (hc.keep hal), (hch.trans (Ch.of_below hal)), k0, k1, k2, k3, k4, k5, k6, k7, k8, k9, k10, (fun _ => ⟨n, rfl, hn⟩), (fun _ => ⟨_, _, rfl, hn, by simp [go_sem], hgz, by simp⟩), k13, k14, k15, k16, k17, k18, k19, k20⟩
          simp only [putAll, List.setIfInBounds_toArray, List.set_cons_succ, List.set_cons_zero]
        · obtain ⟨gb, n, rfl, hn, hcell, hgb, hgl⟩ := k12 (hdep 12 (by kernel_rfl))
          have hcv := conv_byte w' gb n hn hcell
          refine wpOp_step (by simp only [List.getElem?_toArray, List.getElem?_cons_succ, List.getElem?_cons_zero]; rfl) (fun K hK => ?_)
          go_simp
          refine hK _ _ ⟨[v47, v48, v49, v50, v51, v52, v53, v54, v55, v56, v57, v58, .slice (some ⟨gb, 0, none⟩) 1 1, .string ⟨#[UInt8.ofNat n]⟩, v61, v62, v63, v64, v65, v66, v4], ?_, _, _, _, _, _, _, _, _, _, _, _, _, _, _, _, _, _, _, _, _, _, rfl, hc, hch, k0, k1, k2, k3, k4, k5, k6, k7, k8, k9, k10, k11, (fun _ => ⟨gb, n, rfl, hn, hcell, hgb, hgl⟩), (fun _ => ⟨_, rfl⟩), k14, k15, k16, k17, k18, k19, k20⟩
          simp only [putAll, List.setIfInBounds_toArray, List.set_cons_succ, List.set_cons_zero]
        · have e2 := k2 (hdep 2 (by kernel_rfl))
          subst e2
          obtain ⟨b, rfl⟩ := k13 (hdep 13 (by kernel_rfl))
          refine wpOp_step (by simp only [List.getElem?_toArray, List.getElem?_cons_succ, List.getElem?_cons_zero]; rfl) (fun K hK => ?_)
          go_simp
          rw [if_neg (by have h1 := one_size b; omega)]
          go_simp
          refine hK _ _ ⟨[v47, v48, .string (s.extract 0 k), v50, v51, v52, v53, v54, v55, v56, v57, v58, v59, .string ⟨#[b]⟩, .string (s.extract 0 k ++ ⟨#[b]⟩), v62, v63, v64, v65, v66, v4], ?_, _, _, _, _, _, _, _, _, _, _, _, _, _, _, _, _, _, _, _, _, _, rfl, hc, hch, k0, k1, (fun _ => rfl), k3, k4, k5, k6, k7, k8, k9, k10, k11, k12, (fun _ => ⟨b, rfl⟩), (fun _ => ⟨_, rfl, by rw [ByteArray.size_append, hsA, one_size]⟩), k15, k16, k17, k18, k19, k20⟩
          simp only [putAll, List.setIfInBounds_toArray, List.set_cons_succ, List.set_cons_zero]
        · refine wpOp_step (by simp only [List.getElem?_toArray, List.getElem?_cons_succ, List.getElem?_cons_zero]; rfl) (fun K hK => ?_)
          go_simp
          refine hK _ _ ⟨[v47, v48, v49, v50, v51, v52, v53, v54, v55, v56, v57, v58, v59, v60, v61, .string s, v63, v64, v65, v66, v4], ?_, _, _, _, _, _, _, _, _, _, _, _, _, _, _, _, _, _, _, _, _, _, rfl, hc, hch, k0, k1, k2, k3, k4, k5, k6, k7, k8, k9, k10, k11, k12, k13, k14, (fun _ => rfl), k16, k17, k18, k19, k20⟩
          simp only [putAll, List.setIfInBounds_toArray, List.set_cons_succ, List.set_cons_zero]
        · refine wpOp_step (by simp only [List.getElem?_toArray, List.getElem?_cons_succ, List.getElem?_cons_zero]; rfl) (fun K hK => ?_)
          go_simp
          refine hK _ _ ⟨[v47, v48, v49, v50, v51, v52, v53, v54, v55, v56, v57, v58, v59, v60, v61, v62, .int .i64 (k : Int), v64, v65, v66, v4], ?_, _, _, _, _, _, _, _, _, _, _, _, _, _, _, _, _, _, _, _, _, _, rfl, hc, hch, k0, k1, k2, k3, k4, k5, k6, k7, k8, k9, k10, k11, k12, k13, k14, k15, (fun _ => rfl), k17, k18, k19, k20⟩
          simp only [putAll, List.setIfInBounds_toArray, List.set_cons_succ, List.set_cons_zero]
        · have e16 := k16 (hdep 16 (by kernel_rfl))
          subst e16
          have hw : IntKind.i64.wrap ((k : Int) + 1) = k + 1 := by rw [IntKind.wrap_i64]; omega
          refine wpOp_step (by simp only [List.getElem?_toArray, List.getElem?_cons_succ, List.getElem?_cons_zero]; rfl) (fun K hK => ?_)
          go_simp
          refine hK _ _ ⟨[v47, v48, v49, v50, v51, v52, v53, v54, v55, v56, v57, v58, v59, v60, v61, v62, .int .i64 (k : Int), .int .i64 ((k : Int) + 1), v65, v66, v4], ?_, _, _, _, _, _, _, _, _, _, _, _, _, _, _, _, _, _, _, _, _, _, rfl, hc, hch, k0, k1, k2, k3, k4, k5, k6, k7, k8, k9, k10, k11, k12, k13, k14, k15, (fun _ => rfl), (fun _ => rfl), k18, k19, k20⟩
          simp only [putAll, List.setIfInBounds_toArray, List.set_cons_succ, List.set_cons_zero]
        · have e15 := k15 (hdep 15 (by kernel_rfl))
          subst e15
          have e17 := k17 (hdep 17 (by kernel_rfl))
          subst e17
          refine wpOp_step (by simp only [List.getElem?_toArray, List.getElem?_cons_succ, List.getElem?_cons_zero]; rfl) (fun K hK => ?_)
          go_simp
          rw [if_pos (by omega)]
          go_simp
          refine hK _ _ ⟨[v47, v48, v49, v50, v51, v52, v53, v54, v55, v56, v57, v58, v59, v60, v61, .string s, v63, .int .i64 ((k : Int) + 1), .string (s.extract (k + 1) s.size), v66, v4], ?_, _, _, _, _, _, _, _, _, _, _, _, _, _, _, _, _, _, _, _, _, _, rfl, hc, hch, k0, k1, k2, k3, k4, k5, k6, k7, k8, k9, k10, k11, k12, k13, k14, (fun _ => rfl), k16, (fun _ => rfl), (fun _ => rfl), k19, k20⟩
          simp only [putAll, List.setIfInBounds_toArray, List.set_cons_succ, List.set_cons_zero]
        · obtain ⟨r, rfl, hr⟩ := k14 (hdep 14 (by kernel_rfl))
          have e18 := k18 (hdep 18 (by kernel_rfl))
          subst e18
          refine wpOp_step (by simp only [List.getElem?_toArray, List.getElem?_cons_succ, List.getElem?_cons_zero]; rfl) (fun K hK => ?_)
          go_simp
          rw [if_neg (by omega)]
          go_simp
          refine hK _ _ ⟨[v47, v48, v49, v50, v51, v52, v53, v54, v55, v56, v57, v58, v59, v60, .string r, v62, v63, v64, .string (s.extract (k + 1) s.size), .string (r ++ s.extract (k + 1) s.size), v4], ?_, _, _, _, _, _, _, _, _, _, _, _, _, _, _, _, _, _, _, _, _, _, rfl, hc, hch, k0, k1, k2, k3, k4, k5, k6, k7, k8, k9, k10, k11, k12, k13, (fun _ => ⟨r, rfl, hr⟩), k15, k16, k17, (fun _ => rfl), (fun _ => ⟨_, rfl, by rw [ByteArray.size_append, hsC, hr]; omega⟩), k20⟩
          simp only [putAll, List.setIfInBounds_toArray, List.set_cons_succ, List.set_cons_zero]
        · obtain ⟨r, rfl, hr⟩ := k19 (hdep 19 (by kernel_rfl))
          refine wpOp_step (by simp only [List.getElem?_toArray, List.getElem?_cons_succ, List.getElem?_cons_zero]; rfl) (fun K hK => ?_)
          go_simp
          refine hK _ _ ⟨[v47, v48, v49, v50, v51, v52, v53, v54, v55, v56, v57, v58, v59, v60, v61, v62, v63, v64, v65, .string r, .string r], ?_, _, _, _, _, _, _, _, _, _, _, _, _, _, _, _, _, _, _, _, _, _, rfl, hc, hch, k0, k1, k2, k3, k4, k5, k6, k7, k8, k9, k10, k11, k12, k13, k14, k15, k16, k17, k18, (fun _ => ⟨r, rfl, hr⟩), (fun _ => ⟨_, rfl, hr⟩)⟩
          simp only [putAll, List.setIfInBounds_toArray, List.set_cons_succ, List.set_cons_zero]
      · intro D vs w' hD hI
        obtain ⟨v47, v48, v49, v50, v51, v52, v53, v54, v55, v56, v57, v58, v59, v60, v61, v62, v63, v64, v65, v66, v4, rfl, hc, hch, k0, k1, k2, k3, k4, k5, k6, k7, k8, k9, k10, k11, k12, k13, k14, k15, k16, k17, k18, k19, k20⟩ := hI
        simp only [putAll, List.setIfInBounds_toArray, List.set_cons_succ, List.set_cons_zero]
        obtain ⟨r, rfl, hr⟩ := k20 (hD 20 (show 20 < 21 by decide))
        go_wp2
        go_returns
        exact ⟨r, rfl, by omega, hc, hch⟩
end Go.Proofs.Ytbijkdpifnncmaa
