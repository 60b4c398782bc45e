/- The draw of a text: l1Text. -/
import Derived.Test.YtbijkdpifnncmaaDraw
import Derived.Test.YtbijkdpifnncmaaByteRow
namespace Go.Proofs.Ytbijkdpifnncmaa
open Go.RowKit

theorem conv_some {w : World} {base g n c : Nat} {xs : List UInt8} (h : w.ownsRow base 5 1 (.slice (some ⟨g, 0, none⟩) n c) n (xs.map byteV)) :
    (convert 22 9 (.slice (some ⟨g, 0, none⟩) n c)).run Try.prog w = .ok (.string ⟨xs.toArray⟩) w := by
  have hl : xs.length = n := by have := h.1; simpa using this
  subst hl
  exact run_convert_bytes_back (P := Try.prog) w 22 9 5 ⟨g, 0, none⟩ c xs Try.underlying22 Try.underlying5 Try.underlying9 (by
    intro t ht
    rw [Addr.add_lit, Nat.zero_add, h.cellAt t (by simpa using ht)]
    simp only [List.getElem?_map, List.getElem?_eq_getElem ht]
    rfl)
theorem byte_ex {b : Int} (h0 : 0 ≤ b) (h1 : b ≤ 255) : ∃ x : UInt8, Value.int .u8 b = byteV x := by
  obtain ⟨n, rfl⟩ := Int.eq_ofNat_of_zero_le h0
  exact ⟨UInt8.ofNat n, (byteV_of (by omega)).symm⟩

set_option maxRecDepth 4000 in
set_option maxHeartbeats 1000000 in
theorem l1Text_any (g : Nat) (most : Int) (w : World) (h : Cur w g) (h0 : 0 ≤ most) (hm : most ≤ 200) :
    Calls Try.prog 66 #[.pointer (some ⟨g, 0, none⟩), .int .i64 most] w fun e w' => ∃ s : ByteArray, e = .returned (.string s) ∧ (s.size : Int) ≤ most ∧ Cur w' g ∧ Ch (fun k => k = g) w w' := by
  have hlt := h.lt
  have al := (Below.refl w.heap.size w).alloc (Nat.le_refl _) (.cells #[] 5)
  go_enter Try.func66, Try.ntmps66
  go_wp2_with fail
  refine (l1Below_any g _ _ (h.keep al) (by omega)).mono ?_
  rintro e w1 ⟨x, rfl, hx0, hx1, _, hc1, hch1⟩
  obtain ⟨q, rfl⟩ := Int.eq_ofNat_of_zero_le hx0
  have hq : q < 4 := by have := hx1 (by omega); omega
  clear hx0 hx1
  have hown1 := own_ch (own_empty w 5 1 (Nat.le_refl w.heap.size)) hch1 (fun k hk e => by simp [Value.ownBlock] at hk; omega)
  have hchw : Ch (fun k => k = g) w w1 := (Ch.of_below al).trans hch1
  go_wp2_with fail
  refine (l1Below_any g _ _ hc1 (by omega)).mono ?_
  rintro e w2 ⟨x, rfl, hx0, hx1, _, hc2, hch2⟩
  obtain ⟨m, rfl⟩ := Int.eq_ofNat_of_zero_le hx0
  have hmm : (m : Int) ≤ most := by have := hx1 (by omega); omega
  clear hx0 hx1
  have hown2 := own_off hown1 hch2 (by omega)
  have hchw2 := hchw.trans hch2
  clear hown1 hchw hch1 hch2 hc1
  go_wp2
  go_loopw [5, 7] (fun o u wr => ∃ (k : Nat) (L : List UInt8) (o0 cap : Nat), u = .int .i64 k ∧ L.length + k = m ∧ o = .slice (some ⟨o0, 0, none⟩) L.length cap ∧ wr.ownsRow w.heap.size 5 1 (.slice (some ⟨o0, 0, none⟩) L.length cap) L.length (L.map byteV) ∧ Cur wr g ∧ Ch (fun k => k = g) w wr) (fun _ u _ => (intOf u).toNat)
  case atStart => exact ⟨m, [], _, 0, rfl, by simp, rfl, hown2, hc2, hchw2⟩
  case round =>
    obtain ⟨k, L, o0, cap, rfl, hk, rfl, hown, hc, hch⟩ := hrel
    by_cases hpos : 0 < k
    · have hki : (0 : Int) < (k : Int) := by omega
      have hzw := hch.size
      go_wp2_with fail
      refine (l1Byte_any g _ hc).mono ?_
      rintro e w3 ⟨b, rfl, hb0, hb1, hc3, hch3⟩
      have hown3 := own_off hown hch3 (by omega)
      have hz3 : w.heap.size ≤ w3.heap.size := Nat.le_trans hzw hch3.size
      have hch4 := hch.trans hch3
      clear hown hch hch3
      have fin : ∀ (b' : Int) (A' : Option Addr) (c' : Nat) (w4 : World), 0 ≤ b' → b' ≤ 255 → w4.ownsRow w.heap.size 5 1 (.slice A' (L.length + 1) c') (L.length + 1) (L.map byteV ++ [.int .u8 b']) → Below w.heap.size w3 w4 →
          ∃ (L' : List UInt8) (o1 : Nat), L'.length = L.length + 1 ∧ A' = some ⟨o1, 0, none⟩ ∧ w4.ownsRow w.heap.size 5 1 (.slice (some ⟨o1, 0, none⟩) L'.length c') L'.length (L'.map byteV) ∧ Cur w4 g ∧ Ch (fun k => k = g) w w4 := by
        intro b' A' c' w4 k0 k1 ho hb
        obtain ⟨x, hx⟩ := byte_ex k0 k1
        rw [hx] at ho
        obtain ⟨o1, rfl⟩ := (RowIn.of_own ho).head (by omega)
        exact ⟨L ++ [x], o1, by simp, rfl, by simpa using ho, hc3.below hb hlt, hch4.thenB hb⟩
      have FIN := Lib.hid fin
      have hkL : L.length < 201 := by omega
      clear fin hc3 hch4
      rcases (show q = 0 ∨ q = 1 ∨ q = 2 ∨ q = 3 by omega) with rfl | rfl | rfl | rfl
      · go_wp2_with (at_builtin; refine wpList_app1g (P := Try.prog) w3 rfl (.tmp 31) (.tmp 34) 22 rfl w.heap.size 5 _ 1 1 Try.underlying22 infoByteV rfl (by omega) (.slice (some ⟨o0, 0, none⟩) L.length cap) _ _ rfl hown3 _ _ rfl (by simp) rfl (by simp [Value.oneCell']) (by unfold maxLen; omega) (by omega) hz3 ?_; intro A' c' w4 hown4 hg4 hb4 _)
        obtain ⟨L', o1, hl', rfl, r1, r2, r3⟩ := FIN.out _ _ _ _ (by omega) (by omega) hown4 hb4
        exact ⟨⟨k - 1, by omega, L', by omega, o1, c', by rw [hl']; exact ⟨rfl, rfl, rfl⟩, r1, r2, r3⟩, by simp [intOf]; omega⟩
      · have hb2 : 0 ≤ b % 2 ∧ b % 2 ≤ 255 := by omega
        go_wp2_with (at_builtin; refine wpList_app1g (P := Try.prog) w3 rfl (.tmp 31) (.tmp 34) 22 rfl w.heap.size 5 _ 1 1 Try.underlying22 infoByteV rfl (by omega) (.slice (some ⟨o0, 0, none⟩) L.length cap) _ _ rfl hown3 _ _ rfl (by simp) rfl (by simp [Value.oneCell']) (by unfold maxLen; omega) (by omega) hz3 ?_; intro A' c' w4 hown4 hg4 hb4 _)
        obtain ⟨L', o1, hl', rfl, r1, r2, r3⟩ := FIN.out _ _ _ _ (by omega) (by omega) hown4 hb4
        exact ⟨⟨k - 1, by omega, L', by omega, o1, c', by rw [hl']; exact ⟨rfl, rfl, rfl⟩, r1, r2, r3⟩, by simp [intOf]; omega⟩
      · have hb2 : 0 ≤ b % 4 ∧ b % 4 ≤ 3 := by omega
        go_wp2_with (at_builtin; refine wpList_app1g (P := Try.prog) w3 rfl (.tmp 31) (.tmp 34) 22 rfl w.heap.size 5 _ 1 1 Try.underlying22 infoByteV rfl (by omega) (.slice (some ⟨o0, 0, none⟩) L.length cap) _ _ rfl hown3 _ _ rfl (by simp) rfl (by simp [Value.oneCell']) (by unfold maxLen; omega) (by omega) hz3 ?_; intro A' c' w4 hown4 hg4 hb4 _)
        obtain ⟨L', o1, hl', rfl, r1, r2, r3⟩ := FIN.out _ _ _ _ (by omega) (by omega) hown4 hb4
        exact ⟨⟨k - 1, by omega, L', by omega, o1, c', by rw [hl']; exact ⟨rfl, rfl, rfl⟩, r1, r2, r3⟩, by simp [intOf]; omega⟩
      · go_wp2_with (at_builtin; refine wpList_app1g (P := Try.prog) w3 rfl (.tmp 31) (.tmp 34) 22 rfl w.heap.size 5 _ 1 1 Try.underlying22 infoByteV rfl (by omega) (.slice (some ⟨o0, 0, none⟩) L.length cap) _ _ rfl hown3 _ _ rfl (by simp) rfl (by simp [Value.oneCell']) (by unfold maxLen; omega) (by omega) hz3 ?_; intro A' c' w4 hown4 hg4 hb4 _)
        obtain ⟨L', o1, hl', rfl, r1, r2, r3⟩ := FIN.out _ _ _ _ (by omega) (by omega) hown4 hb4
        exact ⟨⟨k - 1, by omega, L', by omega, o1, c', by rw [hl']; exact ⟨rfl, rfl, rfl⟩, r1, r2, r3⟩, by simp [intOf]; omega⟩
    · have hk0 : k = 0 := by omega
      subst hk0
      have hcv := conv_some hown
      have hsz : (⟨L.toArray⟩ : ByteArray).size = L.length := by show L.toArray.size = _; simp
      go_wp2
      go_returns
      exact ⟨_, rfl, by rw [hsz]; omega, hc, hch⟩

end Go.Proofs.Ytbijkdpifnncmaa
