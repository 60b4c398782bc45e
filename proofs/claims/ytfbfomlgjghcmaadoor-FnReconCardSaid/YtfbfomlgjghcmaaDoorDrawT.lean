/- The draws of texts: l1Text; of sets: l31Set, DrawRecon. -/
import Derived.Test.YtfbfomlgjghcmaaDoorDraw
import Derived.Test.YtfbfomlgjghcmaaDoorByteRow
import Derived.Test.YtfbfomlgjghcmaaDoorPut
import Derived.Test.YtfbfomlgjghcmaaDoorFixed
import Derived.Test.YtfbfomlgjghcmaaDoorLacks
namespace Go.Proofs.YtfbfomlgjghcmaaDoor
open Go.RowKit
attribute [local irreducible] StrsAt

theorem conv_some {w : World} {base g n c : Nat} {xs : List UInt8} (h : w.ownsRow base 5 1 (.slice (some ⟨g, 0, none⟩) n c) n (xs.map byteV)) :
    (convert 33 9 (.slice (some ⟨g, 0, none⟩) n c)).run Tryd.prog w = .ok (.string ⟨xs.toArray⟩) w := by
  have hl : xs.length = n := by have := h.1; simpa using this
  subst hl
  exact run_convert_bytes_back (P := Tryd.prog) w 33 9 5 ⟨g, 0, none⟩ c xs Tryd.underlying33 Tryd.underlying5 Tryd.underlying9 (by
    intro t ht
    rw [Addr.add_lit, Nat.zero_add, h.cellAt t (by simpa using ht)]
    simp only [List.getElem?_map, List.getElem?_eq_getElem ht]
    rfl)
theorem byte_ex {b : Int} (h0 : 0 ≤ b) (h1 : b ≤ 255) : ∃ x : UInt8, Value.int .u8 b = byteV x := by
  obtain ⟨n, rfl⟩ := Int.eq_ofNat_of_zero_le h0
  exact ⟨UInt8.ofNat n, (byteV_of (by omega)).symm⟩

set_option maxRecDepth 4000 in
set_option maxHeartbeats 1000000 in
theorem l1Text_any (g : Nat) (most : Int) (w : World) (h : Cur w g) (h0 : 0 ≤ most) (hm : most ≤ 200) :
    Calls Tryd.prog 51 #[.pointer (some ⟨g, 0, none⟩), .int .i64 most] w fun e w' => ∃ s : ByteArray, e = .returned (.string s) ∧ (s.size : Int) ≤ most ∧ Cur w' g ∧ Ch (fun k => k = g) w w' := by
  have hlt := h.lt
  have al := (Below.refl w.heap.size w).alloc (Nat.le_refl _) (.cells #[] 5)
  go_enter Tryd.func51, Tryd.ntmps51
  go_wp2_with fail
  refine (l1Below_any g _ _ (h.keep al) (by omega)).mono ?_
  rintro e w1 ⟨x, rfl, hx0, hx1, _, hc1, hch1⟩
  obtain ⟨q, rfl⟩ := Int.eq_ofNat_of_zero_le hx0
  have hq : q < 4 := by have := hx1 (by omega); omega
  clear hx0 hx1
  have hown1 := own_ch (own_empty w 5 1 (Nat.le_refl w.heap.size)) hch1 (fun k hk e => by simp [Value.ownBlock] at hk; omega)
  have hchw : Ch (fun k => k = g) w w1 := (Ch.of_below al).trans hch1
  go_wp2_with fail
  refine (l1Below_any g _ _ hc1 (by omega)).mono ?_
  rintro e w2 ⟨x, rfl, hx0, hx1, _, hc2, hch2⟩
  obtain ⟨m, rfl⟩ := Int.eq_ofNat_of_zero_le hx0
  have hmm : (m : Int) ≤ most := by have := hx1 (by omega); omega
  clear hx0 hx1
  have hown2 := own_off hown1 hch2 (by omega)
  have hchw2 := hchw.trans hch2
  clear hown1 hchw hch1 hch2 hc1
  go_wp2
  go_loopw [5, 7] (fun o u wr => ∃ (k : Nat) (L : List UInt8) (o0 cap : Nat), u = .int .i64 k ∧ L.length + k = m ∧ o = .slice (some ⟨o0, 0, none⟩) L.length cap ∧ wr.ownsRow w.heap.size 5 1 (.slice (some ⟨o0, 0, none⟩) L.length cap) L.length (L.map byteV) ∧ Cur wr g ∧ Ch (fun k => k = g) w wr) (fun _ u _ => (intOf u).toNat)
  case atStart => exact ⟨m, [], _, 0, rfl, by simp, rfl, hown2, hc2, hchw2⟩
  case round =>
    obtain ⟨k, L, o0, cap, rfl, hk, rfl, hown, hc, hch⟩ := hrel
    by_cases hpos : 0 < k
    · have hki : (0 : Int) < (k : Int) := by omega
      have hzw := hch.size
      go_wp2_with fail
      refine (l1Byte_any g _ hc).mono ?_
      rintro e w3 ⟨b, rfl, hb0, hb1, hc3, hch3⟩
      have hown3 := own_off hown hch3 (by omega)
      have hz3 : w.heap.size ≤ w3.heap.size := Nat.le_trans hzw hch3.size
      have hch4 := hch.trans hch3
      clear hown hch hch3
      have fin : ∀ (b' : Int) (A' : Option Addr) (c' : Nat) (w4 : World), 0 ≤ b' → b' ≤ 255 → w4.ownsRow w.heap.size 5 1 (.slice A' (L.length + 1) c') (L.length + 1) (L.map byteV ++ [.int .u8 b']) → Below w.heap.size w3 w4 →
          ∃ (L' : List UInt8) (o1 : Nat), L'.length = L.length + 1 ∧ A' = some ⟨o1, 0, none⟩ ∧ w4.ownsRow w.heap.size 5 1 (.slice (some ⟨o1, 0, none⟩) L'.length c') L'.length (L'.map byteV) ∧ Cur w4 g ∧ Ch (fun k => k = g) w w4 := by
        intro b' A' c' w4 k0 k1 ho hb
        obtain ⟨x, hx⟩ := byte_ex k0 k1
        rw [hx] at ho
        obtain ⟨o1, rfl⟩ := (RowIn.of_own ho).head (by omega)
        exact ⟨L ++ [x], o1, by simp, rfl, by simpa using ho, hc3.below hb hlt, hch4.thenB hb⟩
      have FIN := Lib.hid fin
      have hkL : L.length < 201 := by omega
      clear fin hc3 hch4
      rcases (show q = 0 ∨ q = 1 ∨ q = 2 ∨ q = 3 by omega) with rfl | rfl | rfl | rfl
      · go_wp2_with (at_builtin; refine wpList_app1g (P := Tryd.prog) w3 rfl (.tmp 31) (.tmp 34) 33 rfl w.heap.size 5 _ 1 1 Tryd.underlying33 infoByteV rfl (by omega) (.slice (some ⟨o0, 0, none⟩) L.length cap) _ _ rfl hown3 _ _ rfl (by simp) rfl (by simp [Value.oneCell']) (by unfold maxLen; omega) (by omega) hz3 ?_; intro A' c' w4 hown4 hg4 hb4 _)
        obtain ⟨L', o1, hl', rfl, r1, r2, r3⟩ := FIN.out _ _ _ _ (by omega) (by omega) hown4 hb4
        exact ⟨⟨k - 1, by omega, L', by omega, o1, c', by rw [hl']; exact ⟨rfl, rfl, rfl⟩, r1, r2, r3⟩, by simp [intOf]; omega⟩
      · have hb2 : 0 ≤ b % 2 ∧ b % 2 ≤ 255 := by omega
        go_wp2_with (at_builtin; refine wpList_app1g (P := Tryd.prog) w3 rfl (.tmp 31) (.tmp 34) 33 rfl w.heap.size 5 _ 1 1 Tryd.underlying33 infoByteV rfl (by omega) (.slice (some ⟨o0, 0, none⟩) L.length cap) _ _ rfl hown3 _ _ rfl (by simp) rfl (by simp [Value.oneCell']) (by unfold maxLen; omega) (by omega) hz3 ?_; intro A' c' w4 hown4 hg4 hb4 _)
        obtain ⟨L', o1, hl', rfl, r1, r2, r3⟩ := FIN.out _ _ _ _ (by omega) (by omega) hown4 hb4
        exact ⟨⟨k - 1, by omega, L', by omega, o1, c', by rw [hl']; exact ⟨rfl, rfl, rfl⟩, r1, r2, r3⟩, by simp [intOf]; omega⟩
      · have hb2 : 0 ≤ b % 4 ∧ b % 4 ≤ 3 := by omega
        go_wp2_with (at_builtin; refine wpList_app1g (P := Tryd.prog) w3 rfl (.tmp 31) (.tmp 34) 33 rfl w.heap.size 5 _ 1 1 Tryd.underlying33 infoByteV rfl (by omega) (.slice (some ⟨o0, 0, none⟩) L.length cap) _ _ rfl hown3 _ _ rfl (by simp) rfl (by simp [Value.oneCell']) (by unfold maxLen; omega) (by omega) hz3 ?_; intro A' c' w4 hown4 hg4 hb4 _)
        obtain ⟨L', o1, hl', rfl, r1, r2, r3⟩ := FIN.out _ _ _ _ (by omega) (by omega) hown4 hb4
        exact ⟨⟨k - 1, by omega, L', by omega, o1, c', by rw [hl']; exact ⟨rfl, rfl, rfl⟩, r1, r2, r3⟩, by simp [intOf]; omega⟩
      · go_wp2_with (at_builtin; refine wpList_app1g (P := Tryd.prog) w3 rfl (.tmp 31) (.tmp 34) 33 rfl w.heap.size 5 _ 1 1 Tryd.underlying33 infoByteV rfl (by omega) (.slice (some ⟨o0, 0, none⟩) L.length cap) _ _ rfl hown3 _ _ rfl (by simp) rfl (by simp [Value.oneCell']) (by unfold maxLen; omega) (by omega) hz3 ?_; intro A' c' w4 hown4 hg4 hb4 _)
        obtain ⟨L', o1, hl', rfl, r1, r2, r3⟩ := FIN.out _ _ _ _ (by omega) (by omega) hown4 hb4
        exact ⟨⟨k - 1, by omega, L', by omega, o1, c', by rw [hl']; exact ⟨rfl, rfl, rfl⟩, r1, r2, r3⟩, by simp [intOf]; omega⟩
    · have hk0 : k = 0 := by omega
      subst hk0
      have hcv := conv_some hown
      have hsz : (⟨L.toArray⟩ : ByteArray).size = L.length := by show L.toArray.size = _; simp
      go_wp2
      go_returns
      exact ⟨_, rfl, by rw [hsz]; omega, hc, hch⟩

/-- a list of few short texts that a draw made -/
def SetDraw (w : World) (g : Nat) (e : Ending) (w' : World) : Prop :=
  ∃ A n c l, e = .returned (.slice A n c) ∧ StrsIn w.heap.size w'.heap.size w' A n c l ∧ l.length ≤ 11 ∧ (∀ x ∈ l, x.size ≤ 9) ∧ Cur w' g ∧ Ch (fun k => k = g) w w'

theorem ofL_ofD (s : ByteArray) : ∃ x, s = ofL x ∧ x = toL s := ⟨toL s, (ofL_toL s).symm, rfl⟩

set_option maxRecDepth 4000 in
set_option maxHeartbeats 1000000 in
theorem l31Set_any (g : Nat) (w : World) (h : Cur w g) :
    Calls Tryd.prog 40 #[.pointer (some ⟨g, 0, none⟩)] w (SetDraw w g) := by
  have hlt := h.lt
  have al := (Below.refl w.heap.size w).alloc (Nat.le_refl _) (.cells #[] 9)
  go_enter Tryd.func40, Tryd.ntmps40
  go_wp2_with fail
  refine (l1Below_any g _ _ (h.keep al) (by omega)).mono ?_
  rintro e w1 ⟨x, rfl, hx0, hx1, _, hc1, hch1⟩
  obtain ⟨m, rfl⟩ := Int.eq_ofNat_of_zero_le hx0
  have hm : m < 10 := by have := hx1 (by omega); omega
  clear hx0 hx1
  have hown1 := own_ch (own_str w (Nat.le_refl w.heap.size)) hch1 (fun k hk e => by simp [Value.ownBlock] at hk; omega)
  have hrow1 := StrsIn.of_own hown1
  have hchw : Ch (fun k => k = g) w w1 := (Ch.of_below al).trans hch1
  clear hown1 hch1
  go_wp2
  go_loopw [3, 4] (fun o u wr => ∃ (k N : Nat) (L : List By) (O : Option Addr) (cap : Nat), u = .int .i64 k ∧ L.length + k ≤ m ∧ o = .slice O N cap ∧ StrsIn w.heap.size wr.heap.size wr O N cap (txs L) ∧ (∀ x ∈ L, x.length ≤ 9) ∧ Cur wr g ∧ Ch (fun k => k = g) w wr) (fun _ u _ => (intOf u).toNat)
  case atStart => exact ⟨m, 0, [], _, 0, rfl, by simp, rfl, hrow1, (fun x hx => by cases hx), hc1, hchw⟩
  case round =>
    clear hrow1 hc1 hchw
    obtain ⟨k, N, L, O, cap, rfl, hk, rfl, hrow, hsm, hc, hch⟩ := hrel
    by_cases hpos : 0 < k
    · have hki : (0 : Int) < (k : Int) := by omega
      have hzw := hch.size
      go_wp2_with fail
      refine (l1Below_any g _ _ hc (by omega)).mono ?_
      rintro e w2 ⟨b, rfl, hb0, hb1, _, hc2, hch2⟩
      have hb40 := hb1 (by omega)
      obtain ⟨n, rfl⟩ := Int.eq_ofNat_of_zero_le hb0
      have hn40 : n < 40 := by omega
      have hrow2 : StrsIn w.heap.size w2.heap.size w2 O N cap (txs L) := (hrow.ch hch2 (fun k hk e => by unfold Iv at hk; omega)).wide (Nat.le_refl _) hch2.size
      have hchw2 := hch.trans hch2
      have hcv := run_byte_string w2 n (by omega)
      clear hb0 hb1 hrow hch hch2
      have hal := (Below.refl w2.heap.size w2).alloc (Nat.le_refl _) (.cells #[.int .u8 (n : Int)] 5)
      have hrow3 := hrow2.keep hal
      have hc3 := hc2.keep hal
      have hchw3 := hchw2.trans (Ch.of_below hal)
      have hN : N ≤ 9 := by have := strsLen hrow2.at_; rw [txs_len] at this; omega
      go_wp2_with fail
      obtain ⟨y, hy, hy2⟩ := ofL_ofD (⟨#[UInt8.ofNat n]⟩ ++ ⟨#[45, 99, 104, 117, 110, 107, 45]⟩)
      have hy8 : y.length = 8 := by rw [hy2]; unfold toL; simp [ByteArray.data_append]
      rw [hy]
      clear hy hy2
      refine (l15Put_any _ _ _ _ y _ hrow3.at_ (by omega)).mono ?_
      rintro e w4 ⟨O4, N4, c4, rfl, hrow4, hb4⟩
      have hz : w.heap.size ≤ w2.heap.size + 1 := by have := hchw2.size; omega
      simp only [World.size_alloc] at hrow4
      go_wp2
      refine ⟨⟨k - 1, N4, putB L y, O4, c4, by congr 1; omega, ?_, rfl, hrow4.wide hz (Nat.le_refl _), ?_, hc3.keep hb4, hchw3.trans (Ch.of_below hb4)⟩, by simp [intOf]; omega⟩
      · have := putB_len L y; omega
      · intro x hx
        rcases putB_mem.1 hx with rfl | hx
        · omega
        · exact hsm x hx
    · have hk0 : k = 0 := by omega
      subst hk0
      have hN : N ≤ 9 := by have := strsLen hrow.at_; rw [txs_len] at this; omega
      have hT : ∀ x ∈ txs L, x.size ≤ 9 := fun x hx => by
        obtain ⟨y, hy, rfl⟩ := List.mem_map.1 hx
        have := hsm y hy
        show y.toArray.size ≤ 9
        simpa using this
      go_wp2_with fail
      refine (l1Once_any g _ _ hc (by omega)).mono ?_
      rintro e w2 ⟨b, rfl, hc2, hch2⟩
      have hrow2 : StrsIn w.heap.size w2.heap.size w2 O N cap (txs L) := (hrow.ch hch2 (fun k hk e => by unfold Iv at hk; omega)).wide (Nat.le_refl _) hch2.size
      have hchw2 := hch.trans hch2
      have hz2 := hchw2.size
      clear hrow hc hch hch2
      cases b
      · go_wp2
        go_returns
        exact ⟨O, N, cap, txs L, rfl, hrow2, by rw [txs_len]; omega, hT, hc2, hchw2⟩
      · go_wp2_with fail
        refine (l1Text_any g _ _ hc2 (by omega) (by omega)).mono ?_
        rintro e w3 ⟨s, rfl, hs9, hc3, hch3⟩
        have hrow3 : StrsIn w.heap.size w3.heap.size w3 O N cap (txs L) := (hrow2.ch hch3 (fun k hk e => by unfold Iv at hk; omega)).wide (Nat.le_refl _) hch3.size
        have hown3 := hrow3.row.own
        have hchw3 := hchw2.trans hch3
        have hz3 := hchw3.size
        go_wp2_with (at_builtin; refine wpList_app1g (P := Tryd.prog) w3 rfl (.tmp 22) (.tmp 25) 22 rfl w.heap.size 9 _ 1 16 Tryd.underlying22 infoString rfl (by omega) (.slice O N cap) _ _ rfl hown3 _ _ rfl (by simp) rfl (by simp [Value.oneCell']) (by unfold maxLen; omega) (by omega) hz3 ?_; intro A' c' w4 hown4 hg4 hb4 _)
        go_returns
        refine ⟨A', N + 1, c', txs L ++ [s], rfl, StrsIn.of_own (by simpa using hown4), by rw [List.length_append, txs_len]; simp; omega, fun x hx => ?_, hc3.below hb4 hlt, hchw3.thenB hb4⟩
        rcases List.mem_append.1 hx with hx | hx
        · exact hT x hx
        · have : x = s := by simpa using hx
          subst this; omega

attribute [local irreducible] setOkB lacks
set_option maxHeartbeats 1000000 in
theorem drawRecon_any (A : Option Addr) (n c : Nat) (f : Nat → Int) (w : World) (h : CodeAt w A n f) (hn : n ≤ 1048576) :
    Calls Tryd.prog 22 #[.slice A n c] w fun e w' => ∃ (s1 s2 : Nat) (A0 : Option Addr) (n0 c0 : Nat) (l0 : List ByteArray) (A1 : Option Addr) (n1 c1 : Nat) (l1 : List ByteArray), e = .returned (.tuple #[.slice A0 n0 c0, .slice A1 n1 c1]) ∧
      StrsIn w.heap.size w'.heap.size w' A0 n0 c0 l0 ∧ StrsIn w.heap.size w'.heap.size w' A1 n1 c1 l1 ∧ l0.length ≤ 11 ∧ l1.length ≤ 11 ∧ (∀ x ∈ l0, x.size ≤ 9) ∧ (∀ x ∈ l1, x.size ≤ 9) ∧ Below w.heap.size w w' := by
  go_enter Tryd.func22, Tryd.ntmps22
  go_wp2_with fail
  refine (l1New_any _ _ _ _ _ h hn).mono ?_
  rintro e w1 ⟨rfl, hc1, hb1⟩
  go_wp2_with fail
  refine (l31Set_any _ _ hc1).mono ?_
  rintro e w2 ⟨A0, n0, c0, l0, rfl, hr2, hl0, hs0, hc2, hch2⟩
  have hB2 := hb1.trans (hch2.below (B := w.heap.size) (fun k hk => by omega) hb1.size)
  go_wp2_with fail
  refine (l1Once_any _ _ _ hc2 (by omega)).mono ?_
  rintro e w3 ⟨b, rfl, hc3, hch3⟩
  have hz1 := hc1.lt
  have hr3 := hr2.ch hch3 (fun k hk e => by unfold Iv at hk; omega)
  have hB3 := hB2.trans (hch3.below (B := w.heap.size) (fun k hk => by omega) hB2.size)
  have hz2 := hch2.size
  have hz3 := hch3.size
  have hzb := hb1.size
  clear hr2 hc2 hch2 hc1 hB2 hch3
  cases b
  · go_wp2_with fail
    refine (l31Set_any _ _ hc3).mono ?_
    rintro e w4 ⟨A1, n1, c1, l1, rfl, hr4, hl1, hs1, hc4, hch4⟩
    have hr5 := hr3.ch hch4 (fun k hk e => by unfold Iv at hk; omega)
    have hz4 := hch4.size
    go_wp2
    go_returns
    exact ⟨0, 0, A0, n0, c0, l0, A1, n1, c1, l1, rfl, hr5.wide (by omega) (by omega), hr4.wide (by omega) (Nat.le_refl _), hl0, hl1, hs0, hs1, hB3.trans (hch4.below (B := w.heap.size) (fun k hk => by omega) hB3.size)⟩
  · go_wp2_with fail
    refine (l31Set_any _ _ hc3).mono ?_
    rintro e w4 ⟨A1, n1, c1, l1, rfl, hr4, hl1, hs1, hc4, hch4⟩
    have hr5 := hr3.ch hch4 (fun k hk e => by unfold Iv at hk; omega)
    have hz4 := hch4.size
    have hB4 := hB3.trans (hch4.below (B := w.heap.size) (fun k hk => by omega) hB3.size)
    have hn1 : n1 ≤ 11 := by have := strsLen hr4.at_; omega
    have hn0 : n0 ≤ 11 := by have := strsLen hr5.at_; omega
    go_wp2_with fail
    refine (lacks_spec _ _ _ _ _ _ _ _ _ hr4.at_ hr5.at_ (by omega) (by omega)).mono ?_
    rintro e w5 ⟨A2, n2, c2, rfl, hr6, hb5⟩
    have hz5 := hb5.size
    go_wp2
    go_returns
    refine ⟨0, 0, A0, n0, c0, l0, A2, n2, c2, lacks l1 l0, rfl, (hr5.keep hb5).wide (by omega) (by omega), hr6.wide (by omega) (Nat.le_refl _), hl0, Nat.le_trans (lacks_len _ _) hl0, hs0, fun x hx => ?_, bthen hB4 hb5⟩
    unfold lacks at hx
    split at hx
    · exact hs0 x (List.mem_of_mem_take (List.mem_filter.1 hx).1)
    · cases hx
end Go.Proofs.YtfbfomlgjghcmaaDoor
