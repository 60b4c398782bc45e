/- Contracts of Recon, the program's and the reference's. -/
import Derived.Test.YtfbfomlgjghcmaaDoorReconL
import Derived.Test.YtfbfomlgjghcmaaDoorCopyT
namespace Go.Proofs.YtfbfomlgjghcmaaDoor
open Go.RowKit
attribute [local irreducible] StrsAt IntsAt setOkB

theorem ofL_of (s : ByteArray) : ∃ x, s = ofL x ∧ x = toL s := ⟨toL s, (ofL_toL s).symm, rfl⟩
theorem take_map_snoc (l : List ByteArray) (k : Nat) (hk : k < l.length) : (l.take (k + 1)).map toL = (l.take k).map toL ++ [toL (sAt l k)] := by
  rw [List.take_succ_eq_append_getElem hk, List.map_append, sAt_get hk]; rfl

set_option maxRecDepth 8000 in
set_option maxHeartbeats 4000000 in
theorem recon_spec (A : Option Addr) (n c : Nat) (a : List ByteArray) (B : Option Addr) (m d : Nat) (b : List ByteArray) (w : World) (h : StrsAt w A n a) (k : StrsAt w B m b) (ha : strsSz a ≤ 1048576) (hb : strsSz b ≤ 1048576) :
    Calls Tryd.prog 19 #[.slice A n c, .slice B m d] w (ReconR (reconL a b) (reconN a b) w) := by
  have hnn := strs_n h ha
  have hmm := strs_n k hb
  have HA := Lib.hid (strsLen h)
  have HB := Lib.hid (strsLen k)
  have hal : Below w.heap.size w (w.alloc (.cells #[] 9)) := (Below.refl _ _).alloc (Nat.le_refl _) _
  have hrow0 : StrsIn w.heap.size (w.heap.size + 1) (w.alloc (.cells #[] 9)) (some ⟨w.heap.size, 0, none⟩) 0 0 (txs []) := (StrsIn.of_own (own_str w (Nat.le_refl _))).wide (Nat.le_refl _) (by simp)
  obtain ⟨q1, hq1⟩ : ∃ q, setOkB a = q := ⟨_, rfl⟩
  obtain ⟨q2, hq2⟩ : ∃ q, setOkB b = q := ⟨_, rfl⟩
  have Q1 := Lib.hid hq1; have Q2 := Lib.hid hq2
  cases q1
  · have HR := Lib.hid (show reconL a b = [] by simp [reconL, hq1])
    have HR2 := Lib.hid (show reconN a b = 0 by simp [reconN, hq1])
    clear hq1 hq2
    rw [HR.out, HR2.out]
    go_enter Tryd.func19, Tryd.ntmps19
    go_wp2_with fail
    refine (setOk_spec _ _ _ _ _ (h.keep hal) (by omega)).mono ?_
    rintro e w1 ⟨rfl, hb1⟩; rw [Q1.out]
    go_wp2
    go_returns
    exact ⟨_, 0, 0, rfl, (hrow0.keep hb1).wide (Nat.le_refl _) (by have := hb1.size; simpa using this), bthen hal hb1⟩
  · cases q2
    · have HR := Lib.hid (show reconL a b = [] by simp [reconL, hq2])
      have HR2 := Lib.hid (show reconN a b = 0 by simp [reconN, hq2])
      clear hq1 hq2
      rw [HR.out, HR2.out]
      go_enter Tryd.func19, Tryd.ntmps19
      go_wp2_with fail
      refine (setOk_spec _ _ _ _ _ (h.keep hal) (by omega)).mono ?_
      rintro e w1 ⟨rfl, hb1⟩; rw [Q1.out]
      have hB1 := bthen hal hb1
      go_wp2_with fail
      refine (setOk_spec _ _ _ _ _ (k.keep hB1) (by omega)).mono ?_
      rintro e w2 ⟨rfl, hb2⟩; rw [Q2.out]
      go_wp2
      go_returns
      exact ⟨_, 0, 0, rfl, ((hrow0.keep hb1).keep hb2).wide (Nat.le_refl _) (by have := hb1.size; have h2 := hb2.size; simp at this; omega), bthen hB1 hb2⟩
    · have HR := Lib.hid (show reconL a b = txs (putsB ((a ++ b).map toL)) by simp [reconL, hq1, hq2])
      have HR2 := Lib.hid (show reconN a b = ((cntTo (unlL a b) a a.length + cntTo (unlL a b) b b.length : Nat) : Int) by simp [reconN, hq1, hq2])
      clear hq1 hq2
      go_enter Tryd.func19, Tryd.ntmps19
      go_wp2_with fail
      refine (setOk_spec _ _ _ _ _ (h.keep hal) (by omega)).mono ?_
      rintro e w1 ⟨rfl, hb1⟩; rw [Q1.out]
      have hB1 := bthen hal hb1
      go_wp2_with fail
      refine (setOk_spec _ _ _ _ _ (k.keep hB1) (by omega)).mono ?_
      rintro e w2 ⟨rfl, hb2⟩; rw [Q2.out]
      have hB2 := bthen hB1 hb2
      have hrow2 := (hrow0.keep hb1).keep hb2
      go_wp2_with fail
      refine (unlike_spec _ _ _ _ _ _ _ _ _ (h.keep hB2) (k.keep hB2) ha hb).mono ?_
      rintro e w3 ⟨U, nu, cu, rfl, hU, hb3⟩
      have hB3 := bthen hB2 hb3
      have hrow3 := hrow2.keep hb3
      have hu := hU.at_
      have h3 := h.keep hB3
      have k3 := k.keep hB3
      have hz3 := hB3.size
      have hz1 := hb1.size
      have hz2 := hb2.size
      have hz33 := hb3.size
      simp only [World.size_alloc] at hz1
      have hrow4 := hrow3.wide (lo' := w.heap.size) (hi' := w3.heap.size) (Nat.le_refl _) (by omega)
      have hnu : nu ≤ 1048576 := ints_n hu (unlL_sz a b)
      clear hrow0 hrow2 hrow3 hal hb1 hB1 hb2 hB2 hb3 hU hz1 hz2 hz33 h k
      generalize unlL a b = u at *
      go_wp2
      go_loopw [6, 8, 9] (fun o q i wr => ∃ (k N : Nat) (O : Option Addr) (cap : Nat), k ≤ n ∧ i = .int .i64 k ∧ q = .int .i64 ((cntTo u a k : Nat) : Int) ∧ o = .slice O N cap ∧ StrsIn w.heap.size wr.heap.size wr O N cap (txs (putsB ((a.take k).map toL))) ∧ Below w3.heap.size w3 wr) (fun _ _ i _ => n - (intOf i).toNat)
      case atStart => exact ⟨0, 0, _, 0, Nat.zero_le _, rfl, rfl, rfl, hrow4, Below.refl _ _⟩
      case round =>
        clear hrow4
        obtain ⟨k, N, O, cap, hk, rfl, rfl, rfl, hrow, hbr⟩ := hrel
        have HC := Lib.hid (cntTo_le u a k)
        by_cases hlt : k < n
        · have hka : k < a.length := by have := HA.out; omega
          have HS := Lib.hid (show cntTo u a (k + 1) = cntTo u a k + (if hasI u (bucketOf (sAt a k)) = true then 1 else 0) from rfl)
          have HT := Lib.hid (take_map_snoc a k hka)
          have HPL := Lib.hid (putsB_len ((a.take k).map toL))
          obtain ⟨b0, off, rfl, hbl, hc⟩ := h3.at_ (by omega)
          have hck := keep_cell hbr (hc k hlt)
          clear hc
          obtain ⟨x, hx, hx2⟩ := ofL_of (sAt a k)
          rw [hx] at hck
          have HX := Lib.hid hx; have HX2 := Lib.hid hx2
          clear hx hx2
          have hN : N ≤ 1048576 := by
            have h1 := strsLen hrow.at_
            have h2 := HPL.out
            rw [txs_len] at h1
            rw [List.length_map, List.length_take] at h2
            omega
          go_wp2_with fail
          refine (l15Put_any _ _ _ _ x _ hrow.at_ (by omega)).mono ?_
          rintro e w4 ⟨O4, N4, c4, rfl, hrow4, hb4⟩
          have hck4 := keep_cell hb4 hck
          have hbr4 := bthen hbr hb4
          have hu4 := hu.keep hbr4
          have hzz := hbr.size
          have hnx : putB (putsB ((a.take k).map toL)) x = putsB ((a.take (k + 1)).map toL) := by rw [HT.out, putsB_snoc, HX2.out]
          rw [hnx] at hrow4
          have hrow5 := hrow4.wide (lo' := w.heap.size) (hi' := w4.heap.size) (by omega) (Nat.le_refl _)
          clear hnx hrow4 hrow hbr hck hb4
          obtain ⟨qh, hqh⟩ : ∃ q, hasI u (bucketOf (sAt a k)) = q := ⟨_, rfl⟩
          have HQ := Lib.hid hqh
          have HSX := Lib.hid (congrArg (fun s => bucketOf s) HX.out)
          clear hqh
          have hcl := HC.out
          go_wp2_with fail
          refine (bucketOf_spec _ _).mono ?_
          rintro e w' ⟨rfl, rfl⟩
          rw [← HX.out]
          go_wp2_with fail
          refine (l18Has_any _ _ _ _ _ _ hu4 (by omega)).mono ?_
          rintro e w' ⟨rfl, rfl⟩
          rw [HQ.out]
          cases qh
          · have HE := Lib.hid (show cntTo u a (k + 1) = cntTo u a k by rw [HS.out, HQ.out]; rfl)
            go_wp2
            exact ⟨⟨k + 1, N4, O4, c4, by omega, by go_num, by rw [HE.out], rfl, hrow5, hbr4⟩, by simp [intOf]; omega⟩
          · have HE := Lib.hid (show cntTo u a (k + 1) = cntTo u a k + 1 by rw [HS.out, HQ.out]; rfl)
            go_wp2
            exact ⟨⟨k + 1, N4, O4, c4, by omega, by go_num, by rw [HE.out]; go_num, rfl, hrow5, hbr4⟩, by simp [intOf]; omega⟩
        · have hk0 : k = n := by omega
          subst hk0
          have hta : a.take k = a := List.take_of_length_le (by have := HA.out; omega)
          rw [hta] at hrow
          have k4 := k3.keep hbr
          have hu4 := hu.keep hbr
          have hB4 := bthen hB3 hbr
          have hz4 := hbr.size
          have hz5 := hB4.size
          have hca := HC.out
          have HFA := Lib.hid (show cntTo u a k = cntTo u a a.length by rw [HA.out])
          generalize cntTo u a k = ca at *
          clear h3 hu k3 HA hta
          generalize wr = W4 at *
          clear hbr hB3 hz3
          go_wp2
          go_loopw [6, 8, 10] (fun o q i wr => ∃ (k N : Nat) (O : Option Addr) (cap : Nat), k ≤ m ∧ i = .int .i64 k ∧ q = .int .i64 ((ca + cntTo u b k : Nat) : Int) ∧ o = .slice O N cap ∧ StrsIn w.heap.size wr.heap.size wr O N cap (txs (putsB ((a ++ b.take k).map toL))) ∧ Below W4.heap.size W4 wr) (fun _ _ i _ => m - (intOf i).toNat)
          case atStart => exact ⟨0, _, _, _, Nat.zero_le _, rfl, rfl, rfl, by simpa using hrow, Below.refl _ _⟩
          case round =>
            clear hrow
            obtain ⟨k, N, O, cap, hk, rfl, rfl, rfl, hrow, hbr⟩ := hrel
            have HC := Lib.hid (cntTo_le u b k)
            by_cases hlt : k < m
            · have hka : k < b.length := by have := HB.out; omega
              have HS := Lib.hid (show cntTo u b (k + 1) = cntTo u b k + (if hasI u (bucketOf (sAt b k)) = true then 1 else 0) from rfl)
              have HT := Lib.hid (show (a ++ b.take (k + 1)).map toL = (a ++ b.take k).map toL ++ [toL (sAt b k)] by rw [List.map_append, take_map_snoc b k hka, ← List.append_assoc, ← List.map_append])
              have HPL := Lib.hid (putsB_len ((a ++ b.take k).map toL))
              obtain ⟨b0, off, rfl, hbl, hc⟩ := k4.at_ (by omega)
              have hck := keep_cell hbr (hc k hlt)
              clear hc
              obtain ⟨x, hx, hx2⟩ := ofL_of (sAt b k)
              rw [hx] at hck
              have HX := Lib.hid hx; have HX2 := Lib.hid hx2
              clear hx hx2
              have hN : N ≤ 2097152 := by
                have h1 := strsLen hrow.at_
                have h2 := HPL.out
                rw [txs_len] at h1
                rw [List.length_map, List.length_append, List.length_take] at h2
                have h3 : a.length ≤ 1048576 := by unfold strsSz at ha; omega
                omega
              go_wp2_with fail
              refine (l15Put_any _ _ _ _ x _ hrow.at_ (by omega)).mono ?_
              rintro e w4 ⟨O4, N4, c4, rfl, hrow4, hb4⟩
              have hck4 := keep_cell hb4 hck
              have hbr4 := bthen hbr hb4
              have hu5 := hu4.keep hbr4
              have hzz := hbr.size
              have hnx : putB (putsB ((a ++ b.take k).map toL)) x = putsB ((a ++ b.take (k + 1)).map toL) := by rw [HT.out, putsB_snoc, HX2.out]
              rw [hnx] at hrow4
              have hrow5 := hrow4.wide (lo' := w.heap.size) (hi' := w4.heap.size) (by omega) (Nat.le_refl _)
              clear hnx hrow4 hrow hbr hck hb4
              obtain ⟨qh, hqh⟩ : ∃ q, hasI u (bucketOf (sAt b k)) = q := ⟨_, rfl⟩
              have HQ := Lib.hid hqh
              clear hqh
              have hcl := HC.out
              go_wp2_with fail
              refine (bucketOf_spec _ _).mono ?_
              rintro e w' ⟨rfl, rfl⟩
              rw [← HX.out]
              go_wp2_with fail
              refine (l18Has_any _ _ _ _ _ _ hu5 (by omega)).mono ?_
              rintro e w' ⟨rfl, rfl⟩
              rw [HQ.out]
              cases qh
              · have HE := Lib.hid (show cntTo u b (k + 1) = cntTo u b k by rw [HS.out, HQ.out]; rfl)
                go_wp2
                exact ⟨⟨k + 1, N4, O4, c4, by omega, by go_num, by rw [HE.out]; exact congrArg (Value.int .i64) (by omega), rfl, hrow5, hbr4⟩, by simp [intOf]; omega⟩
              · have HE := Lib.hid (show cntTo u b (k + 1) = cntTo u b k + 1 by rw [HS.out, HQ.out]; rfl)
                go_wp2
                exact ⟨⟨k + 1, N4, O4, c4, by omega, by go_num, by rw [HE.out]; exact congrArg (Value.int .i64) (by omega), rfl, hrow5, hbr4⟩, by simp [intOf]; omega⟩
            · have hk0 : k = m := by omega
              subst hk0
              have htb : b.take k = b := List.take_of_length_le (by have := HB.out; omega)
              rw [htb] at hrow
              have HQ := Lib.hid (show ((ca + cntTo u b k : Nat) : Int) = reconN a b by rw [HR2.out, HFA.out, HB.out])
              rw [HQ.out]
              go_wp2
              go_returns
              exact ⟨O, N, cap, rfl, by rw [HR.out]; exact hrow, bthen hB4 hbr⟩

set_option maxRecDepth 8000 in
set_option maxHeartbeats 4000000 in
theorem recon_impl (A : Option Addr) (n c : Nat) (a : List ByteArray) (B : Option Addr) (m d : Nat) (b : List ByteArray) (w : World) (h : StrsAt w A n a) (k : StrsAt w B m b) (hac : A = none → c = 0) (hbc : B = none → d = 0) (ha : strsSz a ≤ 1048576) (hb : strsSz b ≤ 1048576) (hk : KeysAt w) :
    Calls Tryd.prog 20 #[.slice A n c, .slice B m d] w (ReconR (reconL a b) (reconN a b) w) := by
  have hnn := strs_n h ha
  have hmm := strs_n k hb
  have HA := Lib.hid (strsLen h)
  have HB := Lib.hid (strsLen k)
  obtain ⟨q1, hq1⟩ : ∃ q, setOkB a = q := ⟨_, rfl⟩
  obtain ⟨q2, hq2⟩ : ∃ q, setOkB b = q := ⟨_, rfl⟩
  have Q1 := Lib.hid hq1; have Q2 := Lib.hid hq2
  cases q1
  · have HR := Lib.hid (show reconL a b = [] by simp [reconL, hq1])
    have HR2 := Lib.hid (show reconN a b = 0 by simp [reconN, hq1])
    clear hq1 hq2
    rw [HR.out, HR2.out]
    go_enter Tryd.func20, Tryd.ntmps20
    go_wp2_with fail
    refine (setOk_impl _ _ _ _ _ h (by omega)).mono ?_
    rintro e w1 ⟨rfl, rfl⟩; rw [Q1.out]
    go_wp2
    go_returns
    exact ⟨none, 0, 0, rfl, StrsIn.nil, Below.refl _ _⟩
  · cases q2
    · have HR := Lib.hid (show reconL a b = [] by simp [reconL, hq2])
      have HR2 := Lib.hid (show reconN a b = 0 by simp [reconN, hq2])
      clear hq1 hq2
      rw [HR.out, HR2.out]
      go_enter Tryd.func20, Tryd.ntmps20
      go_wp2_with fail
      refine (setOk_impl _ _ _ _ _ h (by omega)).mono ?_
      rintro e w1 ⟨rfl, rfl⟩; rw [Q1.out]
      go_wp2_with fail
      refine (setOk_impl _ _ _ _ _ k (by omega)).mono ?_
      rintro e w1 ⟨rfl, rfl⟩; rw [Q2.out]
      go_wp2
      go_returns
      exact ⟨none, 0, 0, rfl, StrsIn.nil, Below.refl _ _⟩
    · have HR := Lib.hid (show reconL a b = txs (sortB ((a ++ lacks a b).map toL)) by rw [recon_sort hq1 hq2]; simp [reconL, hq1, hq2])
      have HR2 := Lib.hid (show reconN a b = ((cntTo (unlL a b) (a ++ b) (a.length + b.length) : Nat) : Int) by rw [cntTo_right]; simp [reconN, hq1, hq2])
      clear hq1 hq2
      go_enter Tryd.func20, Tryd.ntmps20
      go_wp2_with fail
      refine (setOk_impl _ _ _ _ _ h (by omega)).mono ?_
      rintro e w1 ⟨rfl, rfl⟩; rw [Q1.out]
      go_wp2_with fail
      refine (setOk_impl _ _ _ _ _ k (by omega)).mono ?_
      rintro e w1 ⟨rfl, rfl⟩; rw [Q2.out]
      go_wp2_with fail
      refine (copyTextsT _ _ _ _ _ h hac (by omega)).mono ?_
      rintro e w1 ⟨A1, c1, rfl, hC, hb1⟩
      go_wp2_with fail
      refine (lacks_impl _ _ _ _ _ _ _ _ _ (h.keep hb1) (k.keep hb1) (by omega) (by omega)).mono ?_
      rintro e w2 ⟨A2, nl, cl, rfl, hL, hb2⟩
      have hB2 := bthen hb1 hb2
      have hown2 := (hC.keep hb2).row.own
      have hsrc := hL.at_.cells
      have hnl0 := hL.nilcap
      have hnl : nl ≤ m := by
        have h1 := strsLen hL.at_
        have h2 := lacks_len a b
        have h3 := HB.out
        omega
      have hz2 := hB2.size
      go_wp2_with (at_builtin; refine wpList_app (P := Tryd.prog) w2 rfl (.tmp 20) (.tmp 23) 22 rfl w.heap.size 9 _ 1 16 Tryd.underlying22 infoString rfl (by omega) (.slice A1 n c1) _ _ rfl hown2 A2 nl cl ((lacks a b).map Value.string) rfl hsrc (strsT_one _) hnl0 (by unfold maxLen; omega) (by omega) hz2 ?_; intro A3 c3 w3 hown3 hg3 hb3 _)
      rw [← List.map_append] at hown3
      have hrow3 := StrsIn.of_own hown3
      rw [← txs_toL (a ++ lacks a b)] at hrow3
      have hB3 := hB2.trans hb3
      have hz3 := hB3.size
      clear hC hb1 hL hown2 hsrc hnl0 hown3 hg3 hb3 hz2
      refine (sort_texts _ _ _ _ _ _ _ hrow3 (by omega)).mono ?_
      rintro e w4 ⟨rfl, hrow4, hc4⟩
      have hB4 := hc4.ivb hB3 (Nat.le_refl _) (Nat.le_refl _)
      have hz4 := hB4.size
      have hz34 := hc4.size
      rw [← HR.out] at hrow4
      clear hrow3 hc4 hB3 hb2 hB2
      go_wp2_with fail
      refine (unlike_impl _ _ _ _ _ _ _ _ _ (h.keep hB4) (k.keep hB4) ha hb (hk.keep hB4)).mono ?_
      rintro e w5 ⟨U, nu, cu, rfl, hU, hb5⟩
      have hB5 := bthen hB4 hb5
      have hz5 := hB5.size
      have hz45 := hb5.size
      have hrow5 := (hrow4.keep hb5).wide (lo' := w.heap.size) (hi' := w5.heap.size) (Nat.le_refl _) (by omega)
      have hnu : nu ≤ 1048576 := ints_n hU.at_ (unlL_sz a b)
      have hu5 := hU.at_
      go_wp2_with fail
      refine (copyTextsT _ _ _ _ _ (h.keep hB5) hac (by omega)).mono ?_
      rintro e w6 ⟨A6, c6, rfl, hC6, hb6⟩
      have hB6 := bthen hB5 hb6
      have hown6 := hC6.row.own
      have hsrc := (k.keep hB6).cells
      have hz6 := hb6.size
      go_wp2_with (at_builtin; refine wpList_app (P := Tryd.prog) w6 rfl (.tmp 31) (.tmp 32) 22 rfl w5.heap.size 9 _ 1 16 Tryd.underlying22 infoString rfl (by omega) (.slice A6 n c6) _ _ rfl hown6 B m d (b.map Value.string) rfl hsrc (strsT_one _) hbc (by unfold maxLen; omega) (by omega) hz6 ?_; intro A7 c7 w7 hown7 hg7 hb7 _)
      rw [← List.map_append] at hown7
      have hab := (StrsIn.of_own hown7).at_
      have hb67 := hb6.trans hb7
      have hrow7 := hrow5.keep hb67
      have hu7 := hu5.keep hb67
      have hB7 := bthen hB5 hb67
      have hz7 := hb67.size
      clear hrow4 hrow5 hu5 hC6 hown6 hsrc hown7 hg7 hb7 hb67 hB6 hb6 hU hb5 hB5 hB4 h k
      have HN := Lib.hid (show a.length + b.length = n + m by rw [HA.out, HB.out])
      rw [HN.out] at HR2
      have HLN := Lib.hid (show (a ++ b).length = n + m by rw [List.length_append, HN.out])
      generalize unlL a b = u at *
      generalize a ++ b = l at *
      have hp : n + m ≤ 2097152 := by omega
      go_loopw [7, 35] (fun q i wr => ∃ k : Nat, k ≤ n + m ∧ i = .int .i64 k ∧ q = .int .i64 ((cntTo u l k : Nat) : Int) ∧ wr = w7) (fun _ i _ => n + m - (intOf i).toNat)
      case atStart => exact ⟨0, Nat.zero_le _, rfl, rfl, rfl⟩
      case round =>
        obtain ⟨k, hk', rfl, rfl, rfl⟩ := hrel
        have HC := Lib.hid (cntTo_le u l k)
        by_cases hlt : k < n + m
        · have HS := Lib.hid (show cntTo u l (k + 1) = cntTo u l k + (if hasI u (bucketOf (sAt l k)) = true then 1 else 0) from rfl)
          obtain ⟨b0, off, rfl, hbl, hc⟩ := hab.at_ (by omega)
          have hck := hc k hlt
          clear hc
          obtain ⟨qh, hqh⟩ : ∃ q, hasI u (bucketOf (sAt l k)) = q := ⟨_, rfl⟩
          have HQ := Lib.hid hqh
          clear hqh
          have hcl := HC.out
          have hki : (k : Int) < (n : Int) + (m : Int) := by omega
          go_wp2_with fail
          refine (bucketOf_impl _ _).mono ?_
          rintro e w' ⟨rfl, rfl⟩
          go_wp2_with fail
          refine (containsI_any _ _ _ _ _ _ hu7 (by omega)).mono ?_
          rintro e w' ⟨rfl, rfl⟩
          rw [HQ.out]
          cases qh
          · have HE := Lib.hid (show cntTo u l (k + 1) = cntTo u l k by rw [HS.out, HQ.out]; rfl)
            go_wp2
            exact ⟨⟨k + 1, by omega, by go_num, by rw [HE.out], trivial⟩, by simp [intOf]; omega⟩
          · have HE := Lib.hid (show cntTo u l (k + 1) = cntTo u l k + 1 by rw [HS.out, HQ.out]; rfl)
            go_wp2
            exact ⟨⟨k + 1, by omega, by go_num, by rw [HE.out]; go_num, trivial⟩, by simp [intOf]; omega⟩
        · have hk0 : k = n + m := by omega
          have hki : ¬ ((k : Int) < (n : Int) + (m : Int)) := by omega
          have HR3 : ((cntTo u l k : Nat) : Int) = reconN a b := by rw [HR2.out, hk0]
          clear hk0
          rw [HR3]
          go_wp2
          go_returns
          exact ⟨_, _, _, rfl, hrow7.wide (Nat.le_refl _) hz7, hB7⟩
end Go.Proofs.YtfbfomlgjghcmaaDoor
