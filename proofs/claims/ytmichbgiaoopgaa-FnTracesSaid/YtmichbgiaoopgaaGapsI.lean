/- Contract of the program's Gaps: the walk. -/
import Derived.Test.YtmichbgiaoopgaaGaps
namespace Go.Proofs.Ytmichbgiaoopgaa
open Go.RowKit
attribute [local irreducible] evsOkB EvsAt hasNo

set_option maxRecDepth 20000 in
set_option maxHeartbeats 1000000 in
theorem gaps_impl (A : Option Addr) (n c : Nat) (l : List Ev) (cl : Int) (w : World) (h : EvsAt w A n l) (hs : evsSz l ≤ 1048576) :
    Calls Try.prog 48 #[.slice A n c, .int .i64 cl] w (IntsR (gaps l cl) w) := by
  have hn := evs_n h hs
  have HL := Lib.hid (show n = l.length by unfold EvsAt at h; exact h.1)
  obtain ⟨q, hq⟩ : ∃ q, evsOkB l = q := ⟨_, rfl⟩
  have HQ := Lib.hid hq
  cases q
  · have HR := Lib.hid (show gaps l cl = [] by simp [gaps, hq])
    clear hq
    rw [HR.out]
    go_enter Try.func48, Try.ntmps48
    go_wp2_with fail
    refine (eventsOk_impl _ _ _ _ _ h (by omega)).mono ?_
    rintro e w1 ⟨rfl, hb1⟩; rw [HQ.out]
    go_wp2
    go_returns
    exact ⟨none, 0, 0, rfl, IntsIn.nil, hb1⟩
  · have HE := Lib.hid (nextOf_end (c := cl) hq)
    clear hq
    go_enter Try.func48, Try.ntmps48
    go_wp2_with fail
    refine (eventsOk_impl _ _ _ _ _ h (by omega)).mono ?_
    rintro e w1 ⟨rfl, hb1⟩; rw [HQ.out]
    have hz1 := hb1.size
    go_wp2
    go_loopw [5, 18] (fun o i wr => ∃ (j : Nat) (O : Option Addr) (cap : Nat), j ≤ n ∧ i = .int .i64 j ∧ o = .slice O (nosTo l cl j).length cap ∧ wr.ownsRow w.heap.size 3 1 (.slice O (nosTo l cl j).length cap) (nosTo l cl j).length ((nosTo l cl j).map (Value.int .i64)) ∧ Below w.heap.size w wr) (fun _ i _ => n - (intOf i).toNat)
    case atStart => exact ⟨0, _, _, Nat.zero_le _, rfl, rfl, own_empty w1 _ _ hz1, hb1.alloc hz1 _⟩
    case round =>
      obtain ⟨j, O, cap, hj, rfl, rfl, hown, hb⟩ := hrel
      have hzr := hb.size
      by_cases hlt : j < n
      · obtain ⟨b, off, rfl, hbl, hc⟩ := h.at_ hlt
        have hc0 := (hb.cell (p := ⟨b, off + j * 4, none⟩) hbl).trans (hc j hlt).1
        have hc1 := (hb.cell (p := ⟨b, off + j * 4 + 1, none⟩) hbl).trans (hc j hlt).2.1
        have hc2 := (hb.cell (p := ⟨b, off + j * 4 + 2, none⟩) hbl).trans (hc j hlt).2.2.1
        have hc3 := (hb.cell (p := ⟨b, off + j * 4 + 3, none⟩) hbl).trans (hc j hlt).2.2.2
        clear hc
        have hLL := nosTo_len l cl j
        have hownA := ((RowIn.of_own hown).keep ((Below.refl wr.heap.size wr).alloc (Nat.le_refl _) (.cells #[.int .i64 (eAt l j).t, .int .i64 (eAt l j).c, .int .i64 (eAt l j).n, .string (eAt l j).x] 63))).own
        have hbA := hb.alloc hzr (.cells #[.int .i64 (eAt l j).t, .int .i64 (eAt l j).c, .int .i64 (eAt l j).n, .string (eAt l j).x] 63)
        by_cases hcl : (eAt l j).c = cl
        · have g1 : ((eAt l j).c == cl) = true := by simpa using hcl
          have HS := Lib.hid (show nosTo l cl (j + 1) = nosTo l cl j ++ [(eAt l j).n] by rw [nosTo, if_pos hcl])
          clear hcl
          have hzA : w.heap.size ≤ (wr.alloc (.cells #[.int .i64 (eAt l j).t, .int .i64 (eAt l j).c, .int .i64 (eAt l j).n, .string (eAt l j).x] 63)).heap.size := by simp; omega
          go_wp2_with (at_builtin; refine wpList_app1g (P := Try.prog) _ rfl (.tmp 26) (.tmp 29) 66 rfl w.heap.size 3 _ 1 8 Try.underlying66 infoInt rfl (by omega) (.slice O _ cap) _ _ rfl hownA #[.int .i64 (eAt l j).n] _ rfl (by simp) rfl (by simp [Value.oneCell']) (by unfold maxLen; omega) (by omega) hzA ?_; intro A' c' w3 hown3 hg3 hb3 _)
          refine ⟨⟨j + 1, A', c', by omega, by go_num, ?_⟩, by simp [intOf]; omega⟩
          rw [HS.out]
          exact ⟨by simp, by simpa using hown3, hbA.trans hb3⟩
        · have g1 : ((eAt l j).c == cl) = false := by simpa using hcl
          have HS := Lib.hid (show nosTo l cl (j + 1) = nosTo l cl j by rw [nosTo, if_neg hcl])
          clear hcl
          go_wp2
          exact ⟨⟨j + 1, O, cap, by omega, by go_num, by rw [HS.out], by rw [HS.out]; exact hownA, hbA⟩, by simp [intOf]; omega⟩
      · obtain rfl : j = n := by omega
        have hLL := nosTo_len l cl j
        have hin := IntsIn.of_own hown
        clear hown
        go_wp2_with fail
        refine (sort_ints _ _ _ _ _ _ _ hin (by omega)).mono ?_
        rintro e w2 ⟨rfl, hin2, hc2⟩
        have hB2 := hc2.ivb hb (Nat.le_refl _) (Nat.le_refl _)
        have hz2 := hc2.size
        have SL := Lib.hid (sortI_len (nosTo l cl j))
        have SP := Lib.hid (sortI_le (nosTo l cl j))
        have SM := Lib.hid (fun x => @sortI_mem (nosTo l cl j) x)
        have hbd : ∀ x ∈ nosTo l cl j, 1 ≤ x ∧ x ≤ 1000 := fun x hx => by
          obtain ⟨t, ht, _, h3⟩ := nosTo_mem.1 hx
          have := (evsOk_nc HQ.out (show t < l.length by have := HL.out; omega)).1; omega
        rw [← HL.out] at HE
        obtain ⟨m, hm⟩ : ∃ m, (nosTo l cl j).length = m := ⟨_, rfl⟩
        rw [hm] at hin2 SL hLL
        obtain ⟨s, hsv⟩ : ∃ s, sortI (nosTo l cl j) = s := ⟨_, rfl⟩
        rw [hsv] at hin2 SL SP SM HE
        have hnx : ∀ t, t ≤ m → 1 ≤ nextOf s t ∧ nextOf s t ≤ 1001 := fun t ht => by
          rcases t with _ | t
          · simp [nextOf]
          · rw [nextOf, iAt_get (by have := SL.out; omega)]
            have := hbd _ ((SM.out _).1 (List.getElem_mem (show t < s.length by have := SL.out; omega))); omega
        have HNX := Lib.hid hnx
        have hbd2 : ∀ t, t < m → 1 ≤ iAt s t ∧ iAt s t ≤ 1000 := fun t ht => by
          rw [iAt_get (by have := SL.out; omega)]
          exact hbd _ ((SM.out _).1 (List.getElem_mem (show t < s.length by have := SL.out; omega)))
        have HBD := Lib.hid hbd2
        rw [hm]
        clear hm hsv hbd hnx hc2 hin hbd2
        go_wp2
        go_loopw [8, 9, 11, 37] (fun o x _ i wr' => ∃ (t k : Nat) (O : Option Addr) (cap : Nat), t ≤ m ∧ i = .int .i64 t ∧ x = .int .i64 k ∧ (k : Int) = nextOf s t ∧ o = .slice O (outL (fun x => hasNo l cl x j) k).length cap ∧
          wr'.ownsRow w2.heap.size 3 1 (.slice O (outL (fun x => hasNo l cl x j) k).length cap) (outL (fun x => hasNo l cl x j) k).length ((outL (fun x => hasNo l cl x j) k).map (Value.int .i64)) ∧ Below w2.heap.size w2 wr') (fun _ _ _ i _ => m - (intOf i).toNat)
        case atStart => exact ⟨0, 1, _, _, Nat.zero_le _, rfl, rfl, rfl, by rw [outL_one]; rfl, by rw [outL_one]; exact own_empty w2 _ _ (Nat.le_refl _), by go_grown⟩
        case round =>
          obtain ⟨t, k, O2, cap2, ht, rfl, rfl, hkn, rfl, hown4, hb4⟩ := hrel
          have HK := Lib.hid hkn; clear hkn
          have hk1 := HNX.out t ht
          have hk2 : k ≤ 1001 := by have := HK.out; omega
          by_cases htm : t < m
          · have hin4 := hin2.keep hb4
            obtain ⟨b2, off2, rfl, hbl2, hc5⟩ := hin4.at_.at_ (by omega)
            have hcell := hc5 t htm
            clear hc5
            have hbt := HBD.out t htm
            have htl : t < s.length := by have := SL.out; omega
            have HI := Lib.hid (iAt_get htl)
            obtain ⟨y, hy⟩ := Int.eq_ofNat_of_zero_le (show 0 ≤ iAt s t by have := HI.out; omega)
            have hy2 : y ≤ 1000 := by have := HI.out; omega
            have HY := Lib.hid hy
            rw [hy] at hcell
            clear hy
            go_wp2
            go_loopw [8, 9] (fun o x wq => ∃ (k2 : Nat) (O : Option Addr) (cap : Nat), x = .int .i64 k2 ∧ k ≤ k2 ∧ k2 ≤ 1001 ∧ (k2 ≤ y ∨ k2 = k) ∧ o = .slice O (outL (fun x => hasNo l cl x j) k2).length cap ∧
              wq.ownsRow w2.heap.size 3 1 (.slice O (outL (fun x => hasNo l cl x j) k2).length cap) (outL (fun x => hasNo l cl x j) k2).length ((outL (fun x => hasNo l cl x j) k2).map (Value.int .i64)) ∧ Below w2.heap.size w2 wq) (fun _ x _ => 2000 - (intOf x).toNat)
            case atStart => exact ⟨k, _, _, rfl, Nat.le_refl _, hk2, .inr rfl, rfl, hown4, hb4⟩
            case round =>
              obtain ⟨k2, O3, cap3, rfl, hkk, hk3, hky, rfl, hown5, hb5⟩ := hrel
              by_cases hlt2 : k2 < y
              · have HN := Lib.hid (show hasNo l cl k2 j = false by
                  rw [← Bool.not_eq_true, hasNo_iff]
                  intro hx
                  have h1 := (SM.out (k2 : Int)).2 hx
                  refine sorted_next SP.out (j := t) (y := s[t]) (x := k2) (List.getElem?_eq_getElem htl) (fun i z hi hz => ?_) ?_ h1
                  · have := nextOf_above SP.out (j := t) (by omega) i z hi hz
                    have := HK.out; omega
                  · have := HI.out; have := HY.out; omega)
                have HS := Lib.hid (outL_no (p := fun x => hasNo l cl x j) (m := k2) (by have := HK.out; omega) HN.out)
                have hLo := outL_len (fun x => hasNo l cl x j) k2
                have hz5 := hb5.size
                go_wp2_with (at_builtin; refine wpList_app1 (P := Try.prog) _ rfl (.tmp 46) (.tmp 48) 66 rfl w2.heap.size 3 _ 1 8 Try.underlying66 infoInt rfl (by omega) (.slice O3 _ cap3) _ _ rfl hown5 #[.int .i64 k2] rfl rfl (by simp [Value.oneCell']) (by unfold maxLen; omega) (by omega) hz5 ?_; intro A' c' w6 hown6 hg6 hb6 _)
                refine ⟨⟨k2 + 1, A', c', by go_num, by omega, by omega, .inl (by omega), ?_⟩, by simp [intOf]; omega⟩
                rw [HS.out]
                exact ⟨by simp, by simpa using hown6, hb5.trans hb6⟩
              · have HQ2 := Lib.hid (show hasNo l cl y j = true by
                  rw [hasNo_iff, ← SM.out]
                  rw [show (y : Int) = s[t] by have := HI.out; have := HY.out; omega]
                  exact List.getElem_mem htl)
                have HS := Lib.hid (show outL (fun x => hasNo l cl x j) (y + 1) = outL (fun x => hasNo l cl x j) k2 by
                  rcases hky with h1 | h1
                  · obtain rfl : k2 = y := by omega
                    exact outL_yes (p := fun x => hasNo l cl x j) HQ2.out
                  · subst h1
                    rcases Nat.lt_or_eq_of_le (show y ≤ k2 by omega) with h2 | h2
                    · have hky2 : k2 = y + 1 := by
                        rcases t with _ | t
                        · have := HK.out; rw [nextOf] at this; have := HY.out; have := HI.out; omega
                        · have h3 := HK.out
                          rw [nextOf, iAt_get (by omega)] at h3
                          have h4 := List.pairwise_iff_getElem.1 SP.out t (t + 1) (by omega) htl (by omega)
                          have := HI.out; have := HY.out; omega
                      rw [hky2]
                    · subst h2
                      exact outL_yes (p := fun x => hasNo l cl x j) HQ2.out)
                go_wp2
                refine ⟨⟨t + 1, y + 1, O3, cap3, by omega, by go_num, by go_num, by rw [nextOf, HY.out]; simp, by rw [HS.out], by rw [HS.out]; exact hown5, hb5⟩, by simp [intOf]; omega⟩
          · go_wp2
            go_returns
            obtain rfl : t = m := by omega
            have hfin : outL (fun x => hasNo l cl x j) k = gaps l cl := by
              have h1 := HE.out
              rw [SL.out] at h1
              rw [← h1]; congr 1; have := HK.out; omega
            rw [hfin] at hown4
            refine ⟨O2, _, cap2, ?_, (IntsIn.of_own hown4).wide (Nat.le_trans hB2.size (Nat.le_refl _)) (Nat.le_refl _), hB2.trans (hb4.mono hB2.size)⟩
            rw [hfin]; rfl
end Go.Proofs.Ytmichbgiaoopgaa
