/- Contract of the reference's Gaps. -/
import Derived.Test.YtmichbgiaoopgaaGaps
namespace Go.Proofs.Ytmichbgiaoopgaa
open Go.RowKit

theorem outL_add (p : Nat → Bool) (m : Nat) (h0 : 0 < m) : outL p (m + 1) = outL p m ++ (if p m = true then [] else [(m : Int)]) := by
  cases h : p m
  · rw [outL_no h0 h]; simp
  · rw [outL_yes h]; simp
attribute [local irreducible] evsOkB EvsAt hasNo mostTo

set_option maxRecDepth 20000 in
set_option maxHeartbeats 1000000 in
theorem gaps_spec (A : Option Addr) (n c : Nat) (l : List Ev) (cl : Int) (w : World) (h : EvsAt w A n l) (hs : evsSz l ≤ 1048576) :
    Calls Try.prog 53 #[.slice A n c, .int .i64 cl] w (IntsR (gaps l cl) w) := by
  have hn := evs_n h hs
  have HL := Lib.hid (show n = l.length by unfold EvsAt at h; exact h.1)
  obtain ⟨q, hq⟩ : ∃ q, evsOkB l = q := ⟨_, rfl⟩
  have HQ := Lib.hid hq
  have al := fun o => (Below.refl w.heap.size w).alloc (Nat.le_refl _) o
  cases q
  · have HR := Lib.hid (show gaps l cl = [] by simp [gaps, hq])
    clear hq
    rw [HR.out]
    go_enter Try.func53, Try.ntmps53
    go_wp2_with fail
    refine (eventsOk_spec _ _ _ _ _ (h.keep (al _)) (by omega)).mono ?_
    rintro e w1 ⟨rfl, hb1⟩; rw [HQ.out]
    have hown := (RowIn.of_own (own_empty w 3 1 (Nat.le_refl w.heap.size))).keep hb1
    have hb := bthen (al _) hb1
    go_wp2
    go_returns
    exact ⟨_, 0, 0, rfl, ⟨hown.wide (Nat.le_refl _) hb1.size⟩, hb⟩
  · have HM := Lib.hid (mostTo_le (c := cl) hq l.length (Nat.le_refl _))
    have HM0 := Lib.hid (mostTo_is l cl l.length).1
    have HG := Lib.hid (show gaps l cl = outL (fun x => hasNo l cl x l.length) (mostTo l cl l.length).toNat by simp [gaps, hq])
    clear hq
    go_enter Try.func53, Try.ntmps53
    go_wp2_with fail
    refine (eventsOk_spec _ _ _ _ _ (h.keep (al _)) (by omega)).mono ?_
    rintro e w1 ⟨rfl, hb1⟩; rw [HQ.out]
    have hown0 := ((RowIn.of_own (own_empty w 3 1 (Nat.le_refl w.heap.size))).keep hb1).own
    have hb0 := bthen (al _) hb1
    obtain ⟨M, hM⟩ := Int.eq_ofNat_of_zero_le HM0.out
    rw [← HL.out] at HM HG hM
    rw [hM] at HM HG
    have hM1 : M ≤ 1000 := by have := HM.out; omega
    have HMM := Lib.hid hM
    have HG2 := Lib.hid (show gaps l cl = outL (fun x => hasNo l cl x n) M by have := HG.out; rw [this]; simp)
    clear hM HG HM HM0
    go_wp2
    go_loopw [5, 6, 7, 8] (fun o x _ _ wr => ∃ (k : Nat) (O : Option Addr) (cap : Nat), 1 ≤ k ∧ (k ≤ M ∨ k = 1) ∧ x = .int .i64 k ∧ o = .slice O (outL (fun x => hasNo l cl x n) k).length cap ∧
      wr.ownsRow w.heap.size 3 1 (.slice O (outL (fun x => hasNo l cl x n) k).length cap) (outL (fun x => hasNo l cl x n) k).length ((outL (fun x => hasNo l cl x n) k).map (Value.int .i64)) ∧ Below w.heap.size w wr) (fun _ x _ _ _ => 2000 - (intOf x).toNat)
    case atStart => exact ⟨1, _, _, Nat.le_refl _, .inr rfl, rfl, by rw [outL_one]; rfl, by rw [outL_one]; exact hown0, hb0⟩
    case round =>
      obtain ⟨k, O, cap, hk1, hkM, rfl, rfl, hown, hb⟩ := hrel
      have hk2 : k ≤ 1000 := by omega
      go_wp2_with fail
      refine (l36Most_spec _ _ _ _ _ _ (h.keep hb) (by omega)).mono ?_
      rintro e w2 ⟨rfl, hb2⟩
      rw [HMM.out]
      have hB2 := bthen hb hb2
      have hin2 := (IntsIn.of_own hown).keep hb2
      have hz2 := hB2.size
      clear hown
      by_cases hlt : k < M
      · go_wp2
        go_loop [7, 8] (fun s i => ∃ m : Nat, m ≤ n ∧ i = .int .i64 m ∧ s = .bool (hasNo l cl k m)) (fun _ i => n - (intOf i).toNat)
        case atStart => exact ⟨0, Nat.zero_le _, rfl, by unfold hasNo; rfl⟩
        case round =>
          obtain ⟨m, hm, rfl, rfl⟩ := hrel
          by_cases hmn : m < n
          · have h2 := h.keep hB2
            obtain ⟨b, off, rfl, hbl, hc⟩ := h2.at_ hmn
            have hc1 := (hc m hmn).2.1
            have hc2 := (hc m hmn).2.2.1
            clear hc
            have HS := Lib.hid (hasNo_succ l cl k m)
            obtain ⟨q, hq⟩ : ∃ q, hasNo l cl k m = q := ⟨_, rfl⟩
            rw [hq]
            cases q
            · by_cases h1 : (eAt l m).c = cl
              · have g1 : ((eAt l m).c == cl) = true := by simpa using h1
                by_cases h3 : (eAt l m).n = (k : Int)
                · have g3 : ((eAt l m).n == (k : Int)) = true := by simpa using h3
                  have HD := Lib.hid (show hasNo l cl k (m + 1) = true by rw [HS.out, hq]; simp [h1, h3])
                  clear h1 h3 hq
                  go_wp2
                  exact ⟨⟨m + 1, by omega, by go_num, by rw [HD.out]⟩, by simp [intOf]; omega⟩
                · have g3 : ((eAt l m).n == (k : Int)) = false := by simpa using h3
                  have HD := Lib.hid (show hasNo l cl k (m + 1) = false by rw [HS.out, hq]; simp [h3])
                  clear h1 h3 hq
                  go_wp2
                  exact ⟨⟨m + 1, by omega, by go_num, by rw [HD.out]⟩, by simp [intOf]; omega⟩
              · have g1 : ((eAt l m).c == cl) = false := by simpa using h1
                have HD := Lib.hid (show hasNo l cl k (m + 1) = false by rw [HS.out, hq]; simp [h1])
                clear h1 hq
                go_wp2
                exact ⟨⟨m + 1, by omega, by go_num, by rw [HD.out]⟩, by simp [intOf]; omega⟩
            · have HD := Lib.hid (show hasNo l cl k (m + 1) = true by rw [HS.out, hq]; simp)
              clear hq
              go_wp2
              exact ⟨⟨m + 1, by omega, by go_num, by rw [HD.out]⟩, by simp [intOf]; omega⟩
          · obtain rfl : m = n := by omega
            have hLo := outL_len (fun x => hasNo l cl x m) k
            have HA := Lib.hid (outL_add (fun x => hasNo l cl x m) k (by omega))
            obtain ⟨q, hq⟩ : ∃ q, hasNo l cl k m = q := ⟨_, rfl⟩
            have hown2 := hin2.row.own
            rw [hq]
            cases q
            · have HS := Lib.hid (show outL (fun x => hasNo l cl x m) (k + 1) = outL (fun x => hasNo l cl x m) k ++ [(k : Int)] by rw [HA.out]; simp [hq])
              clear hq
              go_wp2_with (at_builtin; refine wpList_app1 (P := Try.prog) _ rfl (.tmp 48) (.tmp 50) 66 rfl w.heap.size 3 _ 1 8 Try.underlying66 infoInt rfl (by omega) (.slice O _ cap) _ _ rfl hown2 #[.int .i64 k] rfl rfl (by simp [Value.oneCell']) (by unfold maxLen; omega) (by omega) hz2 ?_; intro A' c' w3 hown3 hg3 hb3 _)
              refine ⟨⟨k + 1, A', c', by omega, .inl (by omega), by go_num, ?_⟩, by simp [intOf]; omega⟩
              rw [HS.out]
              exact ⟨by simp, by simpa using hown3, hB2.trans hb3⟩
            · have HS := Lib.hid (show outL (fun x => hasNo l cl x m) (k + 1) = outL (fun x => hasNo l cl x m) k by rw [HA.out]; simp [hq])
              clear hq
              go_wp2
              exact ⟨⟨k + 1, O, cap, by omega, .inl (by omega), by go_num, by rw [HS.out], by rw [HS.out]; exact hown2, hB2⟩, by simp [intOf]; omega⟩
      · go_wp2
        go_returns
        have hfin : outL (fun x => hasNo l cl x n) k = gaps l cl := by
          rw [HG2.out]
          rcases hkM with h1 | h1
          · rw [show k = M by omega]
          · subst h1
            rw [outL_one]
            rcases M with _ | M
            · rfl
            · obtain rfl : M = 0 := by omega
              rw [outL_one]
        rw [hfin] at hin2
        refine ⟨O, _, cap, ?_, hin2.wide (Nat.le_refl _) hb2.size, hB2⟩
        rw [hfin]; rfl
end Go.Proofs.Ytmichbgiaoopgaa
