/- The walks of Clients. -/
import Derived.Test.YtmichbgiaoopgaaClients
namespace Go.Proofs.Ytmichbgiaoopgaa
open Go.RowKit
attribute [local irreducible] evsOkB EvsAt mostTo clsTo cliL

set_option maxHeartbeats 1000000 in
theorem clients_impl (A : Option Addr) (n c : Nat) (l : List Ev) (w : World) (h : EvsAt w A n l) (hs : evsSz l ≤ 1048576) :
    Calls Try.prog 51 #[.slice A n c] w (IntsR (clients l) w) := by
  have hn := evs_n h hs
  have HL := Lib.hid (show n = l.length by unfold EvsAt at h; exact h.1)
  obtain ⟨q, hq⟩ : ∃ q, evsOkB l = q := ⟨_, rfl⟩
  have HQ := Lib.hid hq
  cases q
  · have HR := Lib.hid (show clients l = [] by simp [clients, hq])
    clear hq
    rw [HR.out]
    go_enter Try.func51, Try.ntmps51
    go_wp2_with fail
    refine (eventsOk_impl _ _ _ _ _ h (by omega)).mono ?_
    rintro e w1 ⟨rfl, hb1⟩; rw [HQ.out]
    go_wp2
    go_returns
    exact ⟨none, 0, 0, rfl, IntsIn.nil, hb1⟩
  · have HE := Lib.hid (clients_eq hq)
    clear hq
    go_enter Try.func51, Try.ntmps51
    go_wp2_with fail
    refine (eventsOk_impl _ _ _ _ _ h (by omega)).mono ?_
    rintro e w1 ⟨rfl, hb1⟩; rw [HQ.out]
    have hz1 := hb1.size
    go_wp2
    go_loopw [3, 12] (fun o i wr => ∃ (j : Nat) (O : Option Addr) (cap : Nat), j ≤ n ∧ i = .int .i64 j ∧ o = .slice O (clsTo l j).length cap ∧ wr.ownsRow w.heap.size 3 1 (.slice O (clsTo l j).length cap) (clsTo l j).length ((clsTo l j).map (Value.int .i64)) ∧ Below w.heap.size w wr) (fun _ i _ => n - (intOf i).toNat)
    case atStart => exact ⟨0, _, _, Nat.zero_le _, rfl, by unfold clsTo; rfl, by unfold clsTo; exact own_empty w1 _ _ hz1, hb1.alloc hz1 _⟩
    case round =>
      obtain ⟨j, O, cap, hj, rfl, rfl, hown, hb⟩ := hrel
      have hzr := hb.size
      by_cases hlt : j < n
      · obtain ⟨b, off, rfl, hbl, hc⟩ := h.at_ hlt
        have hc0 := (hb.cell (p := ⟨b, off + j * 4, none⟩) hbl).trans (hc j hlt).1
        have hc1 := (hb.cell (p := ⟨b, off + j * 4 + 1, none⟩) hbl).trans (hc j hlt).2.1
        have hc2 := (hb.cell (p := ⟨b, off + j * 4 + 2, none⟩) hbl).trans (hc j hlt).2.2.1
        have hc3 := (hb.cell (p := ⟨b, off + j * 4 + 3, none⟩) hbl).trans (hc j hlt).2.2.2
        clear hc
        have HLL := Lib.hid (clsTo_len l j)
        have hLL : (clsTo l j).length ≤ j := by rw [HLL.out]; exact Nat.le_refl _
        have hownA := ((RowIn.of_own hown).keep ((Below.refl wr.heap.size wr).alloc (Nat.le_refl _) (.cells #[.int .i64 (eAt l j).t, .int .i64 (eAt l j).c, .int .i64 (eAt l j).n, .string (eAt l j).x] 63))).own
        have hbA := hb.alloc hzr (.cells #[.int .i64 (eAt l j).t, .int .i64 (eAt l j).c, .int .i64 (eAt l j).n, .string (eAt l j).x] 63)
        have hzA : w.heap.size ≤ (wr.alloc (.cells #[.int .i64 (eAt l j).t, .int .i64 (eAt l j).c, .int .i64 (eAt l j).n, .string (eAt l j).x] 63)).heap.size := by simp; omega
        have HS := Lib.hid (clsTo_succ l j)
        go_wp2_with (at_builtin; refine wpList_app1g (P := Try.prog) _ rfl (.tmp 16) (.tmp 19) 66 rfl w.heap.size 3 _ 1 8 Try.underlying66 infoInt rfl (by omega) (.slice O _ cap) _ _ rfl hownA #[.int .i64 (eAt l j).c] _ rfl (by simp) rfl (by simp [Value.oneCell']) (by unfold maxLen; omega) (by omega) hzA ?_; intro A' c' w3 hown3 hg3 hb3 _)
        refine ⟨⟨j + 1, A', c', by omega, by go_num, ?_⟩, by simp [intOf]; omega⟩
        rw [HS.out]
        exact ⟨by simp, by simpa using hown3, hbA.trans hb3⟩
      · obtain rfl : j = n := by omega
        have HLL := Lib.hid (clsTo_len l j)
        have hin := IntsIn.of_own hown
        have hLL : (clsTo l j).length ≤ 16777216 := by rw [HLL.out]; omega
        clear hown
        go_wp2_with fail
        refine (sort_ints _ _ _ _ _ _ _ hin hLL).mono ?_
        rintro e w2 ⟨rfl, hin2, hc2⟩
        have hB2 := hc2.ivb hb (Nat.le_refl _) (Nat.le_refl _)
        have hz2 := hc2.size
        go_wp2_with fail
        refine (compact_ints _ _ _ _ _ _ _ hin2 hLL).mono ?_
        rintro e w3 ⟨n', rfl, hin3, hc3⟩
        have hB3 := hc3.ivb hB2 (Nat.le_refl _) (Nat.le_refl _)
        have hz3 := hc3.size
        rw [← HL.out] at HE
        rw [HE.out] at hin3
        go_wp2
        go_returns
        exact ⟨_, _, _, rfl, hin3.wide (Nat.le_refl _) (by omega), hB3⟩

set_option maxHeartbeats 1000000 in
theorem clients_spec (A : Option Addr) (n c : Nat) (l : List Ev) (w : World) (h : EvsAt w A n l) (hs : evsSz l ≤ 1048576) :
    Calls Try.prog 54 #[.slice A n c] w (IntsR (clients l) w) := by
  have hn := evs_n h hs
  have HL := Lib.hid (show n = l.length by unfold EvsAt at h; exact h.1)
  obtain ⟨q, hq⟩ : ∃ q, evsOkB l = q := ⟨_, rfl⟩
  have HQ := Lib.hid hq
  cases q
  · have HR := Lib.hid (show clients l = [] by simp [clients, hq])
    clear hq
    rw [HR.out]
    go_enter Try.func54, Try.ntmps54
    go_wp2
    go_loopw [3, 4] (fun o i wr => i = .int .i64 1 ∧ o = .slice (some ⟨w.heap.size, 0, none⟩) 0 0 ∧ wr.ownsRow w.heap.size 3 1 (.slice (some ⟨w.heap.size, 0, none⟩) 0 0) 0 [] ∧ Below w.heap.size w wr) (fun _ _ _ => 0)
    case atStart => exact ⟨rfl, rfl, own_empty w _ _ (Nat.le_refl _), by go_grown⟩
    case round =>
      obtain ⟨rfl, rfl, hown, hb⟩ := hrel
      go_wp2_with fail
      refine (eventsOk_spec _ _ _ _ _ (h.keep hb) (by omega)).mono ?_
      rintro e w1 ⟨rfl, hb1⟩; rw [HQ.out]
      go_wp2
      go_returns
      exact ⟨_, 0, 0, rfl, ((IntsIn.of_own (l := []) hown).keep hb1).wide (Nat.le_refl _) hb1.size, bthen hb hb1⟩
  · have HR := Lib.hid (show clients l = cliL l n 10 by rw [HL.out]; simp [clients, hq])
    clear hq
    rw [HR.out]
    go_enter Try.func54, Try.ntmps54
    go_wp2
    go_loopw [3, 4] (fun o i wr => ∃ (j : Nat) (O : Option Addr) (cap : Nat), 1 ≤ j ∧ j ≤ 10 ∧ i = .int .i64 j ∧ o = .slice O (cliL l n j).length cap ∧ wr.ownsRow w.heap.size 3 1 (.slice O (cliL l n j).length cap) (cliL l n j).length ((cliL l n j).map (Value.int .i64)) ∧ Below w.heap.size w wr) (fun _ i _ => 10 - (intOf i).toNat)
    case atStart => exact ⟨1, _, _, Nat.le_refl _, by omega, rfl, by unfold cliL cliL; rfl, by unfold cliL cliL; exact own_empty w _ _ (Nat.le_refl _), by go_grown⟩
    case round =>
      obtain ⟨j, O, cap, hj0, hj, rfl, rfl, hown, hb⟩ := hrel
      have hLL := cliL_len l n j
      by_cases hlt : j ≤ 9
      · have HS := Lib.hid (show cliL l n (j + 1) = if 1 ≤ j ∧ 0 < mostTo l j n then cliL l n j ++ [(j : Int)] else cliL l n j by conv => lhs; unfold cliL)
        go_wp2_with fail
        refine (eventsOk_spec _ _ _ _ _ (h.keep hb) (by omega)).mono ?_
        rintro e w1 ⟨rfl, hb1⟩; rw [HQ.out]
        have hB1 := bthen hb hb1
        go_wp2_with fail
        refine (l36Most_spec _ _ _ _ _ _ (h.keep hB1) (by omega)).mono ?_
        rintro e w2 ⟨rfl, hb2⟩
        have hB2 := bthen hB1 hb2
        have hin2 := ((IntsIn.of_own hown).keep hb1).keep hb2
        have hown2 := hin2.row.own
        have hz2 := hB2.size
        clear hown hin2
        by_cases hm : 0 < mostTo l j n
        · have HS2 := Lib.hid (show cliL l n (j + 1) = cliL l n j ++ [(j : Int)] by rw [HS.out, if_pos ⟨hj0, hm⟩])
          go_wp2_with (at_builtin; refine wpList_app1 (P := Try.prog) _ rfl (.tmp 18) (.tmp 20) 66 rfl w.heap.size 3 _ 1 8 Try.underlying66 infoInt rfl (by omega) (.slice O _ cap) _ _ rfl hown2 #[.int .i64 j] rfl rfl (by simp [Value.oneCell']) (by unfold maxLen; omega) (by omega) hz2 ?_; intro A' c' w3 hown3 hg3 hb3 _)
          refine ⟨⟨j + 1, A', c', by omega, by omega, by go_num, ?_⟩, by simp [intOf]; omega⟩
          rw [HS2.out]
          exact ⟨by simp, by simpa using hown3, hB2.trans hb3⟩
        · have HS2 := Lib.hid (show cliL l n (j + 1) = cliL l n j by rw [HS.out, if_neg (fun h => hm h.2)])
          go_wp2
          exact ⟨⟨j + 1, O, cap, by omega, by omega, by go_num, by rw [HS2.out], by rw [HS2.out]; exact hown2, hB2⟩, by simp [intOf]; omega⟩
      · obtain rfl : j = 10 := by omega
        go_wp2
        go_returns
        exact ⟨O, _, cap, rfl, IntsIn.of_own hown, hb⟩
end Go.Proofs.Ytmichbgiaoopgaa
