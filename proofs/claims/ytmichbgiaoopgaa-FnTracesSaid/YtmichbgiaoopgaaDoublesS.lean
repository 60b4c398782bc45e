/- Contract of the reference's Doubles. -/
import Derived.Test.YtmichbgiaoopgaaDoubles
namespace Go.Proofs.Ytmichbgiaoopgaa
open Go.RowKit
attribute [local irreducible] evsOkB EvsAt dblAt

set_option maxHeartbeats 1000000 in
theorem doubles_spec (A : Option Addr) (n c : Nat) (l : List Ev) (w : World) (lo hi : Nat) (h : EvsIn lo hi w A n c l) (hs : evsSz l ≤ 1048576) :
    Calls Try.prog 46 #[.slice A n c] w (EvsR (doubles l) w) := by
  have hat := h.at_
  have hn := evs_n hat hs
  have HL := Lib.hid h.len
  clear h
  obtain ⟨q, hq⟩ : ∃ q, evsOkB l = q := ⟨_, rfl⟩
  have HQ := Lib.hid hq
  cases q
  · have HR := Lib.hid (show doubles l = [] by simp [doubles, hq])
    clear hq
    rw [HR.out]
    go_enter Try.func46, Try.ntmps46
    go_wp2
    go_loopw [3, 4, 5, 6] (fun o i _ _ wr => i = .int .i64 0 ∧ o = .slice (some ⟨w.heap.size, 0, none⟩) 0 0 ∧ wr.ownsRow w.heap.size 63 4 (.slice (some ⟨w.heap.size, 0, none⟩) 0 0) 0 [] ∧ Below w.heap.size w wr) (fun _ _ _ _ _ => 0)
    case atStart => exact ⟨rfl, rfl, own_empty w _ _ (Nat.le_refl _), by go_grown⟩
    case round =>
      obtain ⟨rfl, rfl, hown, hb⟩ := hrel
      by_cases hlt : 0 < n
      · go_wp2_with fail
        refine (eventsOk_spec _ _ _ _ _ (hat.keep hb) (by omega)).mono ?_
        rintro e w1 ⟨rfl, hb1⟩; rw [HQ.out]
        go_wp2
        go_returns
        exact ⟨_, 0, 0, rfl, ((EvsIn.of_own (l := []) hown).keep hb1).wide (Nat.le_refl _) hb1.size, bthen hb hb1⟩
      · go_wp2
        go_returns
        exact ⟨_, 0, 0, rfl, EvsIn.of_own (l := []) hown, hb⟩
  · have HR := Lib.hid (show doubles l = dblTo l l.length by simp [doubles, hq])
    clear hq
    rw [HR.out]
    go_enter Try.func46, Try.ntmps46
    go_wp2
    go_loopw [3, 4, 5, 6] (fun o i _ _ wr => ∃ (j : Nat) (O : Option Addr) (cap : Nat), j ≤ n ∧ i = .int .i64 j ∧ o = .slice O (dblTo l j).length cap ∧ wr.ownsRow w.heap.size 63 4 (.slice O (dblTo l j).length cap) (dblTo l j).length (evsL (dblTo l j)) ∧ Below w.heap.size w wr) (fun _ i _ _ _ => n - (intOf i).toNat)
    case atStart => exact ⟨0, _, _, Nat.zero_le _, rfl, rfl, own_empty w _ _ (Nat.le_refl _), by go_grown⟩
    case round =>
      obtain ⟨j, O, cap, hj, rfl, rfl, hown, hb⟩ := hrel
      by_cases hlt : j < n
      · go_wp2_with fail
        refine (eventsOk_spec _ _ _ _ _ (hat.keep hb) (by omega)).mono ?_
        rintro e w1 ⟨rfl, hb1⟩; rw [HQ.out]
        have hB1 := bthen hb hb1
        have hown1 := (RowIn.of_own hown).keep hb1
        clear hown
        go_wp2
        go_loopw [5, 6] (fun s k ws => ∃ m : Nat, m ≤ j ∧ k = .int .i64 m ∧ s = .bool (dblAt l (eAt l j) m) ∧ Below w1.heap.size w1 ws) (fun _ k _ => j - (intOf k).toNat)
        case atStart => exact ⟨0, Nat.zero_le _, rfl, by rw [dblAt_no (fun i hi => absurd hi (by omega))], Below.refl _ _⟩
        case round =>
          obtain ⟨m, hm, rfl, rfl, hbs⟩ := hrel
          have hBs := bthen hB1 hbs
          have hat2 := hat
          obtain ⟨b, off, rfl, hbl, hc⟩ := hat2.at_ hlt
          by_cases hmj : m < j
          · have hc1 := (hBs.cell (p := ⟨b, off + j * 4 + 1, none⟩) hbl).trans (hc j hlt).2.1
            have hc2 := (hBs.cell (p := ⟨b, off + j * 4 + 2, none⟩) hbl).trans (hc j hlt).2.2.1
            have hc3 := (hBs.cell (p := ⟨b, off + j * 4 + 3, none⟩) hbl).trans (hc j hlt).2.2.2
            have hd1 := (hBs.cell (p := ⟨b, off + m * 4 + 1, none⟩) hbl).trans (hc m (by omega)).2.1
            have hd2 := (hBs.cell (p := ⟨b, off + m * 4 + 2, none⟩) hbl).trans (hc m (by omega)).2.2.1
            have hd3 := (hBs.cell (p := ⟨b, off + m * 4 + 3, none⟩) hbl).trans (hc m (by omega)).2.2.2
            clear hc hat2
            have hmn : m < n := by omega
            obtain ⟨q, hq⟩ : ∃ q, dblAt l (eAt l j) m = q := ⟨_, rfl⟩
            have HS := Lib.hid (dblAt_succ l (eAt l j) m)
            rw [hq]
            cases q
            · by_cases h1 : (eAt l m).c = (eAt l j).c
              · have g1 : ((eAt l m).c == (eAt l j).c) = true := by simpa using h1
                by_cases h2 : (eAt l m).n = (eAt l j).n
                · have g2 : ((eAt l m).n == (eAt l j).n) = true := by simpa using h2
                  by_cases h3 : (eAt l m).x = (eAt l j).x
                  · have g3 : (!((eAt l m).x.toList == (eAt l j).x.toList)) = false := by rw [str_beq]; simpa using h3
                    have HD := Lib.hid (show dblAt l (eAt l j) (m + 1) = false by rw [HS.out, hq]; simp [dblP, h1, h2, h3])
                    clear h1 h2 h3 hq
                    go_wp2
                    go_quiet (fail)
                    go_wp2
                    exact ⟨⟨m + 1, by omega, by go_num, by rw [HD.out], below_drewN hbs _⟩, by simp [intOf]; omega⟩
                  · have g3 : (!((eAt l m).x.toList == (eAt l j).x.toList)) = true := by rw [str_beq]; simpa using h3
                    have HD := Lib.hid (show dblAt l (eAt l j) (m + 1) = true by rw [HS.out, hq]; simp [dblP, h1, h2, h3])
                    clear h1 h2 h3 hq
                    go_wp2
                    go_quiet (fail)
                    go_wp2
                    exact ⟨⟨m + 1, by omega, by go_num, by rw [HD.out], below_drewN hbs _⟩, by simp [intOf]; omega⟩
                · have g2 : ((eAt l m).n == (eAt l j).n) = false := by simpa using h2
                  have HD := Lib.hid (show dblAt l (eAt l j) (m + 1) = false by rw [HS.out, hq]; simp [dblP, h2])
                  clear h1 h2 hq
                  go_wp2
                  go_quiet (fail)
                  go_wp2
                  exact ⟨⟨m + 1, by omega, by go_num, by rw [HD.out], below_drewN hbs _⟩, by simp [intOf]; omega⟩
              · have g1 : ((eAt l m).c == (eAt l j).c) = false := by simpa using h1
                have HD := Lib.hid (show dblAt l (eAt l j) (m + 1) = false by rw [HS.out, hq]; simp [dblP, h1])
                clear h1 hq
                go_wp2
                go_quiet (fail)
                go_wp2
                exact ⟨⟨m + 1, by omega, by go_num, by rw [HD.out], below_drewN hbs _⟩, by simp [intOf]; omega⟩
            · have HD := Lib.hid (show dblAt l (eAt l j) (m + 1) = true by rw [HS.out, hq]; simp)
              clear hq
              go_wp2
              go_quiet (fail)
              go_wp2
              exact ⟨⟨m + 1, by omega, by go_num, by rw [HD.out], below_drewN hbs _⟩, by simp [intOf]; omega⟩
          · obtain rfl : m = j := by omega
            have hown2 := (hown1.keep hbs).own
            have hLL := dblTo_len l m
            have hc0 := (hBs.cell (p := ⟨b, off + m * 4, none⟩) hbl).trans (hc m hlt).1
            have hc1 := (hBs.cell (p := ⟨b, off + m * 4 + 1, none⟩) hbl).trans (hc m hlt).2.1
            have hc2 := (hBs.cell (p := ⟨b, off + m * 4 + 2, none⟩) hbl).trans (hc m hlt).2.2.1
            have hc3 := (hBs.cell (p := ⟨b, off + m * 4 + 3, none⟩) hbl).trans (hc m hlt).2.2.2
            clear hc hat2
            obtain ⟨q, hq⟩ : ∃ q, dblAt l (eAt l m) m = q := ⟨_, rfl⟩
            cases q
            · have HS := Lib.hid (dblTo_no hq)
              rw [hq]
              clear hq
              go_wp2
              exact ⟨⟨m + 1, O, cap, by omega, by go_num, by rw [HS.out], by rw [HS.out]; exact hown2, hBs⟩, by simp [intOf]; omega⟩
            · have HS := Lib.hid (dblTo_yes hq)
              rw [hq]
              clear hq
              have hzs := hBs.size
              go_wp2_with (at_builtin; refine wpList_app1 (P := Try.prog) _ rfl (.tmp 64) (.tmp 69) 59 rfl w.heap.size 63 _ 4 40 Try.underlying59 infoEvent rfl (by omega) (.slice O _ cap) _ _ rfl hown2 #[.int .i64 (eAt l m).t, .int .i64 (eAt l m).c, .int .i64 (eAt l m).n, .string (eAt l m).x] rfl rfl (by simp [Value.oneCell']) (by unfold maxLen; omega) (by omega) hzs ?_; intro A' c' w3 hown3 hg3 hb3 _)
              refine ⟨⟨m + 1, A', c', by omega, by go_num, ?_⟩, by simp [intOf]; omega⟩
              rw [HS.out, evsL_snoc]
              exact ⟨by simp, by simpa [evL] using hown3, hBs.trans hb3⟩
      · go_wp2
        go_returns
        have : j = l.length := by have := HL.out; omega
        subst this
        exact ⟨O, _, cap, rfl, EvsIn.of_own hown, hb⟩
end Go.Proofs.Ytmichbgiaoopgaa
