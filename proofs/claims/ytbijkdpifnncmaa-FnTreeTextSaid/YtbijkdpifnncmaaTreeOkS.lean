/- Contract of the reference's TreeOk. -/
import Derived.Test.YtbijkdpifnncmaaTreeOk
namespace Go.Proofs.Ytbijkdpifnncmaa
open Go.RowKit

theorem all8_no {l : List ByteArray} {k : Nat} (hk : k < l.length) (h : ¬ (sAt l k).size = 8) : all8 l = false := all_no hk (by simpa using h)
theorem all8_yes {l : List ByteArray} (h : ∀ j, j < l.length → (sAt l j).size = 8) : all8 l = true := all_yes (fun j hj => by simpa using h j hj)
theorem entryAt_yes {l : List Ent} {k : Nat} (h1 : pathOkB (enAt l k).p = true) (h2 : (decide (k = 0) || Op.bytesLess (enAt l (k - 1)).p.toList (enAt l k).p.toList) = true) (h3 : (enAt l k).ch.length ≤ 4) (h4 : all8 (enAt l k).ch = true) (h5 : underAny l (enAt l k).p l.length = false) :
    entryAt l k = true := by
  unfold entryAt; rw [h1, h2, h4, h5]; simp [h3]
theorem treeOkB_len {l : List Ent} (h : ¬ l.length ≤ 12) : treeOkB l = false := by unfold treeOkB; simp [h]
theorem entryAt_len {l : List Ent} {k : Nat} (h3 : ¬ (enAt l k).ch.length ≤ 4) : entryAt l k = false := by
  unfold entryAt; simp [h3]
attribute [local go_sem] Grow.cell Grow.frozen
attribute [local irreducible] pathOkB underB beginsB all8 StrsAt

set_option maxHeartbeats 1000000 in
set_option maxRecDepth 20000 in
theorem treeOk_spec2 (A : Option Addr) (n c : Nat) (l : List Ent) (w : World) (h : EntsAt w A n l) (hs : entsSz l ≤ 1048704) :
    Calls Try.prog 12 #[.slice A n c] w fun e w' => e = .returned (.bool (treeOkB l)) ∧ Below w.heap.size w w' := by
  have HL := Lib.hid h.1.symm
  have hn := ents_n h hs
  have hel := ents_el hs
  by_cases h12 : n ≤ 12
  · have g12 : decide ((12 : Int) < n) = false := by simp; omega
    go_enter Try.func12, Try.ntmps12
    go_wp2
    go_loopw [3, 4, 5] (fun i _ _ wr => ∃ k : Nat, k ≤ n ∧ i = .int .i64 k ∧ (∀ j, j < k → entryAt l j = true) ∧ Below w.heap.size w wr) (fun i _ _ _ => n - (intOf i).toNat)
    case atStart => exact ⟨0, Nat.zero_le _, rfl, fun j hj => absurd hj (by omega), Below.refl _ _⟩
    case round =>
      obtain ⟨k, hk, rfl, hall, hb⟩ := hrel
      have HA := Lib.hid hall; clear hall
      by_cases hlt : k < n
      · obtain ⟨b, off, rfl, hbl, hc⟩ := h.at_ (by omega)
        obtain ⟨hp0, A', n', c', hc0, hat, _⟩ := hc k hlt
        have hpk := (hb.cell (p := ⟨b, off + k * 2, none⟩) hbl).trans hp0
        have hck := (hb.cell (p := ⟨b, off + k * 2 + 1, none⟩) hbl).trans hc0
        have hcp : 0 < k → w.cell? ⟨b, off + (k - 1) * 2, none⟩ = some (.string (enAt l (k - 1)).p) := fun _ => (hc (k - 1) (by omega)).1
        have hpp : ∀ i, i < n → w.cell? ⟨b, off + i * 2, none⟩ = some (.string (enAt l i).p) := fun i hi => (hc i hi).1
        have hkn0 : (k : Int) < n := by omega
        clear hc hc0
        have hek := hel k
        unfold entSz at hek
        have hbr : b < wr.heap.size := Nat.lt_of_lt_of_le hbl hb.size
        have HN := Lib.hid hat.nn
        have hn4 : n' ≤ 1048704 := by have := HN.out; unfold strsSz at hek; omega
        obtain ⟨q1, hq1⟩ : ∃ q, pathOkB (enAt l k).p = q := ⟨_, rfl⟩
        have Q1 := Lib.hid hq1
        cases q1
        · have HE := Lib.hid (show entryAt l k = false by unfold entryAt; rw [hq1]; simp)
          clear hq1 hcp
          go_wp2
          refine wp_region_grow (by kernel_rfl) (by kernel_rfl) ?_
          repeat (go_big_quiet_step ((go_at_call 24; exact grow_of (known Q1.out (pathOk_spec _ _ (by omega))))))
          refine wpQuiet_nil ?_
          intro _ hw'
          obtain ⟨⟨w1, hb1⟩, hw''⟩ := hw'
          change _ = w1 at hw''
          subst hw''
          go_wp2
          go_returns
          exact ⟨ret_bool (treeOkB_no (k := k) (by have := HL.out; omega) HE.out).symm, bthen hb hb1⟩
        · clear hq1
          by_cases hk0 : 0 < k
          · have hcpk := (hb.cell (p := ⟨b, off + (k - 1) * 2, none⟩) hbl).trans (hcp hk0)
            clear hcp
            obtain ⟨q, hq⟩ : ∃ q, Op.bytesLess (enAt l (k - 1)).p.toList (enAt l k).p.toList = q := ⟨_, rfl⟩
            cases q
            · have HE := Lib.hid (show entryAt l k = false by unfold entryAt; rw [hq]; simp; omega)
              go_wp2
              refine wp_region_grow (by kernel_rfl) (by kernel_rfl) ?_
              repeat (go_big_quiet_step ((go_at_call 24; exact grow_of (known Q1.out (pathOk_spec _ _ (by omega))))))
              refine wpQuiet_nil ?_
              intro _ hw'
              obtain ⟨⟨w1, hb1⟩, hw''⟩ := hw'
              change _ = w1 at hw''
              subst hw''
              go_wp2
              go_returns
              exact ⟨ret_bool (treeOkB_no (k := k) (by have := HL.out; omega) HE.out).symm, bthen hb hb1⟩
            · have HO := Lib.hid hq
              by_cases h4 : n' ≤ 4
              · have g4 : decide ((4 : Int) < n') = false := by simp; omega
                go_wp2
                refine wp_region_grow (by kernel_rfl) (by kernel_rfl) ?_
                repeat (go_big_quiet_step ((go_at_call 24; exact grow_of (known Q1.out (pathOk_spec _ _ (by omega))))))
                refine wpQuiet_nil ?_
                intro _ hw'
                obtain ⟨⟨w1, hb1⟩, hw''⟩ := hw'
                change _ = w1 at hw''
                subst hw''
                have hB1 := bthen hb hb1
                have hck1 := (hb1.cell (p := ⟨b, off + k * 2 + 1, none⟩) hbr).trans hck
                have hat1 := hat.keep hB1
                go_wp2
                go_loop [4] (fun c => ∃ m : Nat, m ≤ n' ∧ c = .int .i64 m ∧ ∀ j, j < m → (sAt (enAt l k).ch j).size = 8) (fun c => n' - (intOf c).toNat)
                case atStart => exact ⟨0, Nat.zero_le _, rfl, fun j hj => absurd hj (by omega)⟩
                case round =>
                  obtain ⟨m, hm, rfl, h8⟩ := hrel
                  have H8 := Lib.hid h8; clear h8
                  by_cases hmn : m < n'
                  · obtain ⟨b2, off2, rfl, hbl2, hc2⟩ := hat1.at_ (by omega)
                    have hcm := hc2 m hmn
                    clear hc2
                    by_cases h8 : (sAt (enAt l k).ch m).size = 8
                    · have g1 : ((((sAt (enAt l k).ch m).size : Nat) : Int) != 8) = false := by simp [h8]
                      have HH := Lib.hid h8; clear h8
                      go_wp2
                      refine ⟨⟨m + 1, by omega, by go_num, ?_⟩, by simp [intOf]; omega⟩
                      intro j hj
                      by_cases e : j = m
                      · subst e; exact HH.out
                      · exact H8.out j (by omega)
                    · have g1 : ((((sAt (enAt l k).ch m).size : Nat) : Int) != 8) = true := by simp; omega
                      have HE := Lib.hid (show entryAt l k = false by
                        unfold entryAt
                        rw [show all8 (enAt l k).ch = false from all8_no (k := m) (by have := HN.out; omega) h8]; simp)
                      clear h8
                      go_wp2
                      go_returns
                      exact ⟨ret_bool (treeOkB_no (k := k) (by have := HL.out; omega) HE.out).symm, hB1⟩
                  · go_wp2
                    have A8 := Lib.hid (show all8 (enAt l k).ch = true from all8_yes (fun j hj => H8.out j (by have := HN.out; omega)))
                    go_loopw [5] (fun c wu => ∃ m : Nat, m ≤ n ∧ c = .int .i64 m ∧ (∀ j, j < m → underB (enAt l j).p (enAt l k).p = false) ∧ Below w.heap.size w wu) (fun c _ => n - (intOf c).toNat)
                    case atStart => exact ⟨0, Nat.zero_le _, rfl, fun j hj => absurd hj (by omega), hB1⟩
                    case round =>
                      obtain ⟨m2, hm2, rfl, hu, hbu⟩ := hrel
                      have HU := Lib.hid hu; clear hu
                      by_cases hmn2 : m2 < n
                      · have hpk2 := (hbu.cell (p := ⟨b, off + k * 2, none⟩) hbl).trans hp0
                        have hpm2 := (hbu.cell (p := ⟨b, off + m2 * 2, none⟩) hbl).trans (hpp m2 hmn2)
                        have hbu1 := Nat.lt_of_lt_of_le hbl hbu.size
                        have hem := hel m2
                        unfold entSz at hem
                        obtain ⟨q, hq⟩ : ∃ q, underB (enAt l m2).p (enAt l k).p = q := ⟨_, rfl⟩
                        have HQ := Lib.hid hq; clear hq
                        have hkn : (k : Int) < n := by omega
                        have hmn3 : (m2 : Int) < n := by omega
                        cases q
                        · go_wp2
                          refine wp_region_grow (by kernel_rfl) (by kernel_rfl) ?_
                          repeat (go_big_quiet_step ((go_at_call 41; exact grow_same (known HQ.out (l30Under_any _ _ _ (by omega) (by omega))))))
                          refine wpQuiet_nil ?_
                          intro _ hw'
                          obtain ⟨⟨w3, hb3⟩, hw''⟩ := hw'
                          change _ = w3 at hw''
                          subst hw''
                          go_wp2
                          refine ⟨⟨m2 + 1, by omega, by go_num, ?_, bthen hbu hb3⟩, by simp [intOf]; omega⟩
                          intro j hj
                          by_cases e : j = m2
                          · subst e; exact HQ.out
                          · exact HU.out j (by omega)
                        · have HE := Lib.hid (show entryAt l k = false by
                            unfold entryAt
                            rw [underAny_yes (i := m2) (by have := HL.out; omega) HQ.out]; simp)
                          go_wp2
                          refine wp_region_grow (by kernel_rfl) (by kernel_rfl) ?_
                          repeat (go_big_quiet_step ((go_at_call 41; exact grow_same (known HQ.out (l30Under_any _ _ _ (by omega) (by omega))))))
                          refine wpQuiet_nil ?_
                          intro _ hw'
                          obtain ⟨⟨w3, hb3⟩, hw''⟩ := hw'
                          change _ = w3 at hw''
                          subst hw''
                          go_wp2
                          go_returns
                          exact ⟨ret_bool (treeOkB_no (k := k) (by have := HL.out; omega) HE.out).symm, bthen hbu hb3⟩
                      · have HE := Lib.hid (entryAt_yes Q1.out (by rw [HO.out, Bool.or_true]) (by have := HN.out; omega) A8.out (underAny_no (fun i hi => HU.out i (by have := HL.out; omega))))
                        go_wp2
                        exact ⟨⟨k + 1, by omega, by go_num, upto_succ HA.out HE.out, hbu⟩, by simp [intOf]; omega⟩
              · have g4 : decide ((4 : Int) < n') = true := by simp; omega
                have HE := Lib.hid (entryAt_len (by have := HN.out; omega : ¬ ((enAt l k).ch.length ≤ 4)))
                go_wp2
                refine wp_region_grow (by kernel_rfl) (by kernel_rfl) ?_
                repeat (go_big_quiet_step ((go_at_call 24; exact grow_of (known Q1.out (pathOk_spec _ _ (by omega))))))
                refine wpQuiet_nil ?_
                intro _ hw'
                obtain ⟨⟨w1, hb1⟩, hw''⟩ := hw'
                change _ = w1 at hw''
                subst hw''
                go_wp2
                go_returns
                exact ⟨ret_bool (treeOkB_no (k := k) (by have := HL.out; omega) HE.out).symm, bthen hb hb1⟩
          · clear hcp
            have gk : decide (0 < k) = false := by simpa using hk0
            have h0 : decide (k = 0) = true := by simp; omega
            have HO := Lib.hid h0; clear h0
            by_cases h4 : n' ≤ 4
            · have g4 : decide ((4 : Int) < n') = false := by simp; omega
              go_wp2
              refine wp_region_grow (by kernel_rfl) (by kernel_rfl) ?_
              repeat (go_big_quiet_step ((go_at_call 24; exact grow_of (known Q1.out (pathOk_spec _ _ (by omega))))))
              refine wpQuiet_nil ?_
              intro _ hw'
              obtain ⟨⟨w1, hb1⟩, hw''⟩ := hw'
              change _ = w1 at hw''
              subst hw''
              have hB1 := bthen hb hb1
              have hck1 := (hb1.cell (p := ⟨b, off + k * 2 + 1, none⟩) hbr).trans hck
              have hat1 := hat.keep hB1
              go_wp2
              go_loop [4] (fun c => ∃ m : Nat, m ≤ n' ∧ c = .int .i64 m ∧ ∀ j, j < m → (sAt (enAt l k).ch j).size = 8) (fun c => n' - (intOf c).toNat)
              case atStart => exact ⟨0, Nat.zero_le _, rfl, fun j hj => absurd hj (by omega)⟩
              case round =>
                obtain ⟨m, hm, rfl, h8⟩ := hrel
                have H8 := Lib.hid h8; clear h8
                by_cases hmn : m < n'
                · obtain ⟨b2, off2, rfl, hbl2, hc2⟩ := hat1.at_ (by omega)
                  have hcm := hc2 m hmn
                  clear hc2
                  by_cases h8 : (sAt (enAt l k).ch m).size = 8
                  · have g1 : ((((sAt (enAt l k).ch m).size : Nat) : Int) != 8) = false := by simp [h8]
                    have HH := Lib.hid h8; clear h8
                    go_wp2
                    refine ⟨⟨m + 1, by omega, by go_num, ?_⟩, by simp [intOf]; omega⟩
                    intro j hj
                    by_cases e : j = m
                    · subst e; exact HH.out
                    · exact H8.out j (by omega)
                  · have g1 : ((((sAt (enAt l k).ch m).size : Nat) : Int) != 8) = true := by simp; omega
                    have HE := Lib.hid (show entryAt l k = false by
                      unfold entryAt
                      rw [show all8 (enAt l k).ch = false from all8_no (k := m) (by have := HN.out; omega) h8]; simp)
                    clear h8
                    go_wp2
                    go_returns
                    exact ⟨ret_bool (treeOkB_no (k := k) (by have := HL.out; omega) HE.out).symm, hB1⟩
                · go_wp2
                  have A8 := Lib.hid (show all8 (enAt l k).ch = true from all8_yes (fun j hj => H8.out j (by have := HN.out; omega)))
                  go_loopw [5] (fun c wu => ∃ m : Nat, m ≤ n ∧ c = .int .i64 m ∧ (∀ j, j < m → underB (enAt l j).p (enAt l k).p = false) ∧ Below w.heap.size w wu) (fun c _ => n - (intOf c).toNat)
                  case atStart => exact ⟨0, Nat.zero_le _, rfl, fun j hj => absurd hj (by omega), hB1⟩
                  case round =>
                    obtain ⟨m2, hm2, rfl, hu, hbu⟩ := hrel
                    have HU := Lib.hid hu; clear hu
                    by_cases hmn2 : m2 < n
                    · have hpk2 := (hbu.cell (p := ⟨b, off + k * 2, none⟩) hbl).trans hp0
                      have hpm2 := (hbu.cell (p := ⟨b, off + m2 * 2, none⟩) hbl).trans (hpp m2 hmn2)
                      have hbu1 := Nat.lt_of_lt_of_le hbl hbu.size
                      have hem := hel m2
                      unfold entSz at hem
                      obtain ⟨q, hq⟩ : ∃ q, underB (enAt l m2).p (enAt l k).p = q := ⟨_, rfl⟩
                      have HQ := Lib.hid hq; clear hq
                      have hkn : (k : Int) < n := by omega
                      have hmn3 : (m2 : Int) < n := by omega
                      cases q
                      · go_wp2
                        refine wp_region_grow (by kernel_rfl) (by kernel_rfl) ?_
                        repeat (go_big_quiet_step ((go_at_call 41; exact grow_same (known HQ.out (l30Under_any _ _ _ (by omega) (by omega))))))
                        refine wpQuiet_nil ?_
                        intro _ hw'
                        obtain ⟨⟨w3, hb3⟩, hw''⟩ := hw'
                        change _ = w3 at hw''
                        subst hw''
                        go_wp2
                        refine ⟨⟨m2 + 1, by omega, by go_num, ?_, bthen hbu hb3⟩, by simp [intOf]; omega⟩
                        intro j hj
                        by_cases e : j = m2
                        · subst e; exact HQ.out
                        · exact HU.out j (by omega)
                      · have HE := Lib.hid (show entryAt l k = false by
                          unfold entryAt
                          rw [underAny_yes (i := m2) (by have := HL.out; omega) HQ.out]; simp)
                        go_wp2
                        refine wp_region_grow (by kernel_rfl) (by kernel_rfl) ?_
                        repeat (go_big_quiet_step ((go_at_call 41; exact grow_same (known HQ.out (l30Under_any _ _ _ (by omega) (by omega))))))
                        refine wpQuiet_nil ?_
                        intro _ hw'
                        obtain ⟨⟨w3, hb3⟩, hw''⟩ := hw'
                        change _ = w3 at hw''
                        subst hw''
                        go_wp2
                        go_returns
                        exact ⟨ret_bool (treeOkB_no (k := k) (by have := HL.out; omega) HE.out).symm, bthen hbu hb3⟩
                    · have HE := Lib.hid (entryAt_yes Q1.out (by rw [HO.out, Bool.true_or]) (by have := HN.out; omega) A8.out (underAny_no (fun i hi => HU.out i (by have := HL.out; omega))))
                      go_wp2
                      exact ⟨⟨k + 1, by omega, by go_num, upto_succ HA.out HE.out, hbu⟩, by simp [intOf]; omega⟩
            · have g4 : decide ((4 : Int) < n') = true := by simp; omega
              have HE := Lib.hid (entryAt_len (by have := HN.out; omega : ¬ ((enAt l k).ch.length ≤ 4)))
              go_wp2
              refine wp_region_grow (by kernel_rfl) (by kernel_rfl) ?_
              repeat (go_big_quiet_step ((go_at_call 24; exact grow_of (known Q1.out (pathOk_spec _ _ (by omega))))))
              refine wpQuiet_nil ?_
              intro _ hw'
              obtain ⟨⟨w1, hb1⟩, hw''⟩ := hw'
              change _ = w1 at hw''
              subst hw''
              go_wp2
              go_returns
              exact ⟨ret_bool (treeOkB_no (k := k) (by have := HL.out; omega) HE.out).symm, bthen hb hb1⟩
      · go_wp2
        go_returns
        exact ⟨ret_bool (by rw [treeOkB_all (fun j hj => HA.out j (by have := HL.out; omega)), HL.out]; simp; omega), hb⟩
  · have g12 : decide ((12 : Int) < n) = true := by simp; omega
    have HF := Lib.hid (treeOkB_len (l := l) (by have := HL.out; omega))
    go_enter Try.func12, Try.ntmps12
    go_wp2
    go_returns
    exact ⟨ret_bool HF.out.symm, Below.refl _ _⟩
theorem treeOk_spec1 (A : Option Addr) (n c : Nat) (l : List Ent) (w : World) (h : EntsAt w A n l) (hs : entsSz l ≤ 1048577) :
    Calls Try.prog 12 #[.slice A n c] w fun e w' => e = .returned (.bool (treeOkB l)) ∧ Below w.heap.size w w' := treeOk_spec2 A n c l w h (by omega)
theorem treeOk_spec (A : Option Addr) (n c : Nat) (l : List Ent) (w : World) (h : EntsAt w A n l) (hs : entsSz l ≤ 1048576) :
    Calls Try.prog 12 #[.slice A n c] w fun e w' => e = .returned (.bool (treeOkB l)) ∧ Below w.heap.size w w' := treeOk_spec1 A n c l w h (by omega)
end Go.Proofs.Ytbijkdpifnncmaa
