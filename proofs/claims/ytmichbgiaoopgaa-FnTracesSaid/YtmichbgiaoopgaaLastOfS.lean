/- Contracts of the reference's l36Most and LastOf. -/
import Derived.Test.YtmichbgiaoopgaaLastOf
import Derived.Test.YtmichbgiaoopgaaMost
namespace Go.Proofs.Ytmichbgiaoopgaa
open Go.RowKit

theorem lastOf_none {l : List Ev} {c : Int} (h : evsOkB l = true → mostTo l c l.length ≤ 0 ∨ ∀ t, t < l.length → ¬ ((eAt l t).c = c ∧ (eAt l t).n = mostTo l c l.length)) : lastOf l c = none := by
  unfold lastOf
  split
  · rename_i hok
    obtain ⟨h0, h1, h2⟩ := mostTo_is l c l.length
    refine lastTo_eq ?_
    intro j hj hjc
    have hn := evsOk_n hok hj
    have := h1 j hj hjc
    rcases h hok with h' | h'
    · omega
    · obtain ⟨t, ht, h3⟩ := h2 (by omega)
      exact h' t ht h3
  · rfl
theorem lastOf_some {l : List Ev} {c : Int} {i : Nat} (hok : evsOkB l = true) (hi : i < l.length) (hc : (eAt l i).c = c) (hn : (eAt l i).n = mostTo l c l.length)
    (h : ∀ t, i < t → t < l.length → ¬ ((eAt l t).c = c ∧ (eAt l t).n = mostTo l c l.length)) : lastOf l c = some i := by
  unfold lastOf
  rw [if_pos hok]
  obtain ⟨h0, h1, h2⟩ := mostTo_is l c l.length
  refine lastTo_eq ⟨hi, hc, fun j hj hjc => by have := h1 j hj hjc; omega, fun j hj hij hjc => ?_⟩
  have h3 := h1 j hj hjc
  rcases Int.lt_or_eq_of_le h3 with h4 | h4
  · omega
  · exact absurd ⟨hjc, h4⟩ (h j hij hj)

set_option maxHeartbeats 1000000 in
theorem lastOf_spec (A : Option Addr) (n c : Nat) (l : List Ev) (cl : Int) (w : World) (h : EvsAt w A n l) (hn : n ≤ 1152921504606846975) :
    Calls Try.prog 50 #[.slice A n c, .int .i64 cl] w fun e w' => e = .returned (.tuple #[evV (bestOf l (lastOf l cl)), .bool (lastOf l cl).isSome]) ∧ Below w.heap.size w w' := by
  have HL := Lib.hid h.1.symm
  obtain ⟨M, hM⟩ : ∃ M, mostTo l cl n = M := ⟨_, rfl⟩
  have HM := Lib.hid hM
  go_enter Try.func50, Try.ntmps50
  go_wp2_with fail
  refine (l36Most_spec A n c l cl _ (h.keep (by go_grown)) hn).mono ?_
  rintro e w1 ⟨rfl, hb1⟩
  rw [hM]
  clear hM
  have hR : EvBox w1 w.heap.size evNil := (EvBox.new w 63 evNil).keep hb1
  have hB1 : Below w.heap.size w w1 := bthen (by go_grown) hb1
  have hz1 : w.heap.size < w1.heap.size := by have := hb1.size; simp at this; omega
  go_wp2
  go_loopw [7] (fun i wr => ∃ j : Nat, j ≤ n ∧ i = .int .i64 ((j : Int) - 1) ∧ (∀ t, j ≤ t → t < n → ¬ ((eAt l t).c = cl ∧ (eAt l t).n = M)) ∧ EvBox wr w.heap.size evNil ∧ Below w.heap.size w wr ∧ w.heap.size < wr.heap.size) (fun i _ => (intOf i + 1).toNat)
  case atStart => exact ⟨n, Nat.le_refl _, rfl, fun t ht ht' => by omega, hR, hB1, hz1⟩
  case round =>
    obtain ⟨j, hj, rfl, hall, hRr, hb, hzr⟩ := hrel
    have HA := Lib.hid hall; clear hall
    obtain ⟨⟨z0, z1, z2, z3⟩, f0, f1, f2, f3⟩ := id hRr
    by_cases hj0 : j = 0
    · subst hj0
      have HF := Lib.hid (show lastOf l cl = none from lastOf_none (fun _ => by rw [HL.out, HM.out]; exact .inr (fun t ht => HA.out t (by omega) ht)))
      have ei : (((0 : Nat) : Int) - 1) = -1 := by omega
      rw [ei]
      go_wp2
      simp only [evNil] at z0 z1 z2 z3
      refine bodyPost_ret (v := .tuple #[evV evNil, .bool false]) (by simp [results, Try.results50, go_sem, evNil, evV, z0, z1, z2, z3]; try rfl) rfl ⟨by rw [HF.out]; rfl, below_evSet hb (Nat.le_refl _) evNil⟩
    · obtain ⟨q, rfl⟩ : ∃ q, j = q + 1 := ⟨j - 1, by omega⟩
      have ei : (((q + 1 : Nat) : Int) - 1) = (q : Int) := by omega
      rw [ei]
      by_cases hM0 : 0 < M
      · have hEv := h.keep hb
        cases hok : evsOkB l with
        | false =>
          have HF := Lib.hid (show lastOf l cl = none from lastOf_none (fun h' => by rw [hok] at h'; cases h'))
          go_wp2_with fail
          refine (eventsOk_spec A n c l _ hEv hn).mono ?_
          rintro e w2 ⟨rfl, hb2⟩
          obtain ⟨⟨z0, z1, z2, z3⟩, f0, f1, f2, f3⟩ := hRr.keep hb2
          have hb := bthen hb hb2
          go_wp2
          simp only [evNil] at z0 z1 z2 z3
          refine bodyPost_ret (v := .tuple #[evV evNil, .bool false]) (by simp [results, Try.results50, go_sem, evNil, evV, z0, z1, z2, z3]; try rfl) rfl ⟨by rw [HF.out]; rfl, below_evSet hb (Nat.le_refl _) evNil⟩
        | true =>
          go_wp2_with fail
          refine (eventsOk_spec A n c l _ hEv hn).mono ?_
          rintro e w2 ⟨rfl, hb2⟩
          have hRr2 := hRr.keep hb2
          have hbb := bthen hb hb2
          have hz2 : w.heap.size < w2.heap.size := Nat.lt_of_lt_of_le hzr hb2.size
          clear z0 z1 z2 z3 f0 f1 f2 f3
          obtain ⟨b, off, rfl, hbl, hc⟩ := h.at_ (k := q) (by omega)
          have hc0 := (hbb.cell (p := ⟨b, off + q * 4, none⟩) hbl).trans (hc q (by omega)).1
          have hc1 := (hbb.cell (p := ⟨b, off + q * 4 + 1, none⟩) hbl).trans (hc q (by omega)).2.1
          have hc2 := (hbb.cell (p := ⟨b, off + q * 4 + 2, none⟩) hbl).trans (hc q (by omega)).2.2.1
          have hc3 := (hbb.cell (p := ⟨b, off + q * 4 + 3, none⟩) hbl).trans (hc q (by omega)).2.2.2
          clear hc
          by_cases hcl : (eAt l q).c = cl
          · have g1 : ((eAt l q).c == cl) = true := by simpa using hcl
            by_cases hnm : (eAt l q).n = M
            · have g2 : ((eAt l q).n == M) = true := by simpa using hnm
              have HF := Lib.hid (show lastOf l cl = some q from lastOf_some hok (by rw [HL.out]; omega) hcl (by rw [HL.out, HM.out]; exact hnm) (fun t ht ht' => by rw [HL.out, HM.out]; exact HA.out t (by omega) (by rw [← HL.out]; exact ht')))
              clear hcl hnm
              obtain ⟨⟨z0, z1, z2, z3⟩, f0, f1, f2, f3⟩ := id hRr2
              go_wp2
              refine bodyPost_ret (v := .tuple #[evV (eAt l q), .bool true]) (by simp [results, Try.results50, go_sem, evV, z0, z1, z2, z3]; try rfl) rfl ⟨by rw [HF.out]; rfl, below_evSet hbb (Nat.le_refl _) (eAt l q)⟩
            · have g2 : ((eAt l q).n == M) = false := by simpa using hnm
              have HN := Lib.hid hnm
              clear hcl hnm
              go_wp2
              exact ⟨⟨q, by omega, rfl, fun t ht ht' hh => by
                by_cases e : t = q
                · subst e; exact HN.out hh.2
                · exact HA.out t (by omega) ht' hh, hRr2, hbb, hz2⟩, by simp [intOf]⟩
          · have g1 : ((eAt l q).c == cl) = false := by simpa using hcl
            have HN := Lib.hid hcl
            clear hcl
            go_wp2
            exact ⟨⟨q, by omega, rfl, fun t ht ht' hh => by
              by_cases e : t = q
              · subst e; exact HN.out hh.1
              · exact HA.out t (by omega) ht' hh, hRr2, hbb, hz2⟩, by simp [intOf]⟩
      · have HF := Lib.hid (show lastOf l cl = none from lastOf_none (fun _ => by rw [HL.out, HM.out]; exact .inl (by omega)))
        go_wp2
        simp only [evNil] at z0 z1 z2 z3
        refine bodyPost_ret (v := .tuple #[evV evNil, .bool false]) (by simp [results, Try.results50, go_sem, evNil, evV, z0, z1, z2, z3]; try rfl) rfl ⟨by rw [HF.out]; rfl, below_evSet hb (Nat.le_refl _) evNil⟩
end Go.Proofs.Ytmichbgiaoopgaa
