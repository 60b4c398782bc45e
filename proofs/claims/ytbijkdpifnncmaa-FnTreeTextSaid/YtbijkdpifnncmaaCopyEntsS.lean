/- Contract of l30Copy. -/
import Derived.Test.YtbijkdpifnncmaaCopyEnts
namespace Go.Proofs.Ytbijkdpifnncmaa
open Go.RowKit
attribute [local irreducible] StrsAt

theorem own_empty' (w : World) (e sz : Nat) {base : Nat} (hb : base ≤ w.heap.size) : (w.drew.alloc (.cells #[] e)).ownsRow base e sz (.slice (some ⟨w.heap.size, 0, none⟩) 0 0) 0 [] := own_empty w.drew e sz hb

set_option maxRecDepth 4000 in
set_option maxHeartbeats 1000000 in
theorem l30Copy_spec1 (A : Option Addr) (n c : Nat) (l : List Ent) (w : World) (h : EntsAt w A n l) (hs : entsSz l ≤ 1048577) :
    Calls Try.prog 48 #[.slice A n c] w (EntsR l w) := by
  have HL := Lib.hid h.1.symm
  have hn := ents_n h hs
  have hel := ents_el hs
  go_enter Try.func48, Try.ntmps48
  go_wp2
  go_loopw [3, 4] (fun o i wr => ∃ (k : Nat) (O : Option Addr) (cap : Nat) (css : List (List Value)), k ≤ n ∧ i = .int .i64 k ∧ o = .slice O k cap ∧ RowsIn FEnt 33 2 w.heap.size wr.heap.size wr O k cap (l.take k) css ∧ Below w.heap.size w wr) (fun _ i _ => n - (intOf i).toNat)
  case atStart => exact ⟨0, some ⟨w.heap.size, 0, none⟩, 0, [], Nat.zero_le _, rfl, rfl, ⟨RowIn.of_own (own_empty w _ _ (Nat.le_refl _)), SubsIn.nil, (fun _ h => by cases h), rfl⟩, (Below.refl _ _).alloc (Nat.le_refl _) _⟩
  case round =>
    obtain ⟨k, O, cap, css, hk, rfl, rfl, hrow, hb⟩ := hrel
    by_cases hlt : k < n
    · obtain ⟨b, off, rfl, hbl, hc⟩ := h.at_ (by omega)
      obtain ⟨hp0, A', n', c', hc0, hat, hcap⟩ := hc k hlt
      have hpk := (hb.cell (p := ⟨b, off + k * 2, none⟩) hbl).trans hp0
      have hck := (hb.cell (p := ⟨b, off + k * 2 + 1, none⟩) hbl).trans hc0
      clear hc hc0 hp0
      have hek := hel k
      unfold entSz at hek
      have HN := Lib.hid hat.nn
      have hn4 : n' ≤ 1048577 := by have := HN.out; unfold strsSz at hek; omega
      have hzw := hb.size
      have hlo : ∀ b, BlkOf O b → b < wr.heap.size := fun b hb' => (hrow.row.blk hb').2
      go_wp2
      go_region_held3 (fun w' => w'.cell? ⟨b, off + k * 2, none⟩ = some (.string (enAt l k).p) ∧ w'.cell? ⟨b, off + k * 2 + 1, none⟩ = some (.slice A' n' c') ∧ Below w.heap.size w w') (first | exact hnew | (have hh := ‹_ ∧ _›; exact ⟨keep_cell hbw hh.1, keep_cell hbw hh.2.1, bthen hh.2.2 hbw⟩) | (have hh := ‹_ ∧ _›; exact ⟨keep_alloc hh.1 _, keep_alloc hh.2.1 _, hh.2.2.alloc hh.2.2.size _⟩) | exact ⟨hpk, hck, hb.drew⟩ | (have hh := ‹_ ∧ _›; exact hh)) (first | (have hS0 := ‹_ ∧ _›; refine step_app (by rfl) (.tmp 18) (.tmp 23) 31 (by rfl) wr.heap.size 9 _ 1 16 Try.underlying31 infoString rfl (by omega) (.slice (some ⟨wr.heap.size, 0, none⟩) 0 0) 0 [] (by rfl) (own_empty' wr _ _ (Nat.le_refl _)) A' n' c' ((enAt l k).ch.map Value.string) (by rfl) (hat.keep hS0.2.2).cells (strs_one _) hcap (by unfold maxLen; omega) (by omega) (by simp) ?_; intro B d w2 hown2 hg2 hb2 hob2; simp only [Nat.zero_add, List.nil_append] at hown2 hob2 ⊢; have hbw : Below wr.heap.size wr w2 := (((Below.refl _ _).drew).alloc (Nat.le_refl _) _).trans hb2; have hrow2 := hrow.keep elemEnt hbw; have hz2 := hbw.size; have hnew := (⟨keep_cell hbw hpk, keep_cell hbw hck, bthen hb hbw⟩ : _ ∧ _ ∧ _); clear hS0) | (have hS0 := ‹_ ∧ _›; refine step_app (by rfl) (.tmp 12) (.tmp 26) 24 (by rfl) w.heap.size 33 _ 2 40 Try.underlying24 infoEntry rfl (by omega) (.slice O k cap) k css.flatten (by rfl) (hrow2.keep elemEnt ((Below.refl _ _).alloc (Nat.le_refl _) _)).row.own (some ⟨w2.heap.size, 0, none⟩) 1 1 [.string (enAt l k).p, .slice B n' d] (by rfl) (new2 w2 _ _ _) (by simp [Value.oneCell']) (fun h => by cases h) (by unfold maxLen; omega) (by omega) hS0.2.2.size ?_; intro Q5 c5 w5 hown5 hg5 hb5 hob5; clear hnew; have hbz : Below w.heap.size w w5 := hS0.2.2.trans hb5; have hnew := (⟨(hbz.cell (p := ⟨b, off + k * 2, none⟩) hbl).trans ((hb.cell (p := ⟨b, off + k * 2, none⟩) hbl).symm.trans hpk), (hbz.cell (p := ⟨b, off + k * 2 + 1, none⟩) hbl).trans ((hb.cell (p := ⟨b, off + k * 2 + 1, none⟩) hbl).symm.trans hck), hbz⟩ : _ ∧ _ ∧ _); clear hS0) | fail)
      go_wp2
      have ho2 : StrsIn wr.heap.size w2.heap.size w2 B n' d (enAt l k).ch := ⟨RowIn.of_own hown2⟩
      have al3 := (Below.refl w2.heap.size w2).alloc (Nat.le_refl _) (.cells #[.string (enAt l k).p, .slice B n' d] 33)
      have hz3 := al3.size
      have hkl : k < l.length := by have := HL.out; omega
      have hr3 := (hrow2.keep elemEnt al3).wide elemEnt (Nat.le_refl _) (show wr.heap.size ≤ (w2.alloc (.cells #[.string (enAt l k).p, .slice B n' d] 33)).heap.size by omega)
      have happ := hr3.app elemEnt (cs := [.string (enAt l k).p, .slice B n' d]) (x := enAt l k) ⟨B, n', d, rfl, (ho2.keep al3).wide hzw hz3⟩ (fun cs' h' b h1 h2 => by
        have q1 := (hrow2.subs.leads elemEnt h' h1).1
        have q2 := (ho2.row.blk (blk_of (leads2 h2))).1
        unfold Iv at q1 q2; omega) (fun b h1 h2 => by
        have q1 := hlo b h2
        have q2 := (ho2.row.blk (blk_of (leads2 h1))).1
        unfold Iv at q2; omega) hown5 hg5 hob5 (Nat.le_refl _)
      rw [show l.take k ++ [enAt l k] = l.take (k + 1) by rw [take_snoc2 l k hkl, enAt_get hkl]] at happ
      exact ⟨⟨k + 1, Q5, c5, _, by omega, by go_num, rfl, happ, hnew.2.2⟩, by simp [intOf]; omega⟩
    · go_wp2
      go_returns
      have hkn : k = n := by omega
      subst hkn
      have ht : l.take k = l := List.take_of_length_le (by have := HL.out; omega)
      rw [ht] at hrow
      exact ⟨O, k, cap, rfl, ⟨css, hrow⟩, hb⟩
theorem l30Copy_spec (A : Option Addr) (n c : Nat) (l : List Ent) (w : World) (h : EntsAt w A n l) (hs : entsSz l ≤ 1048576) :
    Calls Try.prog 48 #[.slice A n c] w (EntsR l w) := l30Copy_spec1 A n c l w h (by omega)
end Go.Proofs.Ytbijkdpifnncmaa
