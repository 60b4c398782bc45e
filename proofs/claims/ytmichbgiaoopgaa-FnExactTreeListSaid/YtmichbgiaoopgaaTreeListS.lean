/- Contract of the reference's TreeList. -/
import Derived.Test.YtmichbgiaoopgaaTreeList
namespace Go.Proofs.Ytmichbgiaoopgaa
open Go.RowKit
attribute [local irreducible] StrsAt treeOkB underB beginsB splitS

theorem l15Put_name (A : Option Addr) (n c : Nat) (bs : List By) (nm : ByteArray) (w : World) (h : StrsAt w A n (txs bs)) (hn : n ≤ 16777215) :
    Calls Try.prog 82 #[.slice A n c, .string nm] w (StrsR (txs (putB bs (toL nm))) w) := by
  have := l15Put_any A n c bs (toL nm) w h hn
  rwa [ofL_toL] at this

set_option maxRecDepth 8000 in
set_option maxHeartbeats 2000000 in
theorem treeList_spec (A : Option Addr) (n c : Nat) (l : List Ent) (q : ByteArray) (w : World) (h : EntsAt w A n l) (hs : entsSz l ≤ 1048576) (hq : q.size ≤ 1048576) :
    Calls Try.prog 28 #[.slice A n c, .string q] w (StrsR (treeList l q) w) := by
  have HL := Lib.hid h.1
  have hn := ents_n h hs
  have hel := ents_el hs
  have NZ := Lib.hid (show nms (l.take 0) q = [] by simp [nms])
  have al0 := (Below.refl w.heap.size w).alloc (Nat.le_refl _) (.cells #[] 9)
  have hout0 : StrsIn w.heap.size (w.alloc (.cells #[] 9)).heap.size (w.alloc (.cells #[] 9)) (some ⟨w.heap.size, 0, none⟩) 0 0 (txs []) := StrsIn.of_own (own_str w (Nat.le_refl _))
  obtain ⟨t, ht⟩ : ∃ t, treeOkB l = t := ⟨_, rfl⟩
  have HQ := Lib.hid ht
  cases t
  · have HR := Lib.hid (show treeList l q = txs [] by simp [treeList, ht, txs])
    clear ht
    rw [HR.out]
    go_enter Try.func28, Try.ntmps28
    go_wp2
    go_loopw [5, 6] (fun o i wr => ∃ (m : Nat) (O : Option Addr) (cap : Nat), m = 0 ∧ i = .int .i64 0 ∧ o = .slice O m cap ∧ StrsIn w.heap.size wr.heap.size wr O m cap (txs []) ∧ Below w.heap.size w wr) (fun _ i _ => n - (intOf i).toNat)
    case atStart => exact ⟨0, _, 0, rfl, rfl, rfl, hout0, al0⟩
    case round =>
      obtain ⟨m, O, cap, rfl, rfl, rfl, hin, hb⟩ := hrel
      by_cases h0 : 0 < n
      · go_wp2_with fail
        refine (treeOk_spec _ _ _ l _ (h.keep hb) hs).mono ?_
        rintro e w1 ⟨rfl, hb1⟩; rw [HQ.out]
        go_wp2
        go_returns
        exact ⟨O, 0, cap, rfl, (hin.keep hb1).wide (Nat.le_refl _) hb1.size, bthen hb hb1⟩
      · go_wp2
        go_returns
        exact ⟨O, 0, cap, rfl, hin, hb⟩
  · have HR := Lib.hid (show treeList l q = txs (putsB ((nms l q).map toL)) by simp [treeList, ht])
    clear ht
    go_enter Try.func28, Try.ntmps28
    go_wp2
    go_loopw [5, 6] (fun o i wr => ∃ (k m : Nat) (O : Option Addr) (cap : Nat), k ≤ n ∧ i = .int .i64 k ∧ o = .slice O m cap ∧ StrsIn w.heap.size wr.heap.size wr O m cap (txs (putsB ((nms (l.take k) q).map toL))) ∧ Below w.heap.size w wr) (fun _ i _ => n - (intOf i).toNat)
    case atStart => exact ⟨0, 0, _, 0, Nat.zero_le _, rfl, rfl, by rw [NZ.out]; exact hout0, al0⟩
    case round =>
      obtain ⟨k, m, O, cap, hk, rfl, rfl, hin, hb⟩ := hrel
      by_cases hlt : k < n
      · have hkl : k < l.length := by have := HL.out; omega
        obtain ⟨b, off, rfl, hbb, hc⟩ := h.at_ (by omega)
        obtain ⟨hp0, A', n', c', hc0, _, _⟩ := hc k hlt
        clear hc
        have hek := hel k
        unfold entSz at hek
        have HN := Lib.hid (nms_take (q := q) hkl)
        go_wp2_with fail
        refine (treeOk_spec _ _ _ l _ (h.keep hb) hs).mono ?_
        rintro e w1 ⟨rfl, hb1⟩; rw [HQ.out]
        have hb1w := bthen hb hb1
        have hin1 := hin.keep hb1
        have hpk := (hb1w.cell (p := ⟨b, off + k * 2, none⟩) hbb).trans hp0
        clear hin hp0 hc0
        generalize (enAt l k).p = x at *
        have hxs : x.size ≤ 1048576 := by omega
        clear hek
        by_cases hq0 : q.size = 0
        · have g0 := str_nil (s := q) (by omega)
          have HQ0 := Lib.hid hq0
          have HSEL := Lib.hid (show selB q x = true by simp [selB, hq0])
          clear hq0
          have hl3 := splitS_len (x) 47
          go_wp2_with fail
          refine (l30Cut_spec (x) _ (by omega)).mono ?_
          rintro e w3 ⟨A3, n3, c3, rfl, hown3, hb3⟩
          have hn3 : n3 = (splitS (x) 47).length := by have := hown3.1; simpa using this.symm
          have HN3 := Lib.hid hn3
          have hn31 : 1 ≤ n3 := by omega
          have hn32 : n3 ≤ 1048577 := by have := hxs; omega
          obtain ⟨g3, rfl⟩ := (RowIn.of_own hown3).head (by omega)
          have hc3 := hown3.cellAt 0 (by omega)
          have hw0 := sAt_splitS_size (x) 47 0
          rw [show ((splitS (x) 47).map Value.string)[0]? = some (.string (sAt (splitS (x) 47) 0)) by
            rw [List.getElem?_map, sAt_get (show 0 < (splitS (x) 47).length by omega), List.getElem?_eq_getElem (show 0 < (splitS (x) 47).length by omega)]; rfl] at hc3
          have hin3 := hin1.keep hb3
          have hb3w := bthen hb1w hb3
          have HNM := Lib.hid (name_eq q x)
          rw [show offOf q = 0 by simp [offOf, HQ0.out], ext_all] at HNM
          have hw1 : (sAt (splitS (x) 47) 0).size ≤ 1048576 := by omega
          clear hl3 hn3 hown3 hw0
          generalize sAt (splitS (x) 47) 0 = w0 at *
          have hml := putsB_len ((nms (l.take k) q).map toL)
          have hml2 := nms_len (l.take k) q
          have hm3 : m ≤ 1048576 := by have := strsLen hin3.at_; rw [txs_len] at this; rw [List.length_map] at hml; rw [List.length_take] at hml2; omega
          clear hml hml2
          by_cases h1 : 1 < n3
          · have HNX := Lib.hid (show nameOf q x = w0 ++ ⟨#[47]⟩ by rw [HNM.out, if_pos (by have := HN3.out; omega)])
            have hbs : w0.size + 1 ≤ 9223372036854775807 := by omega
            have h1z : (1 : Int) < (n3 : Int) := by omega
            go_wp2_with fail
            refine (l15Put_name _ _ _ (putsB ((nms (l.take k) q).map toL)) _ _ hin3.at_ (by omega)).mono ?_
            rintro e w5 ⟨A5, n5, c5, rfl, hin5, hb5⟩
            have hz5 := hb3w.size
            go_wp2
            refine ⟨⟨k + 1, n5, A5, c5, by omega, by go_num, rfl, ?_, bthen hb3w hb5⟩, by simp [intOf]; omega⟩
            rw [HN.out, if_pos HSEL.out, List.map_append, List.map_singleton, putsB_snoc, HNX.out]
            exact hin5.wide hz5 (Nat.le_refl _)
          · have HNX := Lib.hid (show nameOf q x = w0 by rw [HNM.out, if_neg (by have := HN3.out; omega)])
            have h1z : ¬ (1 : Int) < (n3 : Int) := by omega
            go_wp2_with fail
            refine (l15Put_name _ _ _ (putsB ((nms (l.take k) q).map toL)) w0 _ hin3.at_ (by omega)).mono ?_
            rintro e w5 ⟨A5, n5, c5, rfl, hin5, hb5⟩
            have hz5 := hb3w.size
            go_wp2
            refine ⟨⟨k + 1, n5, A5, c5, by omega, by go_num, rfl, ?_, bthen hb3w hb5⟩, by simp [intOf]; omega⟩
            rw [HN.out, if_pos HSEL.out, List.map_append, List.map_singleton, putsB_snoc, HNX.out]
            exact hin5.wide hz5 (Nat.le_refl _)
        · have g0 := str_ne (s := q) (by omega)
          have happ : ¬ 9223372036854775807 < q.size + 1 := by omega
          obtain ⟨sl, hsl⟩ : ∃ s, underB x q = s := ⟨_, rfl⟩
          have HSL := Lib.hid hsl
          have HTO := Lib.hid (fun (h : underB x q = true) => under_size h)
          clear hsl
          cases sl
          · have HSEL := Lib.hid (show selB q x = false by simp [selB, hq0, HSL.out])
            go_wp2_with fail
            refine (l30Under_any _ _ _ (by omega) (by omega)).mono ?_
            rintro e w2 ⟨rfl, rfl⟩; rw [HSL.out]
            go_wp2
            refine ⟨⟨k + 1, m, O, cap, by omega, by go_num, rfl, ?_, hb1w⟩, by simp [intOf]; omega⟩
            rw [HN.out, HSEL.out]
            simpa using hin1.wide (Nat.le_refl _) hb1.size
          · have HSEL := Lib.hid (show selB q x = true by simp [selB, hq0, HSL.out])
            have hto := HTO.out HSL.out
            go_wp2_with fail
            refine (l30Under_any _ _ _ (by omega) (by omega)).mono ?_
            rintro e w2 ⟨rfl, rfl⟩; rw [HSL.out]
            have hl3 := splitS_len (x.extract (q.size + 1) x.size) 47
            go_wp2_with fail
            refine (l30Cut_spec (x.extract (q.size + 1) x.size) _ (by have := ext_size x (q.size + 1); omega)).mono ?_
            rintro e w3 ⟨A3, n3, c3, rfl, hown3, hb3⟩
            have hn3 : n3 = (splitS (x.extract (q.size + 1) x.size) 47).length := by have := hown3.1; simpa using this.symm
            have HN3 := Lib.hid hn3
            have hn31 : 1 ≤ n3 := by omega
            have hn32 : n3 ≤ 1048577 := by have := ext_size x (q.size + 1); omega
            obtain ⟨g3, rfl⟩ := (RowIn.of_own hown3).head (by omega)
            have hc3 := hown3.cellAt 0 (by omega)
            have hw0 := sAt_splitS_size (x.extract (q.size + 1) x.size) 47 0
            rw [show ((splitS (x.extract (q.size + 1) x.size) 47).map Value.string)[0]? = some (.string (sAt (splitS (x.extract (q.size + 1) x.size) 47) 0)) by
              rw [List.getElem?_map, sAt_get (show 0 < (splitS (x.extract (q.size + 1) x.size) 47).length by omega), List.getElem?_eq_getElem (show 0 < (splitS (x.extract (q.size + 1) x.size) 47).length by omega)]; rfl] at hc3
            have hin3 := hin1.keep hb3
            have hb3w := bthen hb1w hb3
            have HNM := Lib.hid (name_eq q x)
            rw [show offOf q = q.size + 1 by simp [offOf, hq0]] at HNM
            have hw1 : (sAt (splitS (x.extract (q.size + 1) x.size) 47) 0).size ≤ 1048576 := by have := ext_size x (q.size + 1); omega
            clear hl3 hn3 hown3 hw0
            generalize sAt (splitS (x.extract (q.size + 1) x.size) 47) 0 = w0 at *
            have hml := putsB_len ((nms (l.take k) q).map toL)
            have hml2 := nms_len (l.take k) q
            have hm3 : m ≤ 1048576 := by have := strsLen hin3.at_; rw [txs_len] at this; rw [List.length_map] at hml; rw [List.length_take] at hml2; omega
            clear hml hml2
            by_cases h1 : 1 < n3
            · have HNX := Lib.hid (show nameOf q x = w0 ++ ⟨#[47]⟩ by rw [HNM.out, if_pos (by have := HN3.out; omega)])
              have hbs : w0.size + 1 ≤ 9223372036854775807 := by omega
              have h1z : (1 : Int) < (n3 : Int) := by omega
              go_wp2_with fail
              refine (l15Put_name _ _ _ (putsB ((nms (l.take k) q).map toL)) _ _ hin3.at_ (by omega)).mono ?_
              rintro e w5 ⟨A5, n5, c5, rfl, hin5, hb5⟩
              have hz5 := hb3w.size
              go_wp2
              refine ⟨⟨k + 1, n5, A5, c5, by omega, by go_num, rfl, ?_, bthen hb3w hb5⟩, by simp [intOf]; omega⟩
              rw [HN.out, if_pos HSEL.out, List.map_append, List.map_singleton, putsB_snoc, HNX.out]
              exact hin5.wide hz5 (Nat.le_refl _)
            · have HNX := Lib.hid (show nameOf q x = w0 by rw [HNM.out, if_neg (by have := HN3.out; omega)])
              have h1z : ¬ (1 : Int) < (n3 : Int) := by omega
              go_wp2_with fail
              refine (l15Put_name _ _ _ (putsB ((nms (l.take k) q).map toL)) w0 _ hin3.at_ (by omega)).mono ?_
              rintro e w5 ⟨A5, n5, c5, rfl, hin5, hb5⟩
              have hz5 := hb3w.size
              go_wp2
              refine ⟨⟨k + 1, n5, A5, c5, by omega, by go_num, rfl, ?_, bthen hb3w hb5⟩, by simp [intOf]; omega⟩
              rw [HN.out, if_pos HSEL.out, List.map_append, List.map_singleton, putsB_snoc, HNX.out]
              exact hin5.wide hz5 (Nat.le_refl _)
      · have ht : l.take k = l := List.take_of_length_le (by have := HL.out; omega)
        rw [ht, ← HR.out] at hin
        go_wp2
        go_returns
        exact ⟨O, m, cap, rfl, hin, hb⟩
end Go.Proofs.Ytmichbgiaoopgaa
