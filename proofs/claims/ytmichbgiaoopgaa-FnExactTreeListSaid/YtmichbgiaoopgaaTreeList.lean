/- Contracts of TreeList, both sides. -/
import Derived.Test.YtmichbgiaoopgaaTreeDrop
import Derived.Test.YtmichbgiaoopgaaPut
namespace Go.Proofs.Ytmichbgiaoopgaa
open Go.RowKit
attribute [local irreducible] StrsAt treeOkB underB beginsB splitS

/-- where the name in a directory begins -/
def offOf (q : ByteArray) : Nat := if q.size = 0 then 0 else q.size + 1
def selB (q x : ByteArray) : Bool := if q.size = 0 then true else underB x q
def nameOf (q x : ByteArray) : ByteArray := if 1 < (splitS (x.extract (offOf q) x.size) 47).length then sAt (splitS (x.extract (offOf q) x.size) 47) 0 ++ ⟨#[47]⟩ else sAt (splitS (x.extract (offOf q) x.size) 47) 0
def nms (l : List Ent) (q : ByteArray) : List ByteArray := (l.filter (fun e => selB q e.p)).map (fun e => nameOf q e.p)
def treeList (l : List Ent) (q : ByteArray) : List ByteArray := if treeOkB l = true then txs (putsB ((nms l q).map toL)) else []
theorem nms_len (l : List Ent) (q : ByteArray) : (nms l q).length ≤ l.length := by unfold nms; rw [List.length_map]; exact List.length_filter_le _ _
theorem nms_take {l : List Ent} {q : ByteArray} {k : Nat} (hk : k < l.length) : nms (l.take (k + 1)) q = nms (l.take k) q ++ (if selB q (enAt l k).p = true then [nameOf q (enAt l k).p] else []) := by
  unfold nms
  rw [filter_take hk, List.map_append]
  by_cases h : selB q (enAt l k).p = true <;> simp [h]
theorem name_eq (q x : ByteArray) : nameOf q x = if 1 < (splitS (x.extract (offOf q) x.size) 47).length then sAt (splitS (x.extract (offOf q) x.size) 47) 0 ++ ⟨#[47]⟩ else sAt (splitS (x.extract (offOf q) x.size) 47) 0 := rfl
theorem ext_size (x : ByteArray) (i : Nat) : (x.extract i x.size).size ≤ x.size := by rw [ByteArray.size_extract]; omega
theorem ext_all (x : ByteArray) : x.extract 0 x.size = x := by
  apply ba_ext
  rw [ext_list, List.take_of_length_le (by rw [Array.length_toList]; exact Nat.le_refl _)]
section
attribute [local semireducible] underB beginsB treeOkB
theorem under_size {x q : ByteArray} (h : underB x q = true) : q.size + 1 ≤ x.size := by
  unfold underB at h; simp only [Bool.and_eq_true, decide_eq_true_eq] at h; omega
theorem begins_empty {x q : ByteArray} (h : q.size = 0) : beginsB x q = true := by
  unfold beginsB
  simp only [Bool.and_eq_true, decide_eq_true_eq]
  refine ⟨by omega, ?_⟩
  apply ba_ext
  rw [ext_list, h]
  have : q.data.toList.length = 0 := by rw [Array.length_toList]; exact h
  simp [List.length_eq_zero_iff.1 this]
theorem treeOk_len {l : List Ent} (h : treeOkB l = true) : l.length ≤ 12 := by
  unfold treeOkB at h; simp only [Bool.and_eq_true, decide_eq_true_eq] at h; exact h.1
end
theorem sel_size {q x : ByteArray} (h : selB q x = true) : offOf q ≤ x.size := by
  unfold selB at h; unfold offOf
  split at h
  · rename_i h0; rw [if_pos h0]; omega
  · rename_i h0; rw [if_neg h0]; exact under_size h
theorem name_size (q x : ByteArray) : (nameOf q x).size ≤ x.size + 1 := by
  have h1 := sAt_splitS_size (x.extract (offOf q) x.size) 47 0
  have h2 := ext_size x (offOf q)
  unfold nameOf; split
  · rw [ByteArray.size_append]; have : (⟨#[47]⟩ : ByteArray).size = 1 := rfl; omega
  · omega
theorem strsSz_le {l : List ByteArray} {m : Nat} (h : ∀ x ∈ l, x.size ≤ m) : strsSz l ≤ l.length * (m + 1) := by
  induction l with
  | nil => simp [strsSz]
  | cons x l ih =>
    rw [strsSz_cons, List.length_cons, Nat.add_mul]
    have := ih (fun y hy => h y (List.mem_cons_of_mem _ hy))
    have := h x (List.mem_cons_self ..)
    omega
theorem treeList_sz (l : List Ent) (q : ByteArray) (hs : entsSz l ≤ 1048576) : strsSz (treeList l q) ≤ 16777216 := by
  unfold treeList
  split
  · rename_i hok
    have hl := treeOk_len hok
    have hx : ∀ x ∈ txs (putsB ((nms l q).map toL)), x.size ≤ 1048577 := by
      intro x hx
      obtain ⟨y, hy, rfl⟩ := List.mem_map.1 hx
      obtain ⟨z, hz, rfl⟩ := List.mem_map.1 (putsB_mem.1 hy)
      rw [ofL_toL]
      obtain ⟨e, he, rfl⟩ := List.mem_map.1 hz
      have hm := (List.mem_filter.1 he).1
      obtain ⟨i, hi, hie⟩ := List.mem_iff_getElem.1 hm
      have h1 := ents_el hs i
      rw [enAt_get hi, hie] at h1
      have h2 := name_size q e.p
      unfold entSz at h1
      omega
    have h1 := strsSz_le hx
    have h2 : (txs (putsB ((nms l q).map toL))).length ≤ 12 := by
      rw [txs_len]
      have a1 := putsB_len ((nms l q).map toL)
      have a2 := nms_len l q
      rw [List.length_map] at a1
      omega
    have h3 : (txs (putsB ((nms l q).map toL))).length * (1048577 + 1) ≤ 12 * (1048577 + 1) := Nat.mul_le_mul_right _ h2
    omega
  · simp [strsSz]

set_option maxRecDepth 8000 in
set_option maxHeartbeats 2000000 in
theorem treeList_impl (A : Option Addr) (n c : Nat) (l : List Ent) (q : ByteArray) (w : World) (h : EntsAt w A n l) (hs : entsSz l ≤ 1048576) (hq : q.size ≤ 1048576) :
    Calls Try.prog 29 #[.slice A n c, .string q] w (StrsR (treeList l q) w) := by
  have HL := Lib.hid h.1
  have hn := ents_n h hs
  have hel := ents_el hs
  have NZ := Lib.hid (show nms (l.take 0) q = [] by simp [nms])
  obtain ⟨t, ht⟩ : ∃ t, treeOkB l = t := ⟨_, rfl⟩
  have HQ := Lib.hid ht
  cases t
  · have HR := Lib.hid (show treeList l q = [] by simp [treeList, ht])
    clear ht
    rw [HR.out]
    go_enter Try.func29, Try.ntmps29
    go_wp2_with fail
    refine (treeOk_impl _ _ _ l _ h hs).mono ?_
    rintro e w1 ⟨rfl, hb1⟩; rw [HQ.out]
    go_wp2
    go_returns
    exact ⟨none, 0, 0, rfl, StrsIn.nil, hb1⟩
  · have HR := Lib.hid (show treeList l q = txs (putsB ((nms l q).map toL)) by simp [treeList, ht])
    clear ht
    by_cases hq0 : q.size = 0
    · have g0 := str_nil (s := q) (by omega)
      have HDS := Lib.hid (show q.size ≤ 1048577 by omega)
      have HQ0 := Lib.hid hq0
      clear hq0
      go_enter Try.func29, Try.ntmps29
      go_wp2_with fail
      refine (treeOk_impl _ _ _ l _ h hs).mono ?_
      rintro e w1 ⟨rfl, hb1⟩; rw [HQ.out]
      have hz1 := hb1.size
      go_wp2
      go_loopw [6, 22] (fun o i wr => ∃ (k : Nat) (O : Option Addr) (cap : Nat), k ≤ n ∧ i = .int .i64 k ∧ o = .slice O (nms (l.take k) q).length cap ∧
        wr.ownsRow w.heap.size 9 1 (.slice O (nms (l.take k) q).length cap) (nms (l.take k) q).length ((nms (l.take k) q).map Value.string) ∧ Below w.heap.size w wr) (fun _ i _ => n - (intOf i).toNat)
      case atStart => exact ⟨0, _, 0, Nat.zero_le _, rfl, by rw [NZ.out]; rfl, by rw [NZ.out]; exact (own_str w1 hz1), hb1.alloc hz1 _⟩
      case round =>
        obtain ⟨k, O, cap, hk, rfl, rfl, hown, hb⟩ := hrel
        have hml := nms_len (l.take k) q
        rw [List.length_take] at hml
        have hz := hb.size
        by_cases hlt : k < n
        · have hkl : k < l.length := by have := HL.out; omega
          obtain ⟨b, off, rfl, hbb, hc⟩ := h.at_ (by omega)
          obtain ⟨hp0, A', n', c', hc0, _, _⟩ := hc k hlt
          have hpk := (hb.cell (p := ⟨b, off + k * 2, none⟩) hbb).trans hp0
          have hck := (hb.cell (p := ⟨b, off + k * 2 + 1, none⟩) hbb).trans hc0
          clear hc hc0 hp0
          have hek := hel k
          unfold entSz at hek
          have HN := Lib.hid (nms_take (q := q) hkl)
          have HSEL := Lib.hid (show beginsB (enAt l k).p q = selB q (enAt l k).p by rw [begins_empty HQ0.out]; simp [selB, HQ0.out])
          generalize (enAt l k).p = x at *
          have hxs : x.size ≤ 1048576 := by omega
          clear hek
          obtain ⟨sl, hsl⟩ : ∃ s, selB q x = s := ⟨_, rfl⟩
          have HSL := Lib.hid hsl
          have HTO := Lib.hid (fun (h : selB q x = true) => show q.size ≤ x.size by rw [HQ0.out]; exact Nat.zero_le _)
          clear hsl
          have alE := (Below.refl wr.heap.size wr).alloc (Nat.le_refl _) (.cells #[.string x, .slice A' n' c'] 41)
          cases sl
          · go_wp2_with fail
            refine (begins_any x _ _ (by omega) (by have := HDS.out; omega)).mono ?_
            rintro e w2 ⟨rfl, rfl⟩
            rw [HSEL.out, HSL.out]
            go_wp2
            refine ⟨⟨k + 1, O, cap, by omega, by go_num, by rw [HN.out, HSL.out]; simp, ?_, bthen hb alE⟩, by simp [intOf]; omega⟩
            rw [HN.out, HSL.out]
            simpa using ((RowIn.of_own hown).keep alE).own
          · have hto := HTO.out HSL.out
            go_wp2_with fail
            refine (begins_any x _ _ (by omega) (by have := HDS.out; omega)).mono ?_
            rintro e w2 ⟨rfl, rfl⟩
            rw [HSEL.out, HSL.out]
            have hz2 := alE.size
            have hhs : (q.size) ≤ x.size := by omega
            go_wp2_with fail
            refine (split_impl (x.extract (q.size) x.size) 47 _ (by have := ext_size x (q.size); omega)).mono ?_
            rintro e w3 ⟨A3, n3, c3, rfl, hown3, hb3⟩
            have hb3r := bthen alE hb3
            have hl3 := splitS_len (x.extract (q.size) x.size) 47
            have hn3 : n3 = (splitS (x.extract (q.size) x.size) 47).length := by have := hown3.1; simpa using this.symm
            have HN3 := Lib.hid hn3
            have hn31 : 1 ≤ n3 := by omega
            have hn32 : n3 ≤ 1048577 := by have := ext_size x (q.size); omega
            obtain ⟨g3, rfl⟩ := (RowIn.of_own hown3).head (by omega)
            have hc3 := hown3.cellAt 0 (by omega)
            have hw0 := sAt_splitS_size (x.extract (q.size) x.size) 47 0
            have hx0 := ext_size x (q.size)
            rw [show ((splitS (x.extract (q.size) x.size) 47).map Value.string)[0]? = some (.string (sAt (splitS (x.extract (q.size) x.size) 47) 0)) by
              rw [List.getElem?_map, sAt_get (show 0 < (splitS (x.extract (q.size) x.size) 47).length by omega), List.getElem?_eq_getElem (show 0 < (splitS (x.extract (q.size) x.size) 47).length by omega)]; rfl] at hc3
            have hownr := ((RowIn.of_own hown).keep hb3r).own
            have hzr := Nat.le_trans hz hb3r.size
            have HNM := Lib.hid (name_eq q x)
            rw [show offOf q = q.size by simp [offOf, HQ0.out]] at HNM
            clear hl3 hn3 hown3
            generalize sAt (splitS (x.extract (q.size) x.size) 47) 0 = w0 at *
            by_cases h1 : 1 < n3
            · have HNX := Lib.hid (show nameOf q x = w0 ++ ⟨#[47]⟩ by rw [HNM.out, if_pos (by have := HN3.out; omega)])
              have hbs : w0.size + 1 ≤ 9223372036854775807 := by omega
              have h1z : (1 : Int) < (n3 : Int) := by omega
              have hmb : (nms (l.take k) q).length ≤ 1048576 := by omega
              go_wp2_with (at_builtin; refine wpList_app1 (P := Try.prog) w3 rfl (.tmp 45) (.tmp 47) 36 rfl w.heap.size 9 _ 1 16 Try.underlying36 infoString rfl (by omega) (.slice O _ cap) _ _ rfl hownr _ rfl rfl (by simp [Value.oneCell']) (by unfold maxLen; omega) (by omega) hzr ?_; intro O4 cap4 w4 hown4 hg4 hb4 _)
              refine ⟨⟨k + 1, O4, cap4, by omega, by go_num, by rw [HN.out, HSL.out]; simp, ?_, (bthen hb hb3r).trans hb4⟩, by simp [intOf]; omega⟩
              rw [HN.out, HSL.out]
              simpa [HNX.out] using hown4
            · have HNX := Lib.hid (show nameOf q x = w0 by rw [HNM.out, if_neg (by have := HN3.out; omega)])
              have h1z : ¬ (1 : Int) < (n3 : Int) := by omega
              have hmb : (nms (l.take k) q).length ≤ 1048576 := by omega
              go_wp2_with (at_builtin; refine wpList_app1 (P := Try.prog) w3 rfl (.tmp 45) (.tmp 47) 36 rfl w.heap.size 9 _ 1 16 Try.underlying36 infoString rfl (by omega) (.slice O _ cap) _ _ rfl hownr #[.string w0] rfl rfl (by simp [Value.oneCell']) (by unfold maxLen; omega) (by omega) hzr ?_; intro O4 cap4 w4 hown4 hg4 hb4 _)
              refine ⟨⟨k + 1, O4, cap4, by omega, by go_num, by rw [HN.out, HSL.out]; simp, ?_, (bthen hb hb3r).trans hb4⟩, by simp [intOf]; omega⟩
              rw [HN.out, HSL.out]
              simpa [HNX.out] using hown4
        · have ht : l.take k = l := List.take_of_length_le (by have := HL.out; omega)
          rw [ht] at hown hml ⊢
          have hin : StrsIn w.heap.size wr.heap.size wr O (nms l q).length cap (txs ((nms l q).map toL)) := by rw [txs_toL]; exact StrsIn.of_own hown
          have hle : (nms l q).length ≤ 16777216 := by have := nms_len l q; have := HL.out; omega
          go_wp2_with fail
          refine (sort_texts _ _ _ _ _ _ _ hin hle).mono ?_
          rintro e w2 ⟨rfl, hin2, hch2⟩
          go_wp2_with fail
          refine (compact_texts _ _ _ _ _ _ _ hin2 hle).mono ?_
          rintro e w3 ⟨n3, rfl, hin3, hch3⟩
          rw [compact_sort] at hin3
          have hcc := hch2.trans hch3
          go_wp2
          go_returns
          refine ⟨O, n3, cap, rfl, ?_, hb.trans (hcc.below (fun k hk => by unfold Iv at hk; omega) hz)⟩
          rw [HR.out]
          exact hin3.wide (Nat.le_refl _) hcc.size
    · have g0 := str_ne (s := q) (by omega)
      have hss := slash_size q
      have happ : ¬ 9223372036854775807 < q.size + 1 := by omega
      have HDS := Lib.hid (show (slash q).size ≤ 1048577 by omega)
      go_enter Try.func29, Try.ntmps29
      go_wp2_with fail
      refine (treeOk_impl _ _ _ l _ h hs).mono ?_
      rintro e w1 ⟨rfl, hb1⟩; rw [HQ.out]
      have hz1 := hb1.size
      go_wp2
      go_loopw [6, 22] (fun o i wr => ∃ (k : Nat) (O : Option Addr) (cap : Nat), k ≤ n ∧ i = .int .i64 k ∧ o = .slice O (nms (l.take k) q).length cap ∧
        wr.ownsRow w.heap.size 9 1 (.slice O (nms (l.take k) q).length cap) (nms (l.take k) q).length ((nms (l.take k) q).map Value.string) ∧ Below w.heap.size w wr) (fun _ i _ => n - (intOf i).toNat)
      case atStart => exact ⟨0, _, 0, Nat.zero_le _, rfl, by rw [NZ.out]; rfl, by rw [NZ.out]; exact (own_str w1 hz1), hb1.alloc hz1 _⟩
      case round =>
        obtain ⟨k, O, cap, hk, rfl, rfl, hown, hb⟩ := hrel
        have hml := nms_len (l.take k) q
        rw [List.length_take] at hml
        have hz := hb.size
        by_cases hlt : k < n
        · have hkl : k < l.length := by have := HL.out; omega
          obtain ⟨b, off, rfl, hbb, hc⟩ := h.at_ (by omega)
          obtain ⟨hp0, A', n', c', hc0, _, _⟩ := hc k hlt
          have hpk := (hb.cell (p := ⟨b, off + k * 2, none⟩) hbb).trans hp0
          have hck := (hb.cell (p := ⟨b, off + k * 2 + 1, none⟩) hbb).trans hc0
          clear hc hc0 hp0
          have hek := hel k
          unfold entSz at hek
          have HN := Lib.hid (nms_take (q := q) hkl)
          have HSEL := Lib.hid (show beginsB (enAt l k).p (slash q) = selB q (enAt l k).p by rw [begins_slash]; simp [selB, hq0])
          generalize (enAt l k).p = x at *
          have hxs : x.size ≤ 1048576 := by omega
          clear hek
          obtain ⟨sl, hsl⟩ : ∃ s, selB q x = s := ⟨_, rfl⟩
          have HSL := Lib.hid hsl
          have HTO := Lib.hid (fun (h : selB q x = true) => show q.size + 1 ≤ x.size by have := sel_size h; simp [offOf, hq0] at this; omega)
          clear hsl
          have alE := (Below.refl wr.heap.size wr).alloc (Nat.le_refl _) (.cells #[.string x, .slice A' n' c'] 41)
          cases sl
          · go_wp2_with fail
            refine (begins_any x (slash q) _ (by omega) (by have := HDS.out; omega)).mono ?_
            rintro e w2 ⟨rfl, rfl⟩
            rw [HSEL.out, HSL.out]
            go_wp2
            refine ⟨⟨k + 1, O, cap, by omega, by go_num, by rw [HN.out, HSL.out]; simp, ?_, bthen hb alE⟩, by simp [intOf]; omega⟩
            rw [HN.out, HSL.out]
            simpa using ((RowIn.of_own hown).keep alE).own
          · have hto := HTO.out HSL.out
            go_wp2_with fail
            refine (begins_any x (slash q) _ (by omega) (by have := HDS.out; omega)).mono ?_
            rintro e w2 ⟨rfl, rfl⟩
            rw [HSEL.out, HSL.out]
            have hz2 := alE.size
            have hhs : (q.size + 1) ≤ x.size := by omega
            go_wp2_with fail
            refine (split_impl (x.extract (q.size + 1) x.size) 47 _ (by have := ext_size x (q.size + 1); omega)).mono ?_
            rintro e w3 ⟨A3, n3, c3, rfl, hown3, hb3⟩
            have hb3r := bthen alE hb3
            have hl3 := splitS_len (x.extract (q.size + 1) x.size) 47
            have hn3 : n3 = (splitS (x.extract (q.size + 1) x.size) 47).length := by have := hown3.1; simpa using this.symm
            have HN3 := Lib.hid hn3
            have hn31 : 1 ≤ n3 := by omega
            have hn32 : n3 ≤ 1048577 := by have := ext_size x (q.size + 1); omega
            obtain ⟨g3, rfl⟩ := (RowIn.of_own hown3).head (by omega)
            have hc3 := hown3.cellAt 0 (by omega)
            have hw0 := sAt_splitS_size (x.extract (q.size + 1) x.size) 47 0
            have hx0 := ext_size x (q.size + 1)
            rw [show ((splitS (x.extract (q.size + 1) x.size) 47).map Value.string)[0]? = some (.string (sAt (splitS (x.extract (q.size + 1) x.size) 47) 0)) by
              rw [List.getElem?_map, sAt_get (show 0 < (splitS (x.extract (q.size + 1) x.size) 47).length by omega), List.getElem?_eq_getElem (show 0 < (splitS (x.extract (q.size + 1) x.size) 47).length by omega)]; rfl] at hc3
            have hownr := ((RowIn.of_own hown).keep hb3r).own
            have hzr := Nat.le_trans hz hb3r.size
            have HNM := Lib.hid (name_eq q x)
            rw [show offOf q = q.size + 1 by simp [offOf, hq0]] at HNM
            clear hl3 hn3 hown3
            generalize sAt (splitS (x.extract (q.size + 1) x.size) 47) 0 = w0 at *
            by_cases h1 : 1 < n3
            · have HNX := Lib.hid (show nameOf q x = w0 ++ ⟨#[47]⟩ by rw [HNM.out, if_pos (by have := HN3.out; omega)])
              have hbs : w0.size + 1 ≤ 9223372036854775807 := by omega
              have h1z : (1 : Int) < (n3 : Int) := by omega
              have hmb : (nms (l.take k) q).length ≤ 1048576 := by omega
              go_wp2_with (at_builtin; refine wpList_app1 (P := Try.prog) w3 rfl (.tmp 45) (.tmp 47) 36 rfl w.heap.size 9 _ 1 16 Try.underlying36 infoString rfl (by omega) (.slice O _ cap) _ _ rfl hownr _ rfl rfl (by simp [Value.oneCell']) (by unfold maxLen; omega) (by omega) hzr ?_; intro O4 cap4 w4 hown4 hg4 hb4 _)
              refine ⟨⟨k + 1, O4, cap4, by omega, by go_num, by rw [HN.out, HSL.out]; simp, ?_, (bthen hb hb3r).trans hb4⟩, by simp [intOf]; omega⟩
              rw [HN.out, HSL.out]
              simpa [HNX.out] using hown4
            · have HNX := Lib.hid (show nameOf q x = w0 by rw [HNM.out, if_neg (by have := HN3.out; omega)])
              have h1z : ¬ (1 : Int) < (n3 : Int) := by omega
              have hmb : (nms (l.take k) q).length ≤ 1048576 := by omega
              go_wp2_with (at_builtin; refine wpList_app1 (P := Try.prog) w3 rfl (.tmp 45) (.tmp 47) 36 rfl w.heap.size 9 _ 1 16 Try.underlying36 infoString rfl (by omega) (.slice O _ cap) _ _ rfl hownr #[.string w0] rfl rfl (by simp [Value.oneCell']) (by unfold maxLen; omega) (by omega) hzr ?_; intro O4 cap4 w4 hown4 hg4 hb4 _)
              refine ⟨⟨k + 1, O4, cap4, by omega, by go_num, by rw [HN.out, HSL.out]; simp, ?_, (bthen hb hb3r).trans hb4⟩, by simp [intOf]; omega⟩
              rw [HN.out, HSL.out]
              simpa [HNX.out] using hown4
        · have ht : l.take k = l := List.take_of_length_le (by have := HL.out; omega)
          rw [ht] at hown hml ⊢
          have hin : StrsIn w.heap.size wr.heap.size wr O (nms l q).length cap (txs ((nms l q).map toL)) := by rw [txs_toL]; exact StrsIn.of_own hown
          have hle : (nms l q).length ≤ 16777216 := by have := nms_len l q; have := HL.out; omega
          go_wp2_with fail
          refine (sort_texts _ _ _ _ _ _ _ hin hle).mono ?_
          rintro e w2 ⟨rfl, hin2, hch2⟩
          go_wp2_with fail
          refine (compact_texts _ _ _ _ _ _ _ hin2 hle).mono ?_
          rintro e w3 ⟨n3, rfl, hin3, hch3⟩
          rw [compact_sort] at hin3
          have hcc := hch2.trans hch3
          go_wp2
          go_returns
          refine ⟨O, n3, cap, rfl, ?_, hb.trans (hcc.below (fun k hk => by unfold Iv at hk; omega) hz)⟩
          rw [HR.out]
          exact hin3.wide (Nat.le_refl _) hcc.size
end Go.Proofs.Ytmichbgiaoopgaa
