/- Contracts and lemmas: TreeOk, TreeOkS, TreeDrop, StrOrd, TreePut. -/
import Derived.Test.YtbijkdpifnncmaaJ3
import Derived.Test.YtbijkdpifnncmaaJ1
import Derived.Deep.RegionWith
import Derived.Test.YtbijkdpifnncmaaJ0
import Derived.Lib.SlicesCompact
import Derived.Sort.Walk0
/- Contract of the program's TreeOk. -/
namespace Go.Proofs.Ytbijkdpifnncmaa
open Go.RowKit
attribute [local go_sem] Grow.cell Grow.frozen
attribute [local irreducible] pathOkB underB beginsB all8 StrsAt

theorem tree_fn (x ep : ByteArray) (v u : Value) (hv : ∃ A n c, v = .slice A n c) (B : Nat) (w : World) (hB : w.cell? ⟨B, 0, none⟩ = some (.string ep)) (hx : x.size ≤ 1048704) (he : ep.size ≤ 1048704) :
    Calls Try.prog 63 #[.agg #[.string x, v], .pointer (some ⟨B, 0, none⟩)] w fun r w' => r = .returned (.bool (underB x ep)) ∧ Below w.heap.size w w' := by
  obtain ⟨A, n, c, rfl⟩ := hv
  have hlt := cell_lt hB
  have hne : B ≠ w.heap.size := by omega
  have HS := Lib.hid (slash_size ep)
  have HB := Lib.hid (begins_slash x ep)
  have q1 : ¬ 9223372036854775807 < ep.size + 1 := by omega
  go_enter Try.func63, Try.ntmps63
  go_wp2_with fail
  refine (begins_any x (slash ep) _ (by omega) (by have := HS.out; omega)).mono ?_
  rintro r w' ⟨rfl, rfl⟩
  go_wp2
  go_returns
  exact ⟨by rw [HB.out]; rfl, by go_grown⟩

def underAny (l : List Ent) (p : ByteArray) (k : Nat) : Bool := (List.range k).any (fun i => underB (enAt l i).p p)
theorem underAny_yes {l : List Ent} {e : ByteArray} {k i : Nat} (hi : i < k) (h : underB (enAt l i).p e = true) : underAny l e k = true := by
  unfold underAny; rw [List.any_eq_true]; exact ⟨i, List.mem_range.2 hi, h⟩
theorem underAny_no {l : List Ent} {e : ByteArray} {k : Nat} (h : ∀ i, i < k → underB (enAt l i).p e = false) : underAny l e k = false := by
  unfold underAny; rw [List.any_eq_false]; intro i hi; rw [h i (List.mem_range.1 hi)]; simp
def IdxE (b : Bool) (w : World) (e : Ending) (w' : World) : Prop := ∃ i : Int, e = .returned (.int .i64 i) ∧ decide (0 ≤ i) = b ∧ Below w.heap.size w w'
theorem tree_idx (A : Option Addr) (n c : Nat) (l : List Ent) (ep : ByteArray) (B : Nat) (w : World) (h : EntsAt w A n l) (hs : entsSz l ≤ 1048704) (hB : w.cell? ⟨B, 0, none⟩ = some (.string ep)) (he : ep.size ≤ 1048704) :
    Calls Try.prog 71 #[.slice A n c, .func (.func 63) #[] #[.pointer (some ⟨B, 0, none⟩)]] w (IdxE (underAny l ep n) w) := by
  have hn := ents_n h hs
  have hel := ents_el hs
  go_enter Try.func71, Try.ntmps71
  go_wp2
  go_loopw [8] (fun i wr => ∃ k : Nat, k ≤ n ∧ i = .int .i64 k ∧ (∀ j, j < k → underB (enAt l j).p ep = false) ∧ Below w.heap.size w wr) (fun i _ => n - (intOf i).toNat)
  case atStart => exact ⟨0, Nat.zero_le _, rfl, fun j hj => absurd hj (by omega), Below.refl _ _⟩
  case round =>
    obtain ⟨k, hk, rfl, hx, hb⟩ := hrel
    have HX := Lib.hid hx; clear hx
    by_cases hlt : k < n
    · obtain ⟨b, off, rfl, hbl, hc⟩ := h.at_ (by omega)
      obtain ⟨hp0, A', n', c', hc0, hat, _⟩ := hc k hlt
      have hpk := (hb.cell (p := ⟨b, off + k * 2, none⟩) hbl).trans hp0
      have hck := (hb.cell (p := ⟨b, off + k * 2 + 1, none⟩) hbl).trans hc0
      clear hc hc0 hp0
      have hek := hel k
      unfold entSz at hek
      go_wp2_with fail
      refine (tree_fn (enAt l k).p ep _ (.bool true) ⟨A', n', c', rfl⟩ B _ (keep_cell hb hB) (by omega) he).mono ?_
      rintro r w1 ⟨rfl, hb1⟩
      obtain ⟨q, hq⟩ : ∃ q, underB (enAt l k).p ep = q := ⟨_, rfl⟩
      have HQ := Lib.hid hq
      rw [hq]
      clear hq
      cases q
      · go_wp2
        refine ⟨⟨k + 1, by omega, by go_num, ?_, bthen hb hb1⟩, by simp [intOf]; omega⟩
        intro j hj
        by_cases e1 : j = k
        · subst e1; exact HQ.out
        · exact HX.out j (by omega)
      · go_wp2
        go_returns
        exact ⟨k, rfl, by rw [underAny_yes hlt HQ.out]; simp, bthen hb hb1⟩
    · go_wp2
      go_returns
      obtain rfl : k = n := by omega
      exact ⟨-1, rfl, by rw [underAny_no HX.out]; rfl, hb⟩
theorem tree_contains (A : Option Addr) (n c : Nat) (l : List Ent) (ep : ByteArray) (B : Nat) (w : World) (h : EntsAt w A n l) (hs : entsSz l ≤ 1048704) (hB : w.cell? ⟨B, 0, none⟩ = some (.string ep)) (he : ep.size ≤ 1048704) :
    Calls Try.prog 62 #[.slice A n c, .func (.func 63) #[] #[.pointer (some ⟨B, 0, none⟩)]] w fun r w' => r = .returned (.bool (underAny l ep n)) ∧ Below w.heap.size w w' := by
  go_enter Try.func62, Try.ntmps62
  go_wp2_with fail
  refine (tree_idx A n c l ep B _ h hs hB he).mono ?_
  rintro r w' ⟨i, rfl, hi, hb⟩
  have HI := Lib.hid hi; clear hi
  go_wp2
  go_returns
  exact ⟨by rw [HI.out]; rfl, hb⟩

/-- is entry i right? -/
def entryAt (l : List Ent) (i : Nat) : Bool :=
  pathOkB (enAt l i).p && (decide (i = 0) || Op.bytesLess (enAt l (i - 1)).p.toList (enAt l i).p.toList) && decide ((enAt l i).ch.length ≤ 4) && all8 (enAt l i).ch && !underAny l (enAt l i).p l.length
def treeOkB (l : List Ent) : Bool := decide (l.length ≤ 12) && (List.range l.length).all (entryAt l)
theorem treeOkB_no {l : List Ent} {k : Nat} (hk : k < l.length) (h : entryAt l k = false) : treeOkB l = false := by
  unfold treeOkB; rw [all_no hk h, Bool.and_false]
theorem treeOkB_all {l : List Ent} (h : ∀ j, j < l.length → entryAt l j = true) : treeOkB l = decide (l.length ≤ 12) := by
  unfold treeOkB; rw [all_yes h, Bool.and_true]

theorem treeOk_impl2 (A : Option Addr) (n c : Nat) (l : List Ent) (w : World) (h : EntsAt w A n l) (hs : entsSz l ≤ 1048704) :
    Calls Try.prog 27 #[.slice A n c] w fun e w' => e = .returned (.bool (treeOkB l)) ∧ Below w.heap.size w w' := by
  have HL := Lib.hid h.1.symm
  have hn := ents_n h hs
  have hel := ents_el hs
  go_enter Try.func27, Try.ntmps27
  go_wp2
  go_loopw [7] (fun i wr => ∃ k : Nat, k ≤ n ∧ i = .int .i64 k ∧ (∀ j, j < k → entryAt l j = true) ∧ Below w.heap.size w wr) (fun i _ => n - (intOf i).toNat)
  case atStart => exact ⟨0, Nat.zero_le _, rfl, fun j hj => absurd hj (by omega), Below.refl _ _⟩
  case round =>
    obtain ⟨k, hk, rfl, hall, hb⟩ := hrel
    have HA := Lib.hid hall; clear hall
    by_cases hlt : k < n
    · obtain ⟨b, off, rfl, hbl, hc⟩ := h.at_ (by omega)
      obtain ⟨hp0, A', n', c', hc0, hat, _⟩ := hc k hlt
      have hpk := (hb.cell (p := ⟨b, off + k * 2, none⟩) hbl).trans hp0
      have hck := (hb.cell (p := ⟨b, off + k * 2 + 1, none⟩) hbl).trans hc0
      have hcp : 0 < k → w.cell? ⟨b, off + (k - 1) * 2, none⟩ = some (.string (enAt l (k - 1)).p) := fun _ => (hc (k - 1) (by omega)).1
      clear hc hc0 hp0
      have hek := hel k
      unfold entSz at hek
      have hbr : b < wr.heap.size := Nat.lt_of_lt_of_le hbl hb.size
      have hbr1 : b < wr.heap.size + 1 := by omega
      have hbn := hat.nn
      have al := (Below.refl wr.heap.size wr).alloc (Nat.le_refl _) (.cells #[.string (enAt l k).p, .slice A' n' c'] 33)
      have hatl := hat.keep (bthen hb al)
      have hBl := bthen hb al
      obtain ⟨q1, hq1⟩ : ∃ q, pathOkB (enAt l k).p = q := ⟨_, rfl⟩
      have Q1 := Lib.hid hq1
      have HN := Lib.hid hbn
      have hn4 : n' ≤ 1048704 := by have := HN.out; unfold strsSz at hek; omega
      clear hbn
      cases q1
      · have HE := Lib.hid (show entryAt l k = false by unfold entryAt; rw [hq1]; simp)
        clear hq1 hcp
        go_wp2
        refine wp_region_grow (by kernel_rfl) (by kernel_rfl) ?_
        repeat (go_big_quiet_step ((go_at_call 23; exact grow_of (known Q1.out (pathOk_impl _ _ (by omega))))))
        refine wpQuiet_nil ?_
        intro _ hw'
        obtain ⟨⟨w1, hb1⟩, hw''⟩ := hw'
        change _ = w1 at hw''
        subst hw''
        go_wp2
        go_returns
        exact ⟨ret_bool (treeOkB_no (k := k) (by have := HL.out; omega) HE.out).symm, bthen hBl hb1⟩
      · obtain ⟨q2, hq2⟩ : ∃ q, all8 (enAt l k).ch = q := ⟨_, rfl⟩
        have Q2 := Lib.hid hq2
        obtain ⟨q3, hq3⟩ : ∃ q, underAny l (enAt l k).p l.length = q := ⟨_, rfl⟩
        have Q3 := Lib.hid (show underAny l (enAt l k).p n = q3 by rw [← HL.out]; exact hq3)
        have HEQ := Lib.hid (show entryAt l k = ((decide (k = 0) || Op.bytesLess (enAt l (k - 1)).p.toList (enAt l k).p.toList) && decide (n' ≤ 4) && q2 && !q3) by
          unfold entryAt; rw [hq1, hq2, hq3, HN.out]; simp)
        clear hq1 hq2 hq3
        by_cases hk0 : 0 < k
        · have hcpk := (hb.cell (p := ⟨b, off + (k - 1) * 2, none⟩) hbl).trans (hcp hk0)
          clear hcp
          obtain ⟨q, hq⟩ : ∃ q, Op.bytesLess (enAt l (k - 1)).p.toList (enAt l k).p.toList = q := ⟨_, rfl⟩
          cases q
          · have HE := Lib.hid (show entryAt l k = false by rw [HEQ.out, hq]; simp; omega)
            go_wp2
            refine wp_region_grow (by kernel_rfl) (by kernel_rfl) ?_
            repeat (go_big_quiet_step (first | (go_at_call 23; exact grow_of (known Q1.out (pathOk_impl _ _ (by omega)))) | (go_at_call 61; exact grow_same (known Q2.out (areChunks_any _ _ _ _ _ (hatl.keep (Grow.below _)) (by omega))))))
            refine wpQuiet_nil ?_
            intro _ hw'
            obtain ⟨⟨w1, hb1⟩, hw''⟩ := hw'
            change _ = w1 at hw''
            subst hw''
            go_wp2
            go_returns
            exact ⟨ret_bool (treeOkB_no (k := k) (by have := HL.out; omega) HE.out).symm, bthen hBl hb1⟩
          · have HO := Lib.hid hq
            by_cases h4 : n' ≤ 4
            · have g4 : decide ((4 : Int) < n') = false := by simp; omega
              cases q2
              · have HE := Lib.hid (show entryAt l k = false by rw [HEQ.out]; simp)
                go_wp2
                refine wp_region_grow (by kernel_rfl) (by kernel_rfl) ?_
                repeat (go_big_quiet_step (first | (go_at_call 23; exact grow_of (known Q1.out (pathOk_impl _ _ (by omega)))) | (go_at_call 61; exact grow_same (known Q2.out (areChunks_any _ _ _ _ _ (hatl.keep (Grow.below _)) (by omega))))))
                refine wpQuiet_nil ?_
                intro _ hw'
                obtain ⟨⟨w1, hb1⟩, hw''⟩ := hw'
                change _ = w1 at hw''
                subst hw''
                go_wp2
                go_returns
                exact ⟨ret_bool (treeOkB_no (k := k) (by have := HL.out; omega) HE.out).symm, bthen hBl hb1⟩
              · go_wp2
                refine wp_region_grow (by kernel_rfl) (by kernel_rfl) ?_
                repeat (go_big_quiet_step (first | (go_at_call 23; exact grow_of (known Q1.out (pathOk_impl _ _ (by omega)))) | (go_at_call 61; exact grow_same (known Q2.out (areChunks_any _ _ _ _ _ (hatl.keep (Grow.below _)) (by omega))))))
                refine wpQuiet_nil ?_
                intro _ hw'
                obtain ⟨⟨w1, hb1⟩, hw''⟩ := hw'
                change _ = w1 at hw''
                subst hw''
                have hbx := bthen al hb1
                go_wp2_with fail
                refine (tree_contains _ _ _ l (enAt l k).p _ _ (h.keep (bthen hb hbx)) hs ((Grow.mk' hb1).cell_of (by simp) (by simp [go_sem])) (by omega)).mono ?_
                rintro r w2 ⟨rfl, hb2⟩
                rw [Q3.out]
                have HE := Lib.hid (show entryAt l k = !q3 by rw [HEQ.out]; simp [h4, HO.out])
                cases q3
                · go_wp2
                  exact ⟨⟨k + 1, by omega, by go_num, upto_succ HA.out HE.out, bthen (bthen hb hbx) hb2⟩, by simp [intOf]; omega⟩
                · go_wp2
                  go_returns
                  exact ⟨ret_bool (treeOkB_no (k := k) (by have := HL.out; omega) HE.out).symm, bthen (bthen hb hbx) hb2⟩
            · have g4 : decide ((4 : Int) < n') = true := by simp; omega
              have HE := Lib.hid (show entryAt l k = false by rw [HEQ.out]; simp [h4])
              go_wp2
              refine wp_region_grow (by kernel_rfl) (by kernel_rfl) ?_
              repeat (go_big_quiet_step (first | (go_at_call 23; exact grow_of (known Q1.out (pathOk_impl _ _ (by omega)))) | (go_at_call 61; exact grow_same (known Q2.out (areChunks_any _ _ _ _ _ (hatl.keep (Grow.below _)) (by omega))))))
              refine wpQuiet_nil ?_
              intro _ hw'
              obtain ⟨⟨w1, hb1⟩, hw''⟩ := hw'
              change _ = w1 at hw''
              subst hw''
              go_wp2
              go_returns
              exact ⟨ret_bool (treeOkB_no (k := k) (by have := HL.out; omega) HE.out).symm, bthen hBl hb1⟩
        · clear hcp
          have gk : decide (0 < k) = false := by simpa using hk0
          have h0 : k = 0 := by omega
          have HO := Lib.hid h0; clear h0
          by_cases h4 : n' ≤ 4
          · have g4 : decide ((4 : Int) < n') = false := by simp; omega
            cases q2
            · have HE := Lib.hid (show entryAt l k = false by rw [HEQ.out]; simp)
              go_wp2
              refine wp_region_grow (by kernel_rfl) (by kernel_rfl) ?_
              repeat (go_big_quiet_step (first | (go_at_call 23; exact grow_of (known Q1.out (pathOk_impl _ _ (by omega)))) | (go_at_call 61; exact grow_same (known Q2.out (areChunks_any _ _ _ _ _ (hatl.keep (Grow.below _)) (by omega))))))
              refine wpQuiet_nil ?_
              intro _ hw'
              obtain ⟨⟨w1, hb1⟩, hw''⟩ := hw'
              change _ = w1 at hw''
              subst hw''
              go_wp2
              go_returns
              exact ⟨ret_bool (treeOkB_no (k := k) (by have := HL.out; omega) HE.out).symm, bthen hBl hb1⟩
            · go_wp2
              refine wp_region_grow (by kernel_rfl) (by kernel_rfl) ?_
              repeat (go_big_quiet_step (first | (go_at_call 23; exact grow_of (known Q1.out (pathOk_impl _ _ (by omega)))) | (go_at_call 61; exact grow_same (known Q2.out (areChunks_any _ _ _ _ _ (hatl.keep (Grow.below _)) (by omega))))))
              refine wpQuiet_nil ?_
              intro _ hw'
              obtain ⟨⟨w1, hb1⟩, hw''⟩ := hw'
              change _ = w1 at hw''
              subst hw''
              have hbx := bthen al hb1
              go_wp2_with fail
              refine (tree_contains _ _ _ l (enAt l k).p _ _ (h.keep (bthen hb hbx)) hs ((Grow.mk' hb1).cell_of (by simp) (by simp [go_sem])) (by omega)).mono ?_
              rintro r w2 ⟨rfl, hb2⟩
              rw [Q3.out]
              have HE := Lib.hid (show entryAt l k = !q3 by rw [HEQ.out]; simp [h4, HO.out])
              cases q3
              · go_wp2
                exact ⟨⟨k + 1, by omega, by go_num, upto_succ HA.out HE.out, bthen (bthen hb hbx) hb2⟩, by simp [intOf]; omega⟩
              · go_wp2
                go_returns
                exact ⟨ret_bool (treeOkB_no (k := k) (by have := HL.out; omega) HE.out).symm, bthen (bthen hb hbx) hb2⟩
          · have g4 : decide ((4 : Int) < n') = true := by simp; omega
            have HE := Lib.hid (show entryAt l k = false by rw [HEQ.out]; simp [h4])
            go_wp2
            refine wp_region_grow (by kernel_rfl) (by kernel_rfl) ?_
            repeat (go_big_quiet_step (first | (go_at_call 23; exact grow_of (known Q1.out (pathOk_impl _ _ (by omega)))) | (go_at_call 61; exact grow_same (known Q2.out (areChunks_any _ _ _ _ _ (hatl.keep (Grow.below _)) (by omega))))))
            refine wpQuiet_nil ?_
            intro _ hw'
            obtain ⟨⟨w1, hb1⟩, hw''⟩ := hw'
            change _ = w1 at hw''
            subst hw''
            go_wp2
            go_returns
            exact ⟨ret_bool (treeOkB_no (k := k) (by have := HL.out; omega) HE.out).symm, bthen hBl hb1⟩
    · go_wp2
      go_returns
      exact ⟨ret_bool (by rw [treeOkB_all (fun j hj => HA.out j (by have := HL.out; omega)), HL.out]; rw [Bool.eq_iff_iff]; simp; omega), hb⟩
theorem treeOk_impl1 (A : Option Addr) (n c : Nat) (l : List Ent) (w : World) (h : EntsAt w A n l) (hs : entsSz l ≤ 1048577) :
    Calls Try.prog 27 #[.slice A n c] w fun e w' => e = .returned (.bool (treeOkB l)) ∧ Below w.heap.size w w' := treeOk_impl2 A n c l w h (by omega)
theorem treeOk_impl (A : Option Addr) (n c : Nat) (l : List Ent) (w : World) (h : EntsAt w A n l) (hs : entsSz l ≤ 1048576) :
    Calls Try.prog 27 #[.slice A n c] w fun e w' => e = .returned (.bool (treeOkB l)) ∧ Below w.heap.size w w' := treeOk_impl1 A n c l w h (by omega)
end Go.Proofs.Ytbijkdpifnncmaa
/- Contract of the reference's TreeOk. -/
namespace Go.Proofs.Ytbijkdpifnncmaa
open Go.RowKit

theorem all8_no {l : List ByteArray} {k : Nat} (hk : k < l.length) (h : ¬ (sAt l k).size = 8) : all8 l = false := all_no hk (by simpa using h)
theorem all8_yes {l : List ByteArray} (h : ∀ j, j < l.length → (sAt l j).size = 8) : all8 l = true := all_yes (fun j hj => by simpa using h j hj)
theorem entryAt_yes {l : List Ent} {k : Nat} (h1 : pathOkB (enAt l k).p = true) (h2 : (decide (k = 0) || Op.bytesLess (enAt l (k - 1)).p.toList (enAt l k).p.toList) = true) (h3 : (enAt l k).ch.length ≤ 4) (h4 : all8 (enAt l k).ch = true) (h5 : underAny l (enAt l k).p l.length = false) :
    entryAt l k = true := by
  unfold entryAt; rw [h1, h2, h4, h5]; simp [h3]
theorem treeOkB_len {l : List Ent} (h : ¬ l.length ≤ 12) : treeOkB l = false := by unfold treeOkB; simp [h]
theorem entryAt_len {l : List Ent} {k : Nat} (h3 : ¬ (enAt l k).ch.length ≤ 4) : entryAt l k = false := by
  unfold entryAt; simp [h3]
attribute [local go_sem] Grow.cell Grow.frozen
attribute [local irreducible] pathOkB underB beginsB all8 StrsAt

set_option maxHeartbeats 1000000 in
set_option maxRecDepth 20000 in
theorem treeOk_spec2 (A : Option Addr) (n c : Nat) (l : List Ent) (w : World) (h : EntsAt w A n l) (hs : entsSz l ≤ 1048704) :
    Calls Try.prog 12 #[.slice A n c] w fun e w' => e = .returned (.bool (treeOkB l)) ∧ Below w.heap.size w w' := by
  have HL := Lib.hid h.1.symm
  have hn := ents_n h hs
  have hel := ents_el hs
  by_cases h12 : n ≤ 12
  · have g12 : decide ((12 : Int) < n) = false := by simp; omega
    go_enter Try.func12, Try.ntmps12
    go_wp2
    go_loopw [3, 4, 5] (fun i _ _ wr => ∃ k : Nat, k ≤ n ∧ i = .int .i64 k ∧ (∀ j, j < k → entryAt l j = true) ∧ Below w.heap.size w wr) (fun i _ _ _ => n - (intOf i).toNat)
    case atStart => exact ⟨0, Nat.zero_le _, rfl, fun j hj => absurd hj (by omega), Below.refl _ _⟩
    case round =>
      obtain ⟨k, hk, rfl, hall, hb⟩ := hrel
      have HA := Lib.hid hall; clear hall
      by_cases hlt : k < n
      · obtain ⟨b, off, rfl, hbl, hc⟩ := h.at_ (by omega)
        obtain ⟨hp0, A', n', c', hc0, hat, _⟩ := hc k hlt
        have hpk := (hb.cell (p := ⟨b, off + k * 2, none⟩) hbl).trans hp0
        have hck := (hb.cell (p := ⟨b, off + k * 2 + 1, none⟩) hbl).trans hc0
        have hcp : 0 < k → w.cell? ⟨b, off + (k - 1) * 2, none⟩ = some (.string (enAt l (k - 1)).p) := fun _ => (hc (k - 1) (by omega)).1
        have hpp : ∀ i, i < n → w.cell? ⟨b, off + i * 2, none⟩ = some (.string (enAt l i).p) := fun i hi => (hc i hi).1
        have hkn0 : (k : Int) < n := by omega
        clear hc hc0
        have hek := hel k
        unfold entSz at hek
        have hbr : b < wr.heap.size := Nat.lt_of_lt_of_le hbl hb.size
        have HN := Lib.hid hat.nn
        have hn4 : n' ≤ 1048704 := by have := HN.out; unfold strsSz at hek; omega
        obtain ⟨q1, hq1⟩ : ∃ q, pathOkB (enAt l k).p = q := ⟨_, rfl⟩
        have Q1 := Lib.hid hq1
        cases q1
        · have HE := Lib.hid (show entryAt l k = false by unfold entryAt; rw [hq1]; simp)
          clear hq1 hcp
          go_wp2
          refine wp_region_grow (by kernel_rfl) (by kernel_rfl) ?_
          repeat (go_big_quiet_step ((go_at_call 24; exact grow_of (known Q1.out (pathOk_spec _ _ (by omega))))))
          refine wpQuiet_nil ?_
          intro _ hw'
          obtain ⟨⟨w1, hb1⟩, hw''⟩ := hw'
          change _ = w1 at hw''
          subst hw''
          go_wp2
          go_returns
          exact ⟨ret_bool (treeOkB_no (k := k) (by have := HL.out; omega) HE.out).symm, bthen hb hb1⟩
        · clear hq1
          by_cases hk0 : 0 < k
          · have hcpk := (hb.cell (p := ⟨b, off + (k - 1) * 2, none⟩) hbl).trans (hcp hk0)
            clear hcp
            obtain ⟨q, hq⟩ : ∃ q, Op.bytesLess (enAt l (k - 1)).p.toList (enAt l k).p.toList = q := ⟨_, rfl⟩
            cases q
            · have HE := Lib.hid (show entryAt l k = false by unfold entryAt; rw [hq]; simp; omega)
              go_wp2
              refine wp_region_grow (by kernel_rfl) (by kernel_rfl) ?_
              repeat (go_big_quiet_step ((go_at_call 24; exact grow_of (known Q1.out (pathOk_spec _ _ (by omega))))))
              refine wpQuiet_nil ?_
              intro _ hw'
              obtain ⟨⟨w1, hb1⟩, hw''⟩ := hw'
              change _ = w1 at hw''
              subst hw''
              go_wp2
              go_returns
              exact ⟨ret_bool (treeOkB_no (k := k) (by have := HL.out; omega) HE.out).symm, bthen hb hb1⟩
            · have HO := Lib.hid hq
              by_cases h4 : n' ≤ 4
              · have g4 : decide ((4 : Int) < n') = false := by simp; omega
                go_wp2
                refine wp_region_grow (by kernel_rfl) (by kernel_rfl) ?_
                repeat (go_big_quiet_step ((go_at_call 24; exact grow_of (known Q1.out (pathOk_spec _ _ (by omega))))))
                refine wpQuiet_nil ?_
                intro _ hw'
                obtain ⟨⟨w1, hb1⟩, hw''⟩ := hw'
                change _ = w1 at hw''
                subst hw''
                have hB1 := bthen hb hb1
                have hck1 := (hb1.cell (p := ⟨b, off + k * 2 + 1, none⟩) hbr).trans hck
                have hat1 := hat.keep hB1
                go_wp2
                go_loop [4] (fun c => ∃ m : Nat, m ≤ n' ∧ c = .int .i64 m ∧ ∀ j, j < m → (sAt (enAt l k).ch j).size = 8) (fun c => n' - (intOf c).toNat)
                case atStart => exact ⟨0, Nat.zero_le _, rfl, fun j hj => absurd hj (by omega)⟩
                case round =>
                  obtain ⟨m, hm, rfl, h8⟩ := hrel
                  have H8 := Lib.hid h8; clear h8
                  by_cases hmn : m < n'
                  · obtain ⟨b2, off2, rfl, hbl2, hc2⟩ := hat1.at_ (by omega)
                    have hcm := hc2 m hmn
                    clear hc2
                    by_cases h8 : (sAt (enAt l k).ch m).size = 8
                    · have g1 : ((((sAt (enAt l k).ch m).size : Nat) : Int) != 8) = false := by simp [h8]
                      have HH := Lib.hid h8; clear h8
                      go_wp2
                      refine ⟨⟨m + 1, by omega, by go_num, ?_⟩, by simp [intOf]; omega⟩
                      intro j hj
                      by_cases e : j = m
                      · subst e; exact HH.out
                      · exact H8.out j (by omega)
                    · have g1 : ((((sAt (enAt l k).ch m).size : Nat) : Int) != 8) = true := by simp; omega
                      have HE := Lib.hid (show entryAt l k = false by
                        unfold entryAt
                        rw [show all8 (enAt l k).ch = false from all8_no (k := m) (by have := HN.out; omega) h8]; simp)
                      clear h8
                      go_wp2
                      go_returns
                      exact ⟨ret_bool (treeOkB_no (k := k) (by have := HL.out; omega) HE.out).symm, hB1⟩
                  · go_wp2
                    have A8 := Lib.hid (show all8 (enAt l k).ch = true from all8_yes (fun j hj => H8.out j (by have := HN.out; omega)))
                    go_loopw [5] (fun c wu => ∃ m : Nat, m ≤ n ∧ c = .int .i64 m ∧ (∀ j, j < m → underB (enAt l j).p (enAt l k).p = false) ∧ Below w.heap.size w wu) (fun c _ => n - (intOf c).toNat)
                    case atStart => exact ⟨0, Nat.zero_le _, rfl, fun j hj => absurd hj (by omega), hB1⟩
                    case round =>
                      obtain ⟨m2, hm2, rfl, hu, hbu⟩ := hrel
                      have HU := Lib.hid hu; clear hu
                      by_cases hmn2 : m2 < n
                      · have hpk2 := (hbu.cell (p := ⟨b, off + k * 2, none⟩) hbl).trans hp0
                        have hpm2 := (hbu.cell (p := ⟨b, off + m2 * 2, none⟩) hbl).trans (hpp m2 hmn2)
                        have hbu1 := Nat.lt_of_lt_of_le hbl hbu.size
                        have hem := hel m2
                        unfold entSz at hem
                        obtain ⟨q, hq⟩ : ∃ q, underB (enAt l m2).p (enAt l k).p = q := ⟨_, rfl⟩
                        have HQ := Lib.hid hq; clear hq
                        have hkn : (k : Int) < n := by omega
                        have hmn3 : (m2 : Int) < n := by omega
                        cases q
                        · go_wp2
                          refine wp_region_grow (by kernel_rfl) (by kernel_rfl) ?_
                          repeat (go_big_quiet_step ((go_at_call 41; exact grow_same (known HQ.out (l30Under_any _ _ _ (by omega) (by omega))))))
                          refine wpQuiet_nil ?_
                          intro _ hw'
                          obtain ⟨⟨w3, hb3⟩, hw''⟩ := hw'
                          change _ = w3 at hw''
                          subst hw''
                          go_wp2
                          refine ⟨⟨m2 + 1, by omega, by go_num, ?_, bthen hbu hb3⟩, by simp [intOf]; omega⟩
                          intro j hj
                          by_cases e : j = m2
                          · subst e; exact HQ.out
                          · exact HU.out j (by omega)
                        · have HE := Lib.hid (show entryAt l k = false by
                            unfold entryAt
                            rw [underAny_yes (i := m2) (by have := HL.out; omega) HQ.out]; simp)
                          go_wp2
                          refine wp_region_grow (by kernel_rfl) (by kernel_rfl) ?_
                          repeat (go_big_quiet_step ((go_at_call 41; exact grow_same (known HQ.out (l30Under_any _ _ _ (by omega) (by omega))))))
                          refine wpQuiet_nil ?_
                          intro _ hw'
                          obtain ⟨⟨w3, hb3⟩, hw''⟩ := hw'
                          change _ = w3 at hw''
                          subst hw''
                          go_wp2
                          go_returns
                          exact ⟨ret_bool (treeOkB_no (k := k) (by have := HL.out; omega) HE.out).symm, bthen hbu hb3⟩
                      · have HE := Lib.hid (entryAt_yes Q1.out (by rw [HO.out, Bool.or_true]) (by have := HN.out; omega) A8.out (underAny_no (fun i hi => HU.out i (by have := HL.out; omega))))
                        go_wp2
                        exact ⟨⟨k + 1, by omega, by go_num, upto_succ HA.out HE.out, hbu⟩, by simp [intOf]; omega⟩
              · have g4 : decide ((4 : Int) < n') = true := by simp; omega
                have HE := Lib.hid (entryAt_len (by have := HN.out; omega : ¬ ((enAt l k).ch.length ≤ 4)))
                go_wp2
                refine wp_region_grow (by kernel_rfl) (by kernel_rfl) ?_
                repeat (go_big_quiet_step ((go_at_call 24; exact grow_of (known Q1.out (pathOk_spec _ _ (by omega))))))
                refine wpQuiet_nil ?_
                intro _ hw'
                obtain ⟨⟨w1, hb1⟩, hw''⟩ := hw'
                change _ = w1 at hw''
                subst hw''
                go_wp2
                go_returns
                exact ⟨ret_bool (treeOkB_no (k := k) (by have := HL.out; omega) HE.out).symm, bthen hb hb1⟩
          · clear hcp
            have gk : decide (0 < k) = false := by simpa using hk0
            have h0 : decide (k = 0) = true := by simp; omega
            have HO := Lib.hid h0; clear h0
            by_cases h4 : n' ≤ 4
            · have g4 : decide ((4 : Int) < n') = false := by simp; omega
              go_wp2
              refine wp_region_grow (by kernel_rfl) (by kernel_rfl) ?_
              repeat (go_big_quiet_step ((go_at_call 24; exact grow_of (known Q1.out (pathOk_spec _ _ (by omega))))))
              refine wpQuiet_nil ?_
              intro _ hw'
              obtain ⟨⟨w1, hb1⟩, hw''⟩ := hw'
              change _ = w1 at hw''
              subst hw''
              have hB1 := bthen hb hb1
              have hck1 := (hb1.cell (p := ⟨b, off + k * 2 + 1, none⟩) hbr).trans hck
              have hat1 := hat.keep hB1
              go_wp2
              go_loop [4] (fun c => ∃ m : Nat, m ≤ n' ∧ c = .int .i64 m ∧ ∀ j, j < m → (sAt (enAt l k).ch j).size = 8) (fun c => n' - (intOf c).toNat)
              case atStart => exact ⟨0, Nat.zero_le _, rfl, fun j hj => absurd hj (by omega)⟩
              case round =>
                obtain ⟨m, hm, rfl, h8⟩ := hrel
                have H8 := Lib.hid h8; clear h8
                by_cases hmn : m < n'
                · obtain ⟨b2, off2, rfl, hbl2, hc2⟩ := hat1.at_ (by omega)
                  have hcm := hc2 m hmn
                  clear hc2
                  by_cases h8 : (sAt (enAt l k).ch m).size = 8
                  · have g1 : ((((sAt (enAt l k).ch m).size : Nat) : Int) != 8) = false := by simp [h8]
                    have HH := Lib.hid h8; clear h8
                    go_wp2
                    refine ⟨⟨m + 1, by omega, by go_num, ?_⟩, by simp [intOf]; omega⟩
                    intro j hj
                    by_cases e : j = m
                    · subst e; exact HH.out
                    · exact H8.out j (by omega)
                  · have g1 : ((((sAt (enAt l k).ch m).size : Nat) : Int) != 8) = true := by simp; omega
                    have HE := Lib.hid (show entryAt l k = false by
                      unfold entryAt
                      rw [show all8 (enAt l k).ch = false from all8_no (k := m) (by have := HN.out; omega) h8]; simp)
                    clear h8
                    go_wp2
                    go_returns
                    exact ⟨ret_bool (treeOkB_no (k := k) (by have := HL.out; omega) HE.out).symm, hB1⟩
                · go_wp2
                  have A8 := Lib.hid (show all8 (enAt l k).ch = true from all8_yes (fun j hj => H8.out j (by have := HN.out; omega)))
                  go_loopw [5] (fun c wu => ∃ m : Nat, m ≤ n ∧ c = .int .i64 m ∧ (∀ j, j < m → underB (enAt l j).p (enAt l k).p = false) ∧ Below w.heap.size w wu) (fun c _ => n - (intOf c).toNat)
                  case atStart => exact ⟨0, Nat.zero_le _, rfl, fun j hj => absurd hj (by omega), hB1⟩
                  case round =>
                    obtain ⟨m2, hm2, rfl, hu, hbu⟩ := hrel
                    have HU := Lib.hid hu; clear hu
                    by_cases hmn2 : m2 < n
                    · have hpk2 := (hbu.cell (p := ⟨b, off + k * 2, none⟩) hbl).trans hp0
                      have hpm2 := (hbu.cell (p := ⟨b, off + m2 * 2, none⟩) hbl).trans (hpp m2 hmn2)
                      have hbu1 := Nat.lt_of_lt_of_le hbl hbu.size
                      have hem := hel m2
                      unfold entSz at hem
                      obtain ⟨q, hq⟩ : ∃ q, underB (enAt l m2).p (enAt l k).p = q := ⟨_, rfl⟩
                      have HQ := Lib.hid hq; clear hq
                      have hkn : (k : Int) < n := by omega
                      have hmn3 : (m2 : Int) < n := by omega
                      cases q
                      · go_wp2
                        refine wp_region_grow (by kernel_rfl) (by kernel_rfl) ?_
                        repeat (go_big_quiet_step ((go_at_call 41; exact grow_same (known HQ.out (l30Under_any _ _ _ (by omega) (by omega))))))
                        refine wpQuiet_nil ?_
                        intro _ hw'
                        obtain ⟨⟨w3, hb3⟩, hw''⟩ := hw'
                        change _ = w3 at hw''
                        subst hw''
                        go_wp2
                        refine ⟨⟨m2 + 1, by omega, by go_num, ?_, bthen hbu hb3⟩, by simp [intOf]; omega⟩
                        intro j hj
                        by_cases e : j = m2
                        · subst e; exact HQ.out
                        · exact HU.out j (by omega)
                      · have HE := Lib.hid (show entryAt l k = false by
                          unfold entryAt
                          rw [underAny_yes (i := m2) (by have := HL.out; omega) HQ.out]; simp)
                        go_wp2
                        refine wp_region_grow (by kernel_rfl) (by kernel_rfl) ?_
                        repeat (go_big_quiet_step ((go_at_call 41; exact grow_same (known HQ.out (l30Under_any _ _ _ (by omega) (by omega))))))
                        refine wpQuiet_nil ?_
                        intro _ hw'
                        obtain ⟨⟨w3, hb3⟩, hw''⟩ := hw'
                        change _ = w3 at hw''
                        subst hw''
                        go_wp2
                        go_returns
                        exact ⟨ret_bool (treeOkB_no (k := k) (by have := HL.out; omega) HE.out).symm, bthen hbu hb3⟩
                    · have HE := Lib.hid (entryAt_yes Q1.out (by rw [HO.out, Bool.true_or]) (by have := HN.out; omega) A8.out (underAny_no (fun i hi => HU.out i (by have := HL.out; omega))))
                      go_wp2
                      exact ⟨⟨k + 1, by omega, by go_num, upto_succ HA.out HE.out, hbu⟩, by simp [intOf]; omega⟩
            · have g4 : decide ((4 : Int) < n') = true := by simp; omega
              have HE := Lib.hid (entryAt_len (by have := HN.out; omega : ¬ ((enAt l k).ch.length ≤ 4)))
              go_wp2
              refine wp_region_grow (by kernel_rfl) (by kernel_rfl) ?_
              repeat (go_big_quiet_step ((go_at_call 24; exact grow_of (known Q1.out (pathOk_spec _ _ (by omega))))))
              refine wpQuiet_nil ?_
              intro _ hw'
              obtain ⟨⟨w1, hb1⟩, hw''⟩ := hw'
              change _ = w1 at hw''
              subst hw''
              go_wp2
              go_returns
              exact ⟨ret_bool (treeOkB_no (k := k) (by have := HL.out; omega) HE.out).symm, bthen hb hb1⟩
      · go_wp2
        go_returns
        exact ⟨ret_bool (by rw [treeOkB_all (fun j hj => HA.out j (by have := HL.out; omega)), HL.out]; simp; omega), hb⟩
  · have g12 : decide ((12 : Int) < n) = true := by simp; omega
    have HF := Lib.hid (treeOkB_len (l := l) (by have := HL.out; omega))
    go_enter Try.func12, Try.ntmps12
    go_wp2
    go_returns
    exact ⟨ret_bool HF.out.symm, Below.refl _ _⟩
theorem treeOk_spec1 (A : Option Addr) (n c : Nat) (l : List Ent) (w : World) (h : EntsAt w A n l) (hs : entsSz l ≤ 1048577) :
    Calls Try.prog 12 #[.slice A n c] w fun e w' => e = .returned (.bool (treeOkB l)) ∧ Below w.heap.size w w' := treeOk_spec2 A n c l w h (by omega)
theorem treeOk_spec (A : Option Addr) (n c : Nat) (l : List Ent) (w : World) (h : EntsAt w A n l) (hs : entsSz l ≤ 1048576) :
    Calls Try.prog 12 #[.slice A n c] w fun e w' => e = .returned (.bool (treeOkB l)) ∧ Below w.heap.size w w' := treeOk_spec1 A n c l w h (by omega)
end Go.Proofs.Ytbijkdpifnncmaa
/- Contracts of TreeDrop, both sides. -/
namespace Go.Proofs.Ytbijkdpifnncmaa
open Go.RowKit
attribute [local irreducible] StrsAt treeOkB underB beginsB

/-- is a path dropped with q? -/
def dropB (q x : ByteArray) : Bool := decide (x = q) || underB x q
def dropL (l : List Ent) (q : ByteArray) : List Ent := if treeOkB l = true then l.filter (fun x => !dropB q x.p) else []
def dropN (l : List Ent) (q : ByteArray) : Int := if treeOkB l = true then (l.length : Int) - ((dropL l q).length : Int) else 0
theorem entsSz_cons (x : Ent) (l : List Ent) : entsSz (x :: l) = 1 + entSz x + entsSz l := by simp [entsSz]; omega
theorem entsSz_filter (p : Ent → Bool) (l : List Ent) : entsSz (l.filter p) ≤ entsSz l := by
  induction l with
  | nil => simp
  | cons x l ih =>
    rw [List.filter_cons]
    split
    · rw [entsSz_cons, entsSz_cons]; omega
    · rw [entsSz_cons]; omega
theorem dropL_sz (l : List Ent) (q : ByteArray) {m : Nat} (h : entsSz l ≤ m) : entsSz (dropL l q) ≤ m := by
  unfold dropL
  split
  · exact Nat.le_trans (entsSz_filter _ _) h
  · simp [entsSz]

theorem drop_fn (B : Nat) (q : ByteArray) (hq : q.size ≤ 1048576) : TestFn 50 B q (dropB q) := by
  intro x A n c w hx hB
  have hlt := cell_lt hB
  have hne : B ≠ w.heap.size := by omega
  by_cases he : x = q
  · have hd : (x.toList == q.toList) = true := by rw [str_beq]; simpa using he
    have HR := Lib.hid (show dropB q x = true by unfold dropB; simp [he])
    go_enter Try.func50, Try.ntmps50
    go_wp2
    go_returns
    exact ⟨by rw [HR.out]; rfl, by go_grown⟩
  · have hd : (x.toList == q.toList) = false := by rw [str_beq]; simpa using he
    have HR := Lib.hid (show dropB q x = underB x q by unfold dropB; simp [he])
    have HS := Lib.hid (slash_size q)
    have HB := Lib.hid (begins_slash x q)
    have q1 : ¬ 9223372036854775807 < q.size + 1 := by omega
    go_enter Try.func50, Try.ntmps50
    go_wp2_with fail
    refine (begins_any x (slash q) _ (by omega) (by have := HS.out; omega)).mono ?_
    rintro r w' ⟨rfl, rfl⟩
    go_wp2
    go_returns
    exact ⟨by rw [HR.out, HB.out]; rfl, by go_grown⟩

attribute [local irreducible] dropB
/-- entries and a number, the entries in memory of the call's own -/
def EntsNR (l : List Ent) (x : Int) (w : World) (e : Ending) (w' : World) : Prop :=
  ∃ A n c, e = .returned (.tuple #[.slice A n c, .int .i64 x]) ∧ EntsIn w.heap.size w'.heap.size w' A n c l ∧ Below w.heap.size w w'

set_option maxRecDepth 4000 in
set_option maxHeartbeats 400000 in
theorem treeDrop_impl (A : Option Addr) (n c : Nat) (l : List Ent) (q : ByteArray) (w : World) (h : EntsAt w A n l) (hs : entsSz l ≤ 1048576) (hq : q.size ≤ 1048576) :
    Calls Try.prog 18 #[.slice A n c, .string q] w (EntsNR (dropL l q) (dropN l q) w) := by
  have HL := Lib.hid h.1
  have hn := ents_n h hs
  have al := fun o => (Below.refl w.heap.size w).alloc (Nat.le_refl _) o
  obtain ⟨t, ht⟩ : ∃ t, treeOkB l = t := ⟨_, rfl⟩
  have HQ := Lib.hid ht
  cases t
  · have HR := Lib.hid (show dropL l q = [] by simp [dropL, ht])
    have HN := Lib.hid (show dropN l q = 0 by simp [dropN, ht])
    clear ht
    rw [HR.out, HN.out]
    go_enter Try.func18, Try.ntmps18
    go_wp2_with fail
    refine (treeOk_impl _ _ _ l _ (h.keep (al _)) hs).mono ?_
    rintro e w1 ⟨rfl, hb1⟩; rw [HQ.out]
    go_wp2
    go_returns
    exact ⟨none, 0, 0, rfl, EntsIn.nil, bthen (al _) hb1⟩
  · have HR := Lib.hid (show dropL l q = l.filter (fun x => !dropB q x.p) by simp [dropL, ht])
    have HN := Lib.hid (show dropN l q = (l.length : Int) - ((dropL l q).length : Int) by simp [dropN, ht])
    clear ht
    go_enter Try.func18, Try.ntmps18
    go_wp2_with fail
    refine (treeOk_impl _ _ _ l _ (h.keep (al _)) hs).mono ?_
    rintro e w1 ⟨rfl, hb1⟩; rw [HQ.out]
    have hb1w := bthen (al _) hb1
    have hB1 := keep_cell hb1 (show (w.alloc (.cells #[.string q] 9)).cell? ⟨w.heap.size, 0, none⟩ = some (.string q) by simp [go_sem])
    go_wp2_with fail
    refine (copyEntries_impl _ _ _ l _ (h.keep hb1w) hs).mono ?_
    rintro e w2 ⟨A2, n2, c2, rfl, hin2, hb2⟩
    have hb2w := bthen hb1w hb2
    have hB2 := keep_cell hb2 hB1
    have hlt := cell_lt hB1
    go_wp2_with fail
    refine (del_any 50 w.heap.size q (dropB q) (drop_fn _ q hq) (fun _ _ => rfl) _ _ _ l _ _ _ hin2 hs hB2 (fun hi => by unfold Iv at hi; omega) (Nat.le_refl _)).mono ?_
    rintro e w3 ⟨n3, rfl, hin3, hch3⟩
    have HN3 := Lib.hid hin3.len
    have hn3b : n3 ≤ n := by rw [HN3.out, HL.out]; exact List.length_filter_le _ _
    have hz1 := hb1w.size
    go_wp2
    go_returns
    have hb3 : Below w.heap.size w w3 := hb2w.trans (hch3.below (fun k hk => by unfold Iv at hk; omega) hb2w.size)
    refine ⟨A2, n3, c2, ?_, by rw [HR.out]; exact (hin3.wide hz1 hch3.size), hb3⟩
    show Ending.returned (.tuple #[.slice A2 n3 c2, .int .i64 ((n : Int) - (n3 : Int))]) = _
    rw [HN.out, HR.out, ← HL.out, ← HN3.out]

/-- a row's cells read as entries -/
def EntCells (w : World) (xs : List Value) (l : List Ent) : Prop :=
  ∀ i, i < l.length → xs[i * 2]? = some (.string (enAt l i).p) ∧ ∃ A n c, xs[i * 2 + 1]? = some (.slice A n c) ∧ StrsAt w A n (enAt l i).ch ∧ (A = none → c = 0)
theorem EntCells.keep {w w' : World} {xs : List Value} {l : List Ent} (h : EntCells w xs l) (hb : Below w.heap.size w w') : EntCells w' xs l := fun i hi => by
  obtain ⟨h0, A, n, c, h1, h2, h3⟩ := h i hi
  exact ⟨h0, A, n, c, h1, h2.keep hb, h3⟩
theorem EntsAt.of_cells {w : World} {base e : Nat} {A : Option Addr} {n c : Nat} {xs : List Value} {l : List Ent} (h : w.ownsRow base e 2 (.slice A n c) n xs) (hl : n = l.length) (hx : EntCells w xs l) : EntsAt w A n l := by
  refine ⟨hl, fun hn => ?_⟩
  obtain ⟨b, off, rfl, hc⟩ := (own_cells h).2 hn
  have h0 := (hx 0 (by omega)).1
  refine ⟨b, off, rfl, cell_lt (hc _ _ h0), fun i hi => ?_⟩
  obtain ⟨g0, A', n', c', g1, g2, g3⟩ := hx i (by omega)
  exact ⟨hc _ _ g0, A', n', c', hc _ _ g1, g2, g3⟩
theorem EntCells.snoc {w : World} {xs : List Value} {l : List Ent} {x : Ent} {A : Option Addr} {n c : Nat} (h : EntCells w xs l) (hl : xs.length = l.length * 2) (h1 : StrsAt w A n x.ch) (h2 : A = none → c = 0) :
    EntCells w (xs ++ [.string x.p, .slice A n c]) (l ++ [x]) := by
  intro i hi
  rcases Nat.lt_or_ge i l.length with hlt | hge
  · obtain ⟨g0, A', n', c', g1, g2, g3⟩ := h i hlt
    have e1 : enAt (l ++ [x]) i = enAt l i := by simp [enAt, List.getElem?_append_left hlt]
    rw [e1, List.getElem?_append_left (by omega), List.getElem?_append_left (by omega)]
    exact ⟨g0, A', n', c', g1, g2, g3⟩
  · have hi2 : i = l.length := by simp at hi; omega
    subst hi2
    have e1 : enAt (l ++ [x]) l.length = x := by simp [enAt]
    rw [e1, List.getElem?_append_right (by omega), List.getElem?_append_right (by omega), hl]
    exact ⟨by simp, A, n, c, by simp, h1, h2⟩
theorem filter_take {p : Ent → Bool} {l : List Ent} {k : Nat} (hk : k < l.length) : (l.take (k + 1)).filter p = (l.take k).filter p ++ (if p (enAt l k) then [enAt l k] else []) := by
  rw [take_snoc2 l k hk, List.filter_append, enAt_get hk]
  by_cases hp : p l[k] = true <;> simp [hp]

end Go.Proofs.Ytbijkdpifnncmaa
/- The order of texts: sorted lists without repetition; the reference's put. -/
namespace Go.Proofs.Ytbijkdpifnncmaa

abbrev By := List UInt8
def ltB (x y : By) : Prop := Op.bytesLess x y = true
theorem ltB_cons {a b : UInt8} {x y : By} : ltB (a :: x) (b :: y) ↔ a.toNat < b.toNat ∨ (a = b ∧ ltB x y) := by
  simp [ltB, Op.bytesLess, UInt8.lt_iff_toNat_lt]
theorem ltB_nil {x : By} : ¬ ltB x [] := by cases x <;> simp [ltB, Op.bytesLess]
theorem ltB_nc {b : UInt8} {y : By} : ltB [] (b :: y) := by simp [ltB, Op.bytesLess]
theorem ltB_irr : ∀ (x : By), ¬ ltB x x
  | [] => ltB_nil
  | a :: x => by rw [ltB_cons]; intro h; rcases h with h | ⟨_, h⟩; exact Nat.lt_irrefl _ h; exact ltB_irr x h
theorem ltB_trans : ∀ {x y z : By}, ltB x y → ltB y z → ltB x z
  | _, _, [], _, h => absurd h ltB_nil
  | _, [], _ :: _, h, _ => absurd h ltB_nil
  | [], _ :: _, _ :: _, _, _ => ltB_nc
  | a :: x, b :: y, c :: z, h, k => by
    rw [ltB_cons] at *
    rcases h with h | ⟨rfl, h⟩
    · rcases k with k | ⟨rfl, k⟩
      · exact .inl (by omega)
      · exact .inl h
    · rcases k with k | ⟨rfl, k⟩
      · exact .inl k
      · exact .inr ⟨rfl, ltB_trans h k⟩
theorem ltB_tri : ∀ {x y : By}, ¬ ltB x y → ¬ ltB y x → x = y
  | [], [], _, _ => rfl
  | [], _ :: _, h, _ => absurd ltB_nc h
  | _ :: _, [], _, h => absurd ltB_nc h
  | a :: x, b :: y, h, k => by
    rw [ltB_cons] at *
    have e : a = b := by
      rcases Nat.lt_trichotomy a.toNat b.toNat with h1 | h1 | h1
      · exact absurd (.inl h1) h
      · exact UInt8.toNat_inj.1 h1
      · exact absurd (.inl h1) k
    subst e
    rw [ltB_tri (fun hh => h (.inr ⟨rfl, hh⟩)) (fun hh => k (.inr ⟨rfl, hh⟩))]
theorem le_iff {x y : By} : x ≤ y ↔ ¬ ltB y x := by
  unfold ltB
  rw [bytesLess_eq, decide_eq_true_eq]
  exact Iff.rfl
theorem leB_trans {x y z : By} (h : ¬ ltB y x) (k : ¬ ltB z y) : ¬ ltB z x := fun hzx => by
  by_cases hxy : ltB x y
  · exact k (ltB_trans hzx hxy)
  · have := ltB_tri hxy h
    subst this
    exact k hzx
def sortB (l : List By) : List By := l.mergeSort (fun x y => decide (x ≤ y))
theorem sortB_len (l : List By) : (sortB l).length = l.length := List.length_mergeSort l
theorem sortB_mem {l : List By} {x : By} : x ∈ sortB l ↔ x ∈ l := List.mem_mergeSort
theorem sortB_le (l : List By) : (sortB l).Pairwise (fun x y => ¬ ltB y x) :=
  (List.pairwise_mergeSort (le := fun x y : By => decide (x ≤ y)) (fun a b c h1 h2 => by
    simp only [decide_eq_true_eq, le_iff] at *; exact leB_trans h1 h2) (fun a b => by
    simp only [Bool.or_eq_true, decide_eq_true_eq, le_iff]
    by_cases h : ltB b a
    · exact .inr (fun hh => ltB_irr _ (ltB_trans h hh))
    · exact .inl h) l).imp (fun h => by simpa only [decide_eq_true_eq, le_iff] using h)

theorem risingB_ext : ∀ {a b : List By}, a.Pairwise ltB → b.Pairwise ltB → (∀ x, x ∈ a ↔ x ∈ b) → a = b
  | [], [], _, _, _ => rfl
  | [], y :: b, _, _, h => absurd ((h y).2 (List.mem_cons_self ..)) (by simp)
  | x :: a, [], _, _, h => absurd ((h x).1 (List.mem_cons_self ..)) (by simp)
  | x :: a, y :: b, ha, hb, h => by
    rw [List.pairwise_cons] at ha hb
    have hxy : x = y := by
      have h1 := (h x).1 (List.mem_cons_self ..)
      have h2 := (h y).2 (List.mem_cons_self ..)
      rw [List.mem_cons] at h1 h2
      rcases h1 with h1 | h1
      · exact h1
      · rcases h2 with h2 | h2
        · exact h2.symm
        · exact absurd (ltB_trans (hb.1 x h1) (ha.1 y h2)) (ltB_irr _)
    subst hxy
    rw [risingB_ext ha.2 hb.2 (fun z => by
      constructor
      · intro hz
        have h1 := (h z).1 (List.mem_cons_of_mem _ hz)
        rw [List.mem_cons] at h1
        rcases h1 with rfl | h1
        · exact absurd (ha.1 z hz) (ltB_irr _)
        · exact h1
      · intro hz
        have h1 := (h z).2 (List.mem_cons_of_mem _ hz)
        rw [List.mem_cons] at h1
        rcases h1 with rfl | h1
        · exact absurd (hb.1 z hz) (ltB_irr _)
        · exact h1)]
/-- the compact list of a sorted one rises and holds the same -/
theorem compactB_up {s : List By} (hs : s.Pairwise (fun x y => ¬ ltB y x)) (m : Nat) (hm : m ≤ s.length) :
    (Lib.compactUpTo s.toArray m).Pairwise ltB ∧ (∀ x, x ∈ Lib.compactUpTo s.toArray m ↔ ∃ t, t < m ∧ s[t]? = some x) := by
  induction m with
  | zero => simp [Lib.compactUpTo]
  | succ m ih =>
    obtain ⟨h1, h2⟩ := ih (by omega)
    have hml : m < s.length := by omega
    rw [Lib.compactUpTo_succ]
    have hget : s.toArray[m]! = s[m] := by simp [hml]
    by_cases hk : Lib.keeps s.toArray m = true
    · rw [if_pos hk, hget]
      refine ⟨?_, fun x => ?_⟩
      · rw [List.pairwise_append]
        refine ⟨h1, List.pairwise_singleton _ _, fun a ha b hb => ?_⟩
        simp at hb; subst hb
        obtain ⟨t, ht, hta⟩ := (h2 a).1 ha
        obtain ⟨htl, hte⟩ := List.getElem?_eq_some_iff.1 hta
        have hle := List.pairwise_iff_getElem.1 hs t m htl hml ht
        rcases m with _ | m
        · omega
        · have hne : s[m + 1] ≠ s[m] := by
            have := hk; simp [Lib.keeps, hml, show m < s.length by omega] at this; exact this
          have hle2 := List.pairwise_iff_getElem.1 hs m (m + 1) (by omega) hml (by omega)
          have hlt2 : ltB s[m] s[m + 1] := by
            by_cases h5 : ltB s[m] s[m + 1]
            · exact h5
            · exact absurd (ltB_tri hle2 h5) hne
          rcases Nat.lt_or_eq_of_le (show t ≤ m by omega) with h3 | h3
          · have h6 := List.pairwise_iff_getElem.1 hs t m htl (by omega) h3
            rw [hte] at h6
            by_cases h7 : ltB a s[m]
            · exact ltB_trans h7 hlt2
            · have := ltB_tri h7 h6
              subst this; exact hlt2
          · subst h3; rw [hte] at hlt2; exact hlt2
      · rw [List.mem_append, h2, List.mem_singleton]
        constructor
        · rintro (⟨t, ht, h3⟩ | rfl)
          · exact ⟨t, by omega, h3⟩
          · exact ⟨m, by omega, List.getElem?_eq_getElem hml⟩
        · rintro ⟨t, ht, h3⟩
          by_cases e : t = m
          · subst e; rw [List.getElem?_eq_getElem hml] at h3; injection h3 with h3; exact .inr h3.symm
          · exact .inl ⟨t, by omega, h3⟩
    · rw [if_neg hk, List.append_nil]
      refine ⟨h1, fun x => ?_⟩
      rw [h2]
      constructor
      · rintro ⟨t, ht, h3⟩; exact ⟨t, by omega, h3⟩
      · rintro ⟨t, ht, h3⟩
        by_cases e : t = m
        · subst e
          rcases t with _ | t
          · simp [Lib.keeps] at hk
          · have he : s[t + 1] = s[t] := by
              have := hk; simp [Lib.keeps, hml, show t < s.length by omega] at this; exact this
            rw [List.getElem?_eq_getElem hml] at h3
            injection h3 with h3
            exact ⟨t, by omega, by rw [List.getElem?_eq_getElem (by omega), ← he, h3]⟩
        · exact ⟨t, by omega, h3⟩

/-! ### the reference's put -/
instance (x y : By) : Decidable (ltB x y) := inferInstanceAs (Decidable (Op.bytesLess x y = true))
/-- x ahead of the first greater one -/
def insB (x : By) : List By → List By
  | [] => [x]
  | y :: l => if ltB x y then x :: y :: l else y :: insB x l
def putB (l : List By) (x : By) : List By := if x ∈ l then l else insB x l
theorem insB_mem {x z : By} {l : List By} : z ∈ insB x l ↔ z = x ∨ z ∈ l := by
  induction l with
  | nil => simp [insB]
  | cons y l ih =>
    rw [insB]; split
    · simp
    · rw [List.mem_cons, ih, List.mem_cons]
      constructor
      · rintro (h | h | h) <;> simp [h]
      · rintro (h | h | h) <;> simp [h]
theorem insB_rising {x : By} {l : List By} (h : l.Pairwise ltB) (hx : x ∉ l) : (insB x l).Pairwise ltB := by
  induction l with
  | nil => simp [insB]
  | cons y l ih =>
    rw [List.pairwise_cons] at h
    rw [insB]; split
    · rename_i hxy
      rw [List.pairwise_cons]
      refine ⟨fun z hz => ?_, List.pairwise_cons.2 h⟩
      rcases List.mem_cons.1 hz with rfl | hz
      · exact hxy
      · exact ltB_trans hxy (h.1 z hz)
    · rename_i hxy
      rw [List.pairwise_cons]
      refine ⟨fun z hz => ?_, ih h.2 (fun hh => hx (List.mem_cons_of_mem _ hh))⟩
      rcases insB_mem.1 hz with rfl | hz
      · by_cases h5 : ltB y z
        · exact h5
        · exact absurd (ltB_tri hxy h5) (fun e => hx (by rw [e]; exact List.mem_cons_self ..))
      · exact h.1 z hz
theorem putB_mem {x z : By} {l : List By} : z ∈ putB l x ↔ z = x ∨ z ∈ l := by
  unfold putB; split
  · rename_i h
    exact ⟨.inr, fun hh => by rcases hh with rfl | hh; exact h; exact hh⟩
  · exact insB_mem
theorem putB_rising {x : By} {l : List By} (h : l.Pairwise ltB) : (putB l x).Pairwise ltB := by
  unfold putB; split
  · exact h
  · rename_i hx; exact insB_rising h hx
def putsB (ns : List By) : List By := ns.foldl putB []
theorem puts_aux (ns : List By) : ∀ (l : List By), l.Pairwise ltB → (ns.foldl putB l).Pairwise ltB ∧ ∀ z, z ∈ ns.foldl putB l ↔ z ∈ ns ∨ z ∈ l := by
  induction ns with
  | nil => intro l h; exact ⟨h, fun z => by simp⟩
  | cons x ns ih =>
    intro l h
    obtain ⟨h1, h2⟩ := ih (putB l x) (putB_rising h)
    refine ⟨h1, fun z => ?_⟩
    rw [List.foldl_cons, h2, putB_mem, List.mem_cons]
    constructor
    · rintro (h | h | h) <;> simp [h]
    · rintro ((h | h) | h) <;> simp [h]
/-- sorted and without repetition is what the puts make -/
theorem compact_sort (ns : List By) : Lib.compact (sortB ns) = putsB ns := by
  obtain ⟨h1, h2⟩ := compactB_up (sortB_le ns) (sortB ns).length (Nat.le_refl _)
  obtain ⟨h3, h4⟩ := puts_aux ns [] List.Pairwise.nil
  unfold Lib.compact putsB
  refine risingB_ext h1 h3 (fun x => ?_)
  rw [h2, h4, ← sortB_mem]
  constructor
  · rintro ⟨t, _, ht⟩; exact .inl (List.mem_of_getElem? ht)
  · rintro (h | h)
    · obtain ⟨t, ht, e⟩ := List.mem_iff_getElem.1 h
      exact ⟨t, ht, by rw [List.getElem?_eq_getElem ht, e]⟩
    · cases h
theorem putsB_snoc (ns : List By) (x : By) : putsB (ns ++ [x]) = putB (putsB ns) x := by simp [putsB]
theorem insB_len (x : By) (l : List By) : (insB x l).length = l.length + 1 := by
  induction l with
  | nil => simp [insB]
  | cons y l ih => rw [insB]; split <;> simp [ih]
theorem putB_len (l : List By) (x : By) : (putB l x).length ≤ l.length + 1 := by
  unfold putB; split
  · omega
  · rw [insB_len]; exact Nat.le_refl _
theorem putsB_len (ns : List By) : (putsB ns).length ≤ ns.length := by
  have : ∀ l, (ns.foldl putB l).length ≤ l.length + ns.length := by
    induction ns with
    | nil => simp
    | cons x ns ih => intro l; rw [List.foldl_cons]; have := ih (putB l x); have := putB_len l x; simp; omega
  simpa [putsB] using this []
theorem putsB_mem {ns : List By} {z : By} : z ∈ putsB ns ↔ z ∈ ns := by
  have := (puts_aux ns [] List.Pairwise.nil).2 z
  simpa [putsB] using this
end Go.Proofs.Ytbijkdpifnncmaa
/- Contract of the program's TreePut. -/
namespace Go.Proofs.Ytbijkdpifnncmaa
open Go.RowKit

/-! ### an element inserted into a row of rows -/
section
variable {α : Type} {F : Nat → Nat → World → List Value → α → Prop} {e sz lo hi n c m c' i : Nat} {w w' : World} {A A' : Option Addr} {css : List (List Value)} {l : List α} {cs : List Value} {x : α}
theorem SubsIn.ins (E : Elem F sz) (h : SubsIn F lo hi w css l) (hx : F lo hi w cs x) (hap : ∀ cs' ∈ css, Apart cs' cs) (hi' : i ≤ l.length) : SubsIn F lo hi w (css.take i ++ [cs] ++ css.drop i) (l.take i ++ [x] ++ l.drop i) := by
  have hl := h.len
  refine ⟨by simp [hl], fun k ck y hc hy => ?_, ?_⟩
  · have l1 : (css.take i).length = i := by rw [List.length_take]; omega
    have l2 : (l.take i).length = i := by rw [List.length_take]; omega
    rw [List.append_assoc, List.getElem?_append, l1] at hc
    rw [List.append_assoc, List.getElem?_append, l2] at hy
    by_cases c1 : k < i
    · rw [if_pos c1, List.getElem?_take_of_lt c1] at hc hy
      exact h.el k _ _ hc hy
    · rw [if_neg c1] at hc hy
      rcases hk : k - i with _ | j
      · rw [hk] at hc hy
        injection hc with hc; injection hy with hy; subst hc hy; exact hx
      · rw [hk] at hc hy
        simp only [List.singleton_append, List.getElem?_cons_succ, List.getElem?_drop] at hc hy
        exact h.el _ _ _ hc hy
  · have hp := h.apart
    rw [← List.take_append_drop i css, List.pairwise_append] at hp
    rw [List.append_assoc, List.pairwise_append]
    refine ⟨hp.1, List.pairwise_cons.2 ⟨fun b hb => (hap b (List.mem_of_mem_drop hb)).symm, hp.2.1⟩, fun a ha b hb => ?_⟩
    rcases List.mem_cons.1 hb with rfl | hb
    · exact hap a (List.mem_of_mem_take ha)
    · exact hp.2.2 a ha b hb
theorem RowsIn.ins (E : Elem F sz) (h : RowsIn F e sz lo w.heap.size w A n c l css) (hx : F lo w.heap.size w cs x) (hap : ∀ cs' ∈ css, Apart cs' cs) (hoff : ∀ b, Leads cs b → ¬ BlkOf A b) (hi' : i ≤ n)
    (hown : w'.ownsRow lo e sz (.slice A' (n + 1) c') (n + 1) ((css.take i ++ [cs] ++ css.drop i).flatten)) (hC : Ch (fun k => (Value.slice A n c).ownBlock = some k) w w')
    (hob : (Value.slice A' (n + 1) c').ownBlock = (Value.slice A n c).ownBlock ∨ (Value.slice A' (n + 1) c').ownBlock = some m) (hm : w.heap.size ≤ m) :
    RowsIn F e sz lo w'.heap.size w' A' (n + 1) c' (l.take i ++ [x] ++ l.drop i) (css.take i ++ [cs] ++ css.drop i) := by
  have hn := h.nl
  have hs := h.subs.ins E hx hap (show i ≤ l.length by omega)
  have hall : ∀ cs' ∈ css.take i ++ [cs] ++ css.drop i, ∀ b, Leads cs' b → ¬ BlkOf A b ∧ b < w.heap.size := fun cs' h' b hb => by
    rcases List.mem_append.1 h' with h' | h'
    · rcases List.mem_append.1 h' with h' | h'
      · exact ⟨h.off cs' (List.mem_of_mem_take h') b hb, (h.subs.leads E (List.mem_of_mem_take h') hb).2⟩
      · have : cs' = cs := by simpa using h'
        subst this
        exact ⟨hoff b hb, (E.leads hx hb).2⟩
    · exact ⟨h.off cs' (List.mem_of_mem_drop h') b hb, (h.subs.leads E (List.mem_of_mem_drop h') hb).2⟩
  refine ⟨RowIn.of_own hown, (hs.ch E hC (fun cs' h' b hb e => (hall cs' h' b hb).1 (blk_of e))).wide E (Nat.le_refl _) hC.size, fun cs' h' b hb hA => ?_, by simp; omega⟩
  have h1 := hall cs' h' b hb
  rcases hob with e1 | e1
  · exact h1.1 (blk_of (e1.symm.trans (blk_own' hA)))
  · have := Option.some.inj ((blk_own' (n := n + 1) (c := c') hA).symm.trans e1)
    omega
theorem flat_ins (h : ∀ cs ∈ css, cs.length = sz) (hi : i ≤ css.length) : (css.take i ++ [cs] ++ css.drop i).flatten = css.flatten.take (i * sz) ++ cs ++ css.flatten.drop (i * sz) := by
  have e1 : css.flatten = (css.take i).flatten ++ (css.drop i).flatten := by rw [← List.flatten_append, List.take_append_drop]
  have l1 : (css.take i).flatten.length = i * sz := by
    rw [flat_len (fun cs hc => h cs (List.mem_of_mem_take hc)), List.length_take, Nat.min_eq_left hi]
  rw [List.flatten_append, List.flatten_append, e1, ← l1, List.take_left, List.drop_left]
  simp
end

/-! ### the answer -/
def ltS (x y : ByteArray) : Bool := Op.bytesLess x.toList y.toList
theorem ltS_iff {x y : ByteArray} : ltS x y = true ↔ ltB x.toList y.toList := Iff.rfl
theorem ltS_irr (x : ByteArray) : ltS x x = false := by rw [Bool.eq_false_iff]; exact ltB_irr _
theorem ltS_trans {x y z : ByteArray} (h : ltS x y = true) (k : ltS y z = true) : ltS x z = true := ltB_trans h k
theorem ltS_tri {x y : ByteArray} (h : ltS x y = false) (k : ltS y x = false) : x = y := by
  have := ltB_tri (x := x.toList) (y := y.toList) (by intro hh; rw [show ltS x y = true from hh] at h; cases h) (by intro hh; rw [show ltS y x = true from hh] at k; cases k)
  rw [Lib.toList_data, Lib.toList_data] at this
  exact ByteArray.ext (Array.toList_inj.1 this)
/-- an entry put into a list -/
def insL (l : List Ent) (e : Ent) : List Ent := l.takeWhile (fun x => ltS x.p e.p) ++ e :: (l.dropWhile (fun x => ltS x.p e.p)).filter (fun x => !decide (x.p = e.p))
def putL (l : List Ent) (e : Ent) : List Ent := if treeOkB l = true then (if treeOkB (insL l e) = true then insL l e else l) else []
def putOk (l : List Ent) (e : Ent) : Bool := treeOkB l && treeOkB (insL l e)
theorem entsSz_app (a b : List Ent) : entsSz (a ++ b) = entsSz a + entsSz b := by simp [entsSz]; omega
theorem insL_sz (l : List Ent) (e : Ent) : entsSz (insL l e) ≤ entsSz l + 1 + entSz e := by
  have h1 := entsSz_filter (fun x => !decide (x.p = e.p)) (l.dropWhile (fun x => ltS x.p e.p))
  have h2 : entsSz l = entsSz (l.takeWhile (fun x => ltS x.p e.p)) + entsSz (l.dropWhile (fun x => ltS x.p e.p)) := by rw [← entsSz_app, List.takeWhile_append_dropWhile]
  unfold insL
  rw [entsSz_app, entsSz_cons]
  omega
theorem putL_sz (l : List Ent) (e : Ent) {m : Nat} (h : entsSz l + 1 + entSz e ≤ m) : entsSz (putL l e) ≤ m := by
  unfold putL
  split
  · split
    · exact Nat.le_trans (insL_sz l e) h
    · omega
  · simp [entsSz]
/-- the paths of a right tree rise -/
theorem tree_rise {l : List Ent} (h : treeOkB l = true) : l.Pairwise (fun x y => ltS x.p y.p = true) := by
  have hs : ∀ i, i + 1 < l.length → ltS (enAt l i).p (enAt l (i + 1)).p = true := fun i hi => by
    unfold treeOkB at h
    rw [Bool.and_eq_true, List.all_eq_true] at h
    have := h.2 (i + 1) (List.mem_range.2 hi)
    unfold entryAt at this
    simp only [Bool.and_eq_true, Bool.or_eq_true, decide_eq_true_eq, Nat.add_sub_cancel] at this
    rcases this.1.1.1.2 with h0 | h1
    · omega
    · exact h1
  clear h
  rw [List.pairwise_iff_getElem]
  intro i j hi hj hij
  have : ∀ d, ∀ (hd : i + d + 1 < l.length), ltS (enAt l i).p (enAt l (i + d + 1)).p = true := by
    intro d
    induction d with
    | zero => intro hd; exact hs i hd
    | succ d ih => intro hd; exact ltS_trans (ih (by omega)) (hs (i + d + 1) (by omega))
  have := this (j - i - 1) (by omega)
  rw [show i + (j - i - 1) + 1 = j by omega, enAt_get hi, enAt_get hj] at this
  exact this
theorem tw_all {p : Ent → Bool} {l : List Ent} {k : Nat} (hk : k ≤ l.length) (h : ∀ j, j < k → p (enAt l j) = true) (he : k < l.length → p (enAt l k) = false) : l.take k = l.takeWhile p ∧ l.drop k = l.dropWhile p := by
  induction l generalizing k with
  | nil => simp at hk; subst hk; simp
  | cons x l ih =>
    rcases k with _ | k
    · have h0 : p x = false := he (by simp)
      simp [List.takeWhile_cons, List.dropWhile_cons, h0]
    · have h0 : p x = true := h 0 (by omega)
      have := ih (k := k) (by simp at hk; omega) (fun j hj => h (j + 1) (by omega)) (fun hk2 => he (by simp; omega))
      simp [List.takeWhile_cons, List.dropWhile_cons, h0, this.1, this.2]
theorem tw_filter {l : List Ent} {e : Ent} (h : l.Pairwise (fun x y => ltS x.p y.p = true)) :
    (l.filter (fun x => !decide (x.p = e.p))).takeWhile (fun x => ltS x.p e.p) = l.takeWhile (fun x => ltS x.p e.p) ∧
    (l.filter (fun x => !decide (x.p = e.p))).dropWhile (fun x => ltS x.p e.p) = (l.dropWhile (fun x => ltS x.p e.p)).filter (fun x => !decide (x.p = e.p)) := by
  induction l with
  | nil => simp
  | cons x l ih =>
    rw [List.pairwise_cons] at h
    have ih := ih h.2
    by_cases hx : ltS x.p e.p = true
    · have hne : (!decide (x.p = e.p)) = true := by
        simp only [Bool.not_eq_true', decide_eq_false_iff_not]; intro hh; rw [hh, ltS_irr] at hx; cases hx
      simp only [List.filter_cons, hne, if_true, List.takeWhile_cons, List.dropWhile_cons, hx]
      exact ⟨by rw [ih.1], ih.2⟩
    · have hx' : ltS x.p e.p = false := by simpa using hx
      have hr : ∀ y ∈ l, ltS y.p e.p = false := fun y hy => by
        have h1 := h.1 y hy
        by_cases hc : ltS y.p e.p = true
        · rw [ltS_trans h1 hc] at hx'; cases hx'
        · simpa using hc
      have hf : ∀ y ∈ (x :: l).filter (fun x => !decide (x.p = e.p)), ltS y.p e.p = false := fun y hy => by
        rcases List.mem_cons.1 (List.mem_filter.1 hy).1 with rfl | hy
        · exact hx'
        · exact hr y hy
      have key : ∀ m : List Ent, (∀ y ∈ m, ltS y.p e.p = false) → m.takeWhile (fun x => ltS x.p e.p) = [] ∧ m.dropWhile (fun x => ltS x.p e.p) = m := fun m hm => by
        cases m with
        | nil => simp
        | cons y m => have := hm y (List.mem_cons_self ..); simp [List.takeWhile_cons, List.dropWhile_cons, this]
      have k1 := key _ hf
      have k2 := key (x :: l) (fun y hy => by rcases List.mem_cons.1 hy with rfl | hy; exact hx'; exact hr y hy)
      rw [k1.1, k1.2, k2.1, k2.2]
      exact ⟨rfl, rfl⟩
theorem ins_found {l l3 : List Ent} {e : Ent} {k : Nat} (hr : l.Pairwise (fun x y => ltS x.p y.p = true)) (h3 : l3 = l.filter (fun x => !decide (x.p = e.p))) (hk : k ≤ l3.length)
    (h : ∀ j, j < k → ltS (enAt l3 j).p e.p = true) (he : k < l3.length → ltS (enAt l3 k).p e.p = false) : l3.take k ++ [e] ++ l3.drop k = insL l e := by
  obtain ⟨h1, h2⟩ := tw_all (p := fun x => ltS x.p e.p) hk h he
  obtain ⟨f1, f2⟩ := tw_filter (e := e) hr
  rw [h1, h2, h3, f1, f2]
  unfold insL
  simp

attribute [local irreducible] StrsAt treeOkB
theorem put_fn (B : Nat) (q : ByteArray) : TestFn 45 B q (fun x => decide (x = q)) := by
  intro x A n c w hx hB
  have hlt := cell_lt hB
  have hne : B ≠ w.heap.size := by omega
  have hd := str_beq x q
  go_enter Try.func45, Try.ntmps45
  go_wp2
  go_returns
  exact ⟨rfl, by go_grown⟩

/-- entries and a truth value, the entries in memory of the call's own -/
def EntsBR (l : List Ent) (b : Bool) (w : World) (e : Ending) (w' : World) : Prop :=
  ∃ A n c, e = .returned (.tuple #[.slice A n c, .bool b]) ∧ EntsIn w.heap.size w'.heap.size w' A n c l ∧ Below w.heap.size w w'
theorem own_oneCell {css : List (List Value)} {l : List Ent} {lo hi : Nat} {w : World} (h : SubsIn FEnt lo hi w css l) : ∀ v ∈ css.flatten, v.oneCell' = true := fun v hv => by
  obtain ⟨cs, hcs, hv⟩ := List.mem_flatten.1 hv
  obtain ⟨x, A, n, c, rfl, _⟩ := h.mem hcs
  simp at hv
  rcases hv with rfl | rfl <;> rfl

set_option maxRecDepth 4000 in
set_option maxHeartbeats 1000000 in
theorem treePut_impl (A : Option Addr) (n c : Nat) (l : List Ent) (p : ByteArray) (Ae : Option Addr) (ne ce : Nat) (ch : List ByteArray) (w : World) (h : EntsAt w A n l) (hc : StrsAt w Ae ne ch) (hce : Ae = none → ce = 0) (hs : entsSz l + entSz ⟨p, ch⟩ ≤ 1048576) :
    Calls Try.prog 14 #[.slice A n c, .agg #[.string p, .slice Ae ne ce]] w (EntsBR (putL l ⟨p, ch⟩) (putOk l ⟨p, ch⟩) w) := by
  have HL := Lib.hid h.1
  have hsl : entsSz l ≤ 1048576 := by omega
  have hn := ents_n h hsl
  have al := fun o => (Below.refl w.heap.size w).alloc (Nat.le_refl _) o
  have hne : ne ≤ 1048576 := by have := hc.nn; unfold entSz strsSz at hs; simp only at hs; omega
  obtain ⟨t, ht⟩ : ∃ t, treeOkB l = t := ⟨_, rfl⟩
  have HQ := Lib.hid ht
  cases t
  · have HR := Lib.hid (show putL l ⟨p, ch⟩ = [] by simp [putL, ht])
    have HN := Lib.hid (show putOk l ⟨p, ch⟩ = false by simp [putOk, ht])
    clear ht
    rw [HR.out, HN.out]
    go_enter Try.func14, Try.ntmps14
    go_wp2_with fail
    refine (treeOk_impl _ _ _ l _ (h.keep (al _)) hsl).mono ?_
    rintro e w1 ⟨rfl, hb1⟩; rw [HQ.out]
    go_wp2
    go_returns
    exact ⟨none, 0, 0, rfl, EntsIn.nil, bthen (al _) hb1⟩
  · have HR := Lib.hid (show putL l ⟨p, ch⟩ = if treeOkB (insL l ⟨p, ch⟩) = true then insL l ⟨p, ch⟩ else l by simp [putL, ht])
    have HN := Lib.hid (show putOk l ⟨p, ch⟩ = treeOkB (insL l ⟨p, ch⟩) by simp [putOk, ht])
    have HRI := Lib.hid (tree_rise ht)
    clear ht
    go_enter Try.func14, Try.ntmps14
    go_wp2_with fail
    refine (treeOk_impl _ _ _ l _ (h.keep (al _)) hsl).mono ?_
    rintro e w1 ⟨rfl, hb1⟩; rw [HQ.out]
    have hb1w := bthen (al _) hb1
    have hB1 := keep_cell hb1 (show (w.alloc (.cells #[.string p, .slice Ae ne ce] 33)).cell? ⟨w.heap.size, 0, none⟩ = some (.string p) by simp [go_sem])
    have hC1 := keep_cell hb1 (show (w.alloc (.cells #[.string p, .slice Ae ne ce] 33)).cell? ⟨w.heap.size, 1, none⟩ = some (.slice Ae ne ce) by simp [go_sem])
    go_wp2_with fail
    refine (copyEntries_impl _ _ _ l _ (h.keep hb1w) hsl).mono ?_
    rintro e w2 ⟨A2, n2, c2, rfl, hin2, hb2⟩
    have hb2w := bthen hb1w hb2
    have hB2 := keep_cell hb2 hB1
    have hC2 := keep_cell hb2 hC1
    have hlt := cell_lt hB1
    go_wp2_with fail
    refine (del_any 45 w.heap.size p (fun x => decide (x = p)) (put_fn _ p) (fun _ _ => rfl) _ _ _ l _ _ _ hin2 hsl hB2 (fun hi => by unfold Iv at hi; omega) (Nat.le_refl _)).mono ?_
    rintro e w3 ⟨n3, rfl, hin3, hch3⟩
    have hB3 := ch_cell hch3 hB2 (.inl (by omega))
    have hC3 := ch_cell hch3 hC2 (.inl (by omega))
    have hz1 := hb1w.size
    have hb3 : Below w.heap.size w w3 := hb2w.trans (hch3.below (fun k hk => by unfold Iv at hk; omega) hb2w.size)
    have hin3' := hin3.wide (Nat.le_refl _) hch3.size
    have hz13 : w1.heap.size ≤ w3.heap.size := Nat.le_trans hb2.size hch3.size
    clear hin3 hin2 hB1 hB2 hC1 hC2 hch3 hb2
    obtain ⟨l3, hl3⟩ : ∃ l3, l.filter (fun x => !decide (x.p = p)) = l3 := ⟨_, rfl⟩
    rw [hl3] at hin3'
    have HL3 := Lib.hid hl3
    have hs3 : entsSz l3 ≤ 1048576 := by rw [← hl3]; exact Nat.le_trans (entsSz_filter _ _) hsl
    clear hl3
    have HN3 := Lib.hid hin3'.len
    have hn3 := ents_n hin3'.at_ hs3
    have hat3 := hin3'.at_
    go_wp2
    go_loopw [7] (fun i wr => ∃ k : Nat, k ≤ n3 ∧ i = .int .i64 k ∧ (∀ j, j < k → ltS (enAt l3 j).p p = true) ∧ Below w3.heap.size w3 wr) (fun i _ => n3 - (intOf i).toNat)
    case atStart => exact ⟨0, Nat.zero_le _, rfl, fun j hj => absurd hj (by omega), Below.refl _ _⟩
    case round =>
      obtain ⟨k, hk, rfl, hall, hb⟩ := hrel
      have HA := Lib.hid hall; clear hall
      have hBr := keep_cell hb hB3
      have hCr := keep_cell hb hC3
      by_cases hgo : k < n3 ∧ ltS (enAt l3 k).p p = true
      · obtain ⟨hlt3, hq⟩ := hgo
        obtain ⟨b, off, rfl, hbl, hcc⟩ := hat3.at_ (by omega)
        have hpk := (hb.cell (p := ⟨b, off + k * 2, none⟩) hbl).trans (hcc k hlt3).1
        clear hcc
        have HQ2 := Lib.hid hq
        unfold ltS at hq
        have gd : decide ((k : Int) < n3) = true := by simp; omega
        go_wp2
        go_quiet (fail)
        go_wp2
        refine ⟨⟨k + 1, by omega, by go_num, ?_, below_drewN hb _⟩, by simp [intOf]; omega⟩
        intro j hj
        by_cases e1 : j = k
        · subst e1; exact HQ2.out
        · exact HA.out j (by omega)
      · have HEX := Lib.hid (show k < l3.length → ltS (enAt l3 k).p p = false from fun hk3 => by
          by_cases hq : ltS (enAt l3 k).p p = true
          · exact absurd ⟨by have := HN3.out; omega, hq⟩ hgo
          · simpa using hq)
        clear hgo
        rcases Nat.lt_or_ge k n3 with hlt3 | hge3
        case' inl =>
          obtain ⟨b, off, hA2, hbl, hcc⟩ := hat3.at_ (by omega)
          have hpk := (hb.cell (p := ⟨b, off + k * 2, none⟩) hbl).trans (hcc k hlt3).1
          clear hcc
          have hq := HEX.out (by have := HN3.out; omega)
          unfold ltS at hq
          have gd : decide ((k : Int) < n3) = true := by simp; omega
          subst hA2
          go_wp2
          go_quiet (fail)
          go_wp2
          clear hpk hq gd hbl
          generalize (some (⟨b, off, none⟩ : Addr)) = A2 at *
        case' inr =>
          have gd : decide (k < n3) = false := by simpa using hge3
          go_wp2
          go_quiet (fail)
          go_wp2
          clear gd
        all_goals
          replace hb := below_drewN hb nq
          generalize wr.drewN nq = W at *
          replace hBr := keep_cell hb hB3
          replace hCr := keep_cell hb hC3
          have hbW := bthen hb3 hb
          have hinW := (hin3'.keep hb).wide (Nat.le_refl _) hb.size
          have hcW := hc.keep hbW
          obtain ⟨css, hrowW⟩ := hinW.ex
          have hxl := hrowW.row.own.1
          have hz1W : w1.heap.size ≤ W.heap.size := Nat.le_trans hz13 hb.size
          clear hinW hin3' hB3 hC3
          go_region_held3 (fun w' => w'.cell? ⟨w.heap.size, 0, none⟩ = some (.string p) ∧ w'.cell? ⟨w.heap.size, 1, none⟩ = some (.slice Ae ne ce) ∧ Below w.heap.size w w') (first | exact hnew | (have hh := ‹_ ∧ _›; exact ⟨keep_cell hbw hh.1, keep_cell hbw hh.2.1, bthen hh.2.2 hbw⟩) | (have hh := ‹_ ∧ _›; exact ⟨keep_alloc hh.1 _, keep_alloc hh.2.1 _, hh.2.2.alloc hh.2.2.size _⟩) | exact ⟨hBr, hCr, hbW.drew⟩ | (have hh := ‹_ ∧ _›; exact hh)) (first | (go_at_call 47; refine (copyTexts_impl _ _ _ ch _ (hc.keep (by have hh := ‹_ ∧ _›; exact hh.2.2)) hce (by omega)).mono ?_; rintro e w4 ⟨B, d, rfl, ho4, hbw⟩; have hrow4 := (hrowW.keep elemEnt (Below.refl _ _).drew).keep elemEnt hbw; have hz4 : W.heap.size ≤ w4.heap.size := hbw.size; have hz5 : w1.heap.size ≤ w4.heap.size := Nat.le_trans hz1W hz4) | (go_at_call 46; have hS0 := ‹_ ∧ _›; refine (insert_own w1.heap.size w4.heap.size n3 c2 k A2 css.flatten (.string p) (.slice B ne d) _ (hrow4.keep elemEnt ((Below.refl _ _).alloc (Nat.le_refl _) _)).row.own (by simp; omega) hn3 hk (fun g hg e => by have := (hrow4.row.blk hg).2; omega) (fun j => World.frozen?_alloc_at _ _ _ j rfl) (by simp [go_sem]) (by simp [go_sem]) (own_oneCell hrowW.subs) rfl rfl).mono ?_; rintro e w5 ⟨A5, c5, rfl, hown5, hch5, hob5⟩; have hnew : w5.cell? ⟨w.heap.size, 0, none⟩ = some (.string p) ∧ w5.cell? ⟨w.heap.size, 1, none⟩ = some (.slice Ae ne ce) ∧ Below w.heap.size w w5 := ⟨hch5.cell hS0.1 (fun e => by have := (hrow4.row.blk (blk_of e)).1; unfold Iv at this; omega), hch5.cell hS0.2.1 (fun e => by have := (hrow4.row.blk (blk_of e)).1; unfold Iv at this; omega), hS0.2.2.trans (hch5.below (fun k e => by have := (hrow4.row.blk (blk_of e)).1; unfold Iv at this; omega) hS0.2.2.size)⟩; clear hS0) | fail)
          have al4 := (Below.refl w4.heap.size w4).alloc (Nat.le_refl _) (.cells #[.string p, .slice B ne d] 33)
          have hza := al4.size
          have hWd : W.drew.heap.size = W.heap.size := rfl
          have hr4 := (hrow4.keep elemEnt al4).wide elemEnt (Nat.le_refl _) (Nat.le_trans hz4 hza)
          have hlens := hrow4.subs.lens elemEnt
          have hins := hr4.ins elemEnt (i := k) (cs := [.string p, .slice B ne d]) (x := ⟨p, ch⟩) ⟨B, ne, d, rfl, (ho4.keep al4).wide hz1W hza⟩ (fun cs' h' b h1 h2 => by
            have q1 := (hrow4.subs.leads elemEnt h' h1).1
            have q2 := (ho4.row.blk (blk_of (leads2 h2))).1
            unfold Iv at q1 q2; omega) (fun b h1 h2 => by
            have q1 := (hrow4.row.blk h2).1
            have q2 := (ho4.row.blk (blk_of (leads2 h1))).1
            unfold Iv at q1 q2; omega) hk (by rw [flat_ins hlens (by have := hrow4.subs.len; have := hrow4.nl; omega)]; exact hown5) hch5 hob5 (Nat.le_refl _)
          have HIF := ins_found (e := ⟨p, ch⟩) HRI.out HL3.out.symm (show k ≤ l3.length by have := HN3.out; omega) HA.out HEX.out
          rw [HIF] at hins
          have hinI : EntsIn w1.heap.size w5.heap.size w5 A5 (n3 + 1) c5 (insL l ⟨p, ch⟩) := ⟨⟨_, hins⟩⟩
          have hsI : entsSz (insL l ⟨p, ch⟩) ≤ 1048577 := Nat.le_trans (insL_sz _ _) (by omega)
          have hbw5 := hnew.2.2
          clear hins HIF hlens hr4 hown5 hch5 hob5 hnew hrow4 ho4 hrowW hcW hat3 hbw hBr hCr
          go_wp2_with fail
          refine (treeOk_impl1 _ _ _ (insL l ⟨p, ch⟩) _ hinI.at_ hsI).mono ?_
          rintro e w6 ⟨rfl, hb6⟩
          have hbw6 := bthen hbw5 hb6
          obtain ⟨t, ht⟩ : ∃ t, treeOkB (insL l ⟨p, ch⟩) = t := ⟨_, rfl⟩
          have HQ2 := Lib.hid ht
          have HR2 := HR.out
          rw [ht] at HR2 ⊢
          clear ht
          cases t
          · have HR3 := Lib.hid (show putL l ⟨p, ch⟩ = l by rw [HR2]; simp)
            clear HR2
            go_wp2_with fail
            refine (copyEntries_impl _ _ _ l _ (h.keep hbw6) hsl).mono ?_
            rintro e w7 ⟨A7, n7, c7, rfl, hin7, hb7⟩
            go_wp2
            go_returns
            refine ⟨A7, n7, c7, ?_, by rw [HR3.out]; exact hin7.wide hbw6.size (Nat.le_refl _), bthen hbw6 hb7⟩
            rw [HN.out, HQ2.out]
            rfl
          · have HR3 := Lib.hid (show putL l ⟨p, ch⟩ = insL l ⟨p, ch⟩ by rw [HR2]; simp)
            clear HR2
            go_wp2
            go_returns
            refine ⟨A5, n3 + 1, c5, ?_, by rw [HR3.out]; exact (hinI.keep hb6).wide hz1 hb6.size, hbw6⟩
            rw [HN.out, HQ2.out]
            rfl

end Go.Proofs.Ytbijkdpifnncmaa
