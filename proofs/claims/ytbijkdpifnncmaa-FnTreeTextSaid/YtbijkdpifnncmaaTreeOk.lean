/- Contract of the program's TreeOk. -/
import Derived.Test.YtbijkdpifnncmaaUnder
import Derived.Test.YtbijkdpifnncmaaGrow
import Derived.Deep.RegionWith
namespace Go.Proofs.Ytbijkdpifnncmaa
open Go.RowKit
attribute [local go_sem] Grow.cell Grow.frozen
attribute [local irreducible] pathOkB underB beginsB all8 StrsAt

theorem tree_fn (x ep : ByteArray) (v u : Value) (hv : ∃ A n c, v = .slice A n c) (B : Nat) (w : World) (hB : w.cell? ⟨B, 0, none⟩ = some (.string ep)) (hx : x.size ≤ 1048704) (he : ep.size ≤ 1048704) :
    Calls Try.prog 63 #[.agg #[.string x, v], .pointer (some ⟨B, 0, none⟩)] w fun r w' => r = .returned (.bool (underB x ep)) ∧ Below w.heap.size w w' := by
  obtain ⟨A, n, c, rfl⟩ := hv
  have hlt := cell_lt hB
  have hne : B ≠ w.heap.size := by omega
  have HS := Lib.hid (slash_size ep)
  have HB := Lib.hid (begins_slash x ep)
  have q1 : ¬ 9223372036854775807 < ep.size + 1 := by omega
  go_enter Try.func63, Try.ntmps63
  go_wp2_with fail
  refine (begins_any x (slash ep) _ (by omega) (by have := HS.out; omega)).mono ?_
  rintro r w' ⟨rfl, rfl⟩
  go_wp2
  go_returns
  exact ⟨by rw [HB.out]; rfl, by go_grown⟩

def underAny (l : List Ent) (p : ByteArray) (k : Nat) : Bool := (List.range k).any (fun i => underB (enAt l i).p p)
theorem underAny_yes {l : List Ent} {e : ByteArray} {k i : Nat} (hi : i < k) (h : underB (enAt l i).p e = true) : underAny l e k = true := by
  unfold underAny; rw [List.any_eq_true]; exact ⟨i, List.mem_range.2 hi, h⟩
theorem underAny_no {l : List Ent} {e : ByteArray} {k : Nat} (h : ∀ i, i < k → underB (enAt l i).p e = false) : underAny l e k = false := by
  unfold underAny; rw [List.any_eq_false]; intro i hi; rw [h i (List.mem_range.1 hi)]; simp
def IdxE (b : Bool) (w : World) (e : Ending) (w' : World) : Prop := ∃ i : Int, e = .returned (.int .i64 i) ∧ decide (0 ≤ i) = b ∧ Below w.heap.size w w'
theorem tree_idx (A : Option Addr) (n c : Nat) (l : List Ent) (ep : ByteArray) (B : Nat) (w : World) (h : EntsAt w A n l) (hs : entsSz l ≤ 1048704) (hB : w.cell? ⟨B, 0, none⟩ = some (.string ep)) (he : ep.size ≤ 1048704) :
    Calls Try.prog 71 #[.slice A n c, .func (.func 63) #[] #[.pointer (some ⟨B, 0, none⟩)]] w (IdxE (underAny l ep n) w) := by
  have hn := ents_n h hs
  have hel := ents_el hs
  go_enter Try.func71, Try.ntmps71
  go_wp2
  go_loopw [8] (fun i wr => ∃ k : Nat, k ≤ n ∧ i = .int .i64 k ∧ (∀ j, j < k → underB (enAt l j).p ep = false) ∧ Below w.heap.size w wr) (fun i _ => n - (intOf i).toNat)
  case atStart => exact ⟨0, Nat.zero_le _, rfl, fun j hj => absurd hj (by omega), Below.refl _ _⟩
  case round =>
    obtain ⟨k, hk, rfl, hx, hb⟩ := hrel
    have HX := Lib.hid hx; clear hx
    by_cases hlt : k < n
    · obtain ⟨b, off, rfl, hbl, hc⟩ := h.at_ (by omega)
      obtain ⟨hp0, A', n', c', hc0, hat, _⟩ := hc k hlt
      have hpk := (hb.cell (p := ⟨b, off + k * 2, none⟩) hbl).trans hp0
      have hck := (hb.cell (p := ⟨b, off + k * 2 + 1, none⟩) hbl).trans hc0
      clear hc hc0 hp0
      have hek := hel k
      unfold entSz at hek
      go_wp2_with fail
      refine (tree_fn (enAt l k).p ep _ (.bool true) ⟨A', n', c', rfl⟩ B _ (keep_cell hb hB) (by omega) he).mono ?_
      rintro r w1 ⟨rfl, hb1⟩
      obtain ⟨q, hq⟩ : ∃ q, underB (enAt l k).p ep = q := ⟨_, rfl⟩
      have HQ := Lib.hid hq
      rw [hq]
      clear hq
      cases q
      · go_wp2
        refine ⟨⟨k + 1, by omega, by go_num, ?_, bthen hb hb1⟩, by simp [intOf]; omega⟩
        intro j hj
        by_cases e1 : j = k
        · subst e1; exact HQ.out
        · exact HX.out j (by omega)
      · go_wp2
        go_returns
        exact ⟨k, rfl, by rw [underAny_yes hlt HQ.out]; simp, bthen hb hb1⟩
    · go_wp2
      go_returns
      obtain rfl : k = n := by omega
      exact ⟨-1, rfl, by rw [underAny_no HX.out]; rfl, hb⟩
theorem tree_contains (A : Option Addr) (n c : Nat) (l : List Ent) (ep : ByteArray) (B : Nat) (w : World) (h : EntsAt w A n l) (hs : entsSz l ≤ 1048704) (hB : w.cell? ⟨B, 0, none⟩ = some (.string ep)) (he : ep.size ≤ 1048704) :
    Calls Try.prog 62 #[.slice A n c, .func (.func 63) #[] #[.pointer (some ⟨B, 0, none⟩)]] w fun r w' => r = .returned (.bool (underAny l ep n)) ∧ Below w.heap.size w w' := by
  go_enter Try.func62, Try.ntmps62
  go_wp2_with fail
  refine (tree_idx A n c l ep B _ h hs hB he).mono ?_
  rintro r w' ⟨i, rfl, hi, hb⟩
  have HI := Lib.hid hi; clear hi
  go_wp2
  go_returns
  exact ⟨by rw [HI.out]; rfl, hb⟩

/-- is entry i right? -/
def entryAt (l : List Ent) (i : Nat) : Bool :=
  pathOkB (enAt l i).p && (decide (i = 0) || Op.bytesLess (enAt l (i - 1)).p.toList (enAt l i).p.toList) && decide ((enAt l i).ch.length ≤ 4) && all8 (enAt l i).ch && !underAny l (enAt l i).p l.length
def treeOkB (l : List Ent) : Bool := decide (l.length ≤ 12) && (List.range l.length).all (entryAt l)
theorem treeOkB_no {l : List Ent} {k : Nat} (hk : k < l.length) (h : entryAt l k = false) : treeOkB l = false := by
  unfold treeOkB; rw [all_no hk h, Bool.and_false]
theorem treeOkB_all {l : List Ent} (h : ∀ j, j < l.length → entryAt l j = true) : treeOkB l = decide (l.length ≤ 12) := by
  unfold treeOkB; rw [all_yes h, Bool.and_true]

theorem treeOk_impl2 (A : Option Addr) (n c : Nat) (l : List Ent) (w : World) (h : EntsAt w A n l) (hs : entsSz l ≤ 1048704) :
    Calls Try.prog 27 #[.slice A n c] w fun e w' => e = .returned (.bool (treeOkB l)) ∧ Below w.heap.size w w' := by
  have HL := Lib.hid h.1.symm
  have hn := ents_n h hs
  have hel := ents_el hs
  go_enter Try.func27, Try.ntmps27
  go_wp2
  go_loopw [7] (fun i wr => ∃ k : Nat, k ≤ n ∧ i = .int .i64 k ∧ (∀ j, j < k → entryAt l j = true) ∧ Below w.heap.size w wr) (fun i _ => n - (intOf i).toNat)
  case atStart => exact ⟨0, Nat.zero_le _, rfl, fun j hj => absurd hj (by omega), Below.refl _ _⟩
  case round =>
    obtain ⟨k, hk, rfl, hall, hb⟩ := hrel
    have HA := Lib.hid hall; clear hall
    by_cases hlt : k < n
    · obtain ⟨b, off, rfl, hbl, hc⟩ := h.at_ (by omega)
      obtain ⟨hp0, A', n', c', hc0, hat, _⟩ := hc k hlt
      have hpk := (hb.cell (p := ⟨b, off + k * 2, none⟩) hbl).trans hp0
      have hck := (hb.cell (p := ⟨b, off + k * 2 + 1, none⟩) hbl).trans hc0
      have hcp : 0 < k → w.cell? ⟨b, off + (k - 1) * 2, none⟩ = some (.string (enAt l (k - 1)).p) := fun _ => (hc (k - 1) (by omega)).1
      clear hc hc0 hp0
      have hek := hel k
      unfold entSz at hek
      have hbr : b < wr.heap.size := Nat.lt_of_lt_of_le hbl hb.size
      have hbr1 : b < wr.heap.size + 1 := by omega
      have hbn := hat.nn
      have al := (Below.refl wr.heap.size wr).alloc (Nat.le_refl _) (.cells #[.string (enAt l k).p, .slice A' n' c'] 33)
      have hatl := hat.keep (bthen hb al)
      have hBl := bthen hb al
      obtain ⟨q1, hq1⟩ : ∃ q, pathOkB (enAt l k).p = q := ⟨_, rfl⟩
      have Q1 := Lib.hid hq1
      have HN := Lib.hid hbn
      have hn4 : n' ≤ 1048704 := by have := HN.out; unfold strsSz at hek; omega
      clear hbn
      cases q1
      · have HE := Lib.hid (show entryAt l k = false by unfold entryAt; rw [hq1]; simp)
        clear hq1 hcp
        go_wp2
        refine wp_region_grow (by kernel_rfl) (by kernel_rfl) ?_
        repeat (go_big_quiet_step ((go_at_call 23; exact grow_of (known Q1.out (pathOk_impl _ _ (by omega))))))
        refine wpQuiet_nil ?_
        intro _ hw'
        obtain ⟨⟨w1, hb1⟩, hw''⟩ := hw'
        change _ = w1 at hw''
        subst hw''
        go_wp2
        go_returns
        exact ⟨ret_bool (treeOkB_no (k := k) (by have := HL.out; omega) HE.out).symm, bthen hBl hb1⟩
      · obtain ⟨q2, hq2⟩ : ∃ q, all8 (enAt l k).ch = q := ⟨_, rfl⟩
        have Q2 := Lib.hid hq2
        obtain ⟨q3, hq3⟩ : ∃ q, underAny l (enAt l k).p l.length = q := ⟨_, rfl⟩
        have Q3 := Lib.hid (show underAny l (enAt l k).p n = q3 by rw [← HL.out]; exact hq3)
        have HEQ := Lib.hid (show entryAt l k = ((decide (k = 0) || Op.bytesLess (enAt l (k - 1)).p.toList (enAt l k).p.toList) && decide (n' ≤ 4) && q2 && !q3) by
          unfold entryAt; rw [hq1, hq2, hq3, HN.out]; simp)
        clear hq1 hq2 hq3
        by_cases hk0 : 0 < k
        · have hcpk := (hb.cell (p := ⟨b, off + (k - 1) * 2, none⟩) hbl).trans (hcp hk0)
          clear hcp
          obtain ⟨q, hq⟩ : ∃ q, Op.bytesLess (enAt l (k - 1)).p.toList (enAt l k).p.toList = q := ⟨_, rfl⟩
          cases q
          · have HE := Lib.hid (show entryAt l k = false by rw [HEQ.out, hq]; simp; omega)
            go_wp2
            refine wp_region_grow (by kernel_rfl) (by kernel_rfl) ?_
            repeat (go_big_quiet_step (first | (go_at_call 23; exact grow_of (known Q1.out (pathOk_impl _ _ (by omega)))) | (go_at_call 61; exact grow_same (known Q2.out (areChunks_any _ _ _ _ _ (hatl.keep (Grow.below _)) (by omega))))))
            refine wpQuiet_nil ?_
            intro _ hw'
            obtain ⟨⟨w1, hb1⟩, hw''⟩ := hw'
            change _ = w1 at hw''
            subst hw''
            go_wp2
            go_returns
            exact ⟨ret_bool (treeOkB_no (k := k) (by have := HL.out; omega) HE.out).symm, bthen hBl hb1⟩
          · have HO := Lib.hid hq
            by_cases h4 : n' ≤ 4
            · have g4 : decide ((4 : Int) < n') = false := by simp; omega
              cases q2
              · have HE := Lib.hid (show entryAt l k = false by rw [HEQ.out]; simp)
                go_wp2
                refine wp_region_grow (by kernel_rfl) (by kernel_rfl) ?_
                repeat (go_big_quiet_step (first | (go_at_call 23; exact grow_of (known Q1.out (pathOk_impl _ _ (by omega)))) | (go_at_call 61; exact grow_same (known Q2.out (areChunks_any _ _ _ _ _ (hatl.keep (Grow.below _)) (by omega))))))
                refine wpQuiet_nil ?_
                intro _ hw'
                obtain ⟨⟨w1, hb1⟩, hw''⟩ := hw'
                change _ = w1 at hw''
                subst hw''
                go_wp2
                go_returns
                exact ⟨ret_bool (treeOkB_no (k := k) (by have := HL.out; omega) HE.out).symm, bthen hBl hb1⟩
              · go_wp2
                refine wp_region_grow (by kernel_rfl) (by kernel_rfl) ?_
                repeat (go_big_quiet_step (first | (go_at_call 23; exact grow_of (known Q1.out (pathOk_impl _ _ (by omega)))) | (go_at_call 61; exact grow_same (known Q2.out (areChunks_any _ _ _ _ _ (hatl.keep (Grow.below _)) (by omega))))))
                refine wpQuiet_nil ?_
                intro _ hw'
                obtain ⟨⟨w1, hb1⟩, hw''⟩ := hw'
                change _ = w1 at hw''
                subst hw''
                have hbx := bthen al hb1
                go_wp2_with fail
                refine (tree_contains _ _ _ l (enAt l k).p _ _ (h.keep (bthen hb hbx)) hs ((Grow.mk' hb1).cell_of (by simp) (by simp [go_sem])) (by omega)).mono ?_
                rintro r w2 ⟨rfl, hb2⟩
                rw [Q3.out]
                have HE := Lib.hid (show entryAt l k = !q3 by rw [HEQ.out]; simp [h4, HO.out])
                cases q3
                · go_wp2
                  exact ⟨⟨k + 1, by omega, by go_num, upto_succ HA.out HE.out, bthen (bthen hb hbx) hb2⟩, by simp [intOf]; omega⟩
                · go_wp2
                  go_returns
                  exact ⟨ret_bool (treeOkB_no (k := k) (by have := HL.out; omega) HE.out).symm, bthen (bthen hb hbx) hb2⟩
            · have g4 : decide ((4 : Int) < n') = true := by simp; omega
              have HE := Lib.hid (show entryAt l k = false by rw [HEQ.out]; simp [h4])
              go_wp2
              refine wp_region_grow (by kernel_rfl) (by kernel_rfl) ?_
              repeat (go_big_quiet_step (first | (go_at_call 23; exact grow_of (known Q1.out (pathOk_impl _ _ (by omega)))) | (go_at_call 61; exact grow_same (known Q2.out (areChunks_any _ _ _ _ _ (hatl.keep (Grow.below _)) (by omega))))))
              refine wpQuiet_nil ?_
              intro _ hw'
              obtain ⟨⟨w1, hb1⟩, hw''⟩ := hw'
              change _ = w1 at hw''
              subst hw''
              go_wp2
              go_returns
              exact ⟨ret_bool (treeOkB_no (k := k) (by have := HL.out; omega) HE.out).symm, bthen hBl hb1⟩
        · clear hcp
          have gk : decide (0 < k) = false := by simpa using hk0
          have h0 : k = 0 := by omega
          have HO := Lib.hid h0; clear h0
          by_cases h4 : n' ≤ 4
          · have g4 : decide ((4 : Int) < n') = false := by simp; omega
            cases q2
            · have HE := Lib.hid (show entryAt l k = false by rw [HEQ.out]; simp)
              go_wp2
              refine wp_region_grow (by kernel_rfl) (by kernel_rfl) ?_
              repeat (go_big_quiet_step (first | (go_at_call 23; exact grow_of (known Q1.out (pathOk_impl _ _ (by omega)))) | (go_at_call 61; exact grow_same (known Q2.out (areChunks_any _ _ _ _ _ (hatl.keep (Grow.below _)) (by omega))))))
              refine wpQuiet_nil ?_
              intro _ hw'
              obtain ⟨⟨w1, hb1⟩, hw''⟩ := hw'
              change _ = w1 at hw''
              subst hw''
              go_wp2
              go_returns
              exact ⟨ret_bool (treeOkB_no (k := k) (by have := HL.out; omega) HE.out).symm, bthen hBl hb1⟩
            · go_wp2
              refine wp_region_grow (by kernel_rfl) (by kernel_rfl) ?_
              repeat (go_big_quiet_step (first | (go_at_call 23; exact grow_of (known Q1.out (pathOk_impl _ _ (by omega)))) | (go_at_call 61; exact grow_same (known Q2.out (areChunks_any _ _ _ _ _ (hatl.keep (Grow.below _)) (by omega))))))
              refine wpQuiet_nil ?_
              intro _ hw'
              obtain ⟨⟨w1, hb1⟩, hw''⟩ := hw'
              change _ = w1 at hw''
              subst hw''
              have hbx := bthen al hb1
              go_wp2_with fail
              refine (tree_contains _ _ _ l (enAt l k).p _ _ (h.keep (bthen hb hbx)) hs ((Grow.mk' hb1).cell_of (by simp) (by simp [go_sem])) (by omega)).mono ?_
              rintro r w2 ⟨rfl, hb2⟩
              rw [Q3.out]
              have HE := Lib.hid (show entryAt l k = !q3 by rw [HEQ.out]; simp [h4, HO.out])
              cases q3
              · go_wp2
                exact ⟨⟨k + 1, by omega, by go_num, upto_succ HA.out HE.out, bthen (bthen hb hbx) hb2⟩, by simp [intOf]; omega⟩
              · go_wp2
                go_returns
                exact ⟨ret_bool (treeOkB_no (k := k) (by have := HL.out; omega) HE.out).symm, bthen (bthen hb hbx) hb2⟩
          · have g4 : decide ((4 : Int) < n') = true := by simp; omega
            have HE := Lib.hid (show entryAt l k = false by rw [HEQ.out]; simp [h4])
            go_wp2
            refine wp_region_grow (by kernel_rfl) (by kernel_rfl) ?_
            repeat (go_big_quiet_step (first | (go_at_call 23; exact grow_of (known Q1.out (pathOk_impl _ _ (by omega)))) | (go_at_call 61; exact grow_same (known Q2.out (areChunks_any _ _ _ _ _ (hatl.keep (Grow.below _)) (by omega))))))
            refine wpQuiet_nil ?_
            intro _ hw'
            obtain ⟨⟨w1, hb1⟩, hw''⟩ := hw'
            change _ = w1 at hw''
            subst hw''
            go_wp2
            go_returns
            exact ⟨ret_bool (treeOkB_no (k := k) (by have := HL.out; omega) HE.out).symm, bthen hBl hb1⟩
    · go_wp2
      go_returns
      exact ⟨ret_bool (by rw [treeOkB_all (fun j hj => HA.out j (by have := HL.out; omega)), HL.out]; rw [Bool.eq_iff_iff]; simp; omega), hb⟩
theorem treeOk_impl1 (A : Option Addr) (n c : Nat) (l : List Ent) (w : World) (h : EntsAt w A n l) (hs : entsSz l ≤ 1048577) :
    Calls Try.prog 27 #[.slice A n c] w fun e w' => e = .returned (.bool (treeOkB l)) ∧ Below w.heap.size w w' := treeOk_impl2 A n c l w h (by omega)
theorem treeOk_impl (A : Option Addr) (n c : Nat) (l : List Ent) (w : World) (h : EntsAt w A n l) (hs : entsSz l ≤ 1048576) :
    Calls Try.prog 27 #[.slice A n c] w fun e w' => e = .returned (.bool (treeOkB l)) ∧ Below w.heap.size w w' := treeOk_impl1 A n c l w h (by omega)
end Go.Proofs.Ytbijkdpifnncmaa
