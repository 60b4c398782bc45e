/- Plain law of trees' texts: a text is the text of one tree; the draw of texts. -/
import Derived.Test.YtbijkdpifnncmaaDrawE
import Derived.Test.YtbijkdpifnncmaaSpoil
import Derived.Test.YtbijkdpifnncmaaReadJ
namespace Go.Proofs.Ytbijkdpifnncmaa
open Go.RowKit

theorem chL_inj : ∀ {c c' : List ByteArray} {t t' : ByteArray}, c.length = c'.length → (∀ x ∈ c, x.size = 8) → (∀ x ∈ c', x.size = 8) → chL c ++ t = chL c' ++ t' → c = c' ∧ t = t'
  | [], [], t, t', _, _, _, h => ⟨rfl, by simpa [chL] using h⟩
  | x :: c, y :: c', t, t', hl, h1, h2, h => by
    simp only [chL, ByteArray.append_assoc] at h
    have e1 := cutF_app x (chL c ++ t) (h1 x (List.mem_cons_self ..))
    have e2 := cutF_app y (chL c' ++ t') (h2 y (List.mem_cons_self ..))
    rw [h, e2] at e1
    simp only [Prod.mk.injEq] at e1
    obtain ⟨e3, e4, _⟩ := e1
    obtain ⟨e5, e6⟩ := chL_inj (by simpa using hl) (fun z hz => h1 z (List.mem_cons_of_mem _ hz)) (fun z hz => h2 z (List.mem_cons_of_mem _ hz)) e4.symm
    exact ⟨by rw [e3, e5], e6⟩
  | [], _ :: _, _, _, hl, _, _, _ => by simp at hl
  | _ :: _, [], _, _, hl, _, _, _ => by simp at hl
def okE (l : List Ent) : Prop := ∀ e ∈ l, e.ch.length ≤ 4 ∧ ∀ x ∈ e.ch, x.size = 8
theorem okE_of {l : List Ent} (h : treeOkB l = true) : okE l := fun e he => by
  obtain ⟨k, hk, rfl⟩ := List.mem_iff_getElem.1 he
  have ht := tok_at h hk
  rw [enAt_get hk] at ht
  refine ⟨ht.1, fun x hx => ?_⟩
  obtain ⟨j, hj, rfl⟩ := List.mem_iff_getElem.1 hx
  have := ht.2 j hj
  simpa [sAt, hj] using this
theorem restL_inj : ∀ {l l' : List Ent}, okE l → okE l' → (restL l).size ≤ 562949953421311 → restL l = restL l' → l = l'
  | [], [], _, _, _, _ => rfl
  | [], e :: l', _, _, _, h => by
    have h1 := congrArg ByteArray.size h
    simp only [restL, ByteArray.size_append] at h1
    have h2 := varS_pos e.p.size
    have h3 : ByteArray.empty.size = 0 := rfl
    omega
  | e :: l, [], _, _, _, h => by
    have h1 := congrArg ByteArray.size h
    simp only [restL, ByteArray.size_append] at h1
    have h2 := varS_pos e.p.size
    have h3 : ByteArray.empty.size = 0 := rfl
    omega
  | e :: l, f :: l', h1, h2, hz, h => by
    have hz' : (restL (f :: l')).size ≤ 562949953421311 := by rw [← h]; exact hz
    have hz0 := hz
    simp only [restL, ByteArray.size_append] at hz0 hz'
    have a1 := textF_app (p := e.p) (by omega) (varS e.ch.length ++ (chL e.ch ++ restL l))
    have a2 := textF_app (p := f.p) (by omega) (varS f.ch.length ++ (chL f.ch ++ restL l'))
    simp only [restL] at h
    rw [h, a2] at a1
    simp only [Prod.mk.injEq] at a1
    obtain ⟨e1, e2, _⟩ := a1
    have he := h1 e (List.mem_cons_self ..)
    have hf := h2 f (List.mem_cons_self ..)
    have b1 := manyF_var (n := e.ch.length) (most := 4) he.1 (by omega) (chL e.ch ++ restL l)
    have b2 := manyF_var (n := f.ch.length) (most := 4) hf.1 (by omega) (chL f.ch ++ restL l')
    rw [← e2, b2] at b1
    simp only [Prod.mk.injEq] at b1
    obtain ⟨e3, e4, _⟩ := b1
    obtain ⟨e5, e6⟩ := chL_inj e3 hf.2 he.2 e4
    have e7 := restL_inj (l := l) (l' := l') (fun x hx => h1 x (List.mem_cons_of_mem _ hx)) (fun x hx => h2 x (List.mem_cons_of_mem _ hx)) (by omega) e6.symm
    have e8 : e = f := by
      obtain ⟨p, c⟩ := e
      obtain ⟨p', c'⟩ := f
      simp only at e1 e5
      rw [e1, e5]
    rw [e8, e7]
open Classical in
theorem trB_tree (l : List Ent) : trB (treeText l) = true := by
  cases h : treeOkB l
  · have h0 : treeOkB ([] : List Ent) = true := by decide
    have : treeText l = treeText [] := by unfold treeText; rw [h, h0]; rfl
    rw [this]
    unfold trB; exact decide_eq_true ⟨[], h0, rfl⟩
  · unfold trB; exact decide_eq_true ⟨l, h, rfl⟩
theorem trL_text {s : ByteArray} (h : trB s = true) : treeOkB (trL s) = true ∧ treeText (trL s) = s := by
  have hex : ∃ l, treeOkB l = true ∧ treeText l = s := by unfold trB at h; simpa using h
  unfold trL
  rw [dif_pos hex]
  exact Classical.choose_spec hex
theorem trL_same {l : List Ent} (h : treeOkB l = true) (hz : (treeText l).size ≤ 562949953421311) : trL (treeText l) = l := by
  obtain ⟨h1, h2⟩ := trL_text (trB_tree l)
  have h3 : restL (trL (treeText l)) = restL l := by rw [← treeText_restL h1, h2, treeText_restL h]
  exact restL_inj (okE_of h1) (okE_of h) (by rw [h3, ← treeText_restL h]; exact hz) h3
theorem chL_small : ∀ {c : List ByteArray}, (∀ x ∈ c, x.size ≤ 9) → (chL c).size ≤ 9 * c.length
  | [], _ => by simp [chL]
  | x :: c, h => by
    have h1 := h x (List.mem_cons_self ..)
    have h2 := chL_small (c := c) (fun y hy => h y (List.mem_cons_of_mem _ hy))
    simp only [chL, ByteArray.size_append, List.length_cons]; omega
theorem restL_small : ∀ {l : List Ent}, smallE l → (restL l).size ≤ 60 * l.length
  | [], _ => by simp [restL]
  | e :: l, h => by
    have h1 := h e (List.mem_cons_self ..)
    have h2 := restL_small (l := l) (fun y hy => h y (List.mem_cons_of_mem _ hy))
    have h3 := chL_small h1.2.2
    have h4 := varS_size e.p.size
    have h5 := varS_size e.ch.length
    simp only [restL, ByteArray.size_append, List.length_cons]; omega
theorem treeText_small {l : List Ent} (h : smallE l) (hl : l.length ≤ 11) : (treeText l).size ≤ 660 := by
  cases ht : treeOkB l
  · unfold treeText; rw [ht]; exact Nat.zero_le _
  · rw [treeText_restL ht]
    have := restL_small h
    omega

attribute [local irreducible] EntsAt treeText
theorem drawTreeRead_any (A : Option Addr) (n c : Nat) (f : Nat → Int) (w : World) (h : CodeAt w A n f) (hn : n ≤ 1048576) :
    Calls Try.prog 9 #[.slice A n c] w fun e w' => ∃ s : ByteArray, e = .returned (.string s) ∧ s.size ≤ 700 ∧ Below w.heap.size w w' := by
  go_enter Try.func9, Try.ntmps9
  go_wp2_with fail
  refine (l1New_any _ _ _ _ _ h hn).mono ?_
  rintro e w1 ⟨rfl, hc1, hb1⟩
  have hz1 := hb1.size
  go_wp2_with fail
  refine (l30Some_any _ _ hc1).mono ?_
  rintro e w2 ⟨A0, n0, c0, l, rfl, hr2, hl0, hs0, hc2, hch2⟩
  have hB2 := hb1.trans (hch2.below (B := w.heap.size) (fun k hk => by omega) hz1)
  have hsz := smallE_sz hs0
  have hts := treeText_small hs0 hl0
  go_wp2_with fail
  refine (treeText_spec _ _ _ l _ hr2.at_ (by omega)).mono ?_
  rintro e w3 ⟨rfl, hb3⟩
  have hc3 := hc2.keep hb3
  have hB3 := bthen hB2 hb3
  generalize treeText l = s at *
  clear hr2 hc2 hch2 hc1 hB2
  go_wp2_with fail
  refine (l1Once_any _ _ _ hc3 (by omega)).mono ?_
  rintro e w4 ⟨b, rfl, hc4, hch4⟩
  have hB4 := hB3.trans (hch4.below (B := w.heap.size) (fun k hk => by omega) hB3.size)
  cases b
  · go_wp2
    go_returns
    exact ⟨s, rfl, by omega, hB4⟩
  · go_wp2_with fail
    refine (l1Spoil_any _ s _ hc4 (by omega)).mono ?_
    rintro e w5 ⟨r, rfl, hr, hc5, hch5⟩
    go_wp2
    go_returns
    exact ⟨r, rfl, by omega, hB4.trans (hch5.below (B := w.heap.size) (fun k hk => by omega) hB4.size)⟩
end Go.Proofs.Ytbijkdpifnncmaa
