/- Contracts and lemmas: ReadJ, TreeRead, EntRow, DrawE. -/
import Derived.Test.YtbijkdpifnncmaaJ5
import Derived.Test.YtbijkdpifnncmaaJ2
import Derived.Test.YtbijkdpifnncmaaJ0
/- Plain laws of reading entries: what the reader's steps give on a text of entries. -/
namespace Go.Proofs.Ytbijkdpifnncmaa

theorem numF_var {n : Nat} (hn : n ≤ 562949953421311) (t : ByteArray) : numF (varS n ++ t, false) = (n, (t, false)) := by
  have hp := varS_pos n
  have h : numF (varS n ++ t, false) = if false = true ∨ (rvF (varS n ++ t)).2 = 0 then (0, (varS n ++ t, true)) else ((rvF (varS n ++ t)).1, ((varS n ++ t).extract (rvF (varS n ++ t)).2 (varS n ++ t).size, false)) := rfl
  rw [h, rvF_var hn t, if_neg (fun h => h.elim (fun h => by cases h) (fun h => by replace h : (varS n).size = 0 := h; omega)), ext_right]
theorem cutF_app (a t : ByteArray) {n : Nat} (h : a.size = n) : cutF (a ++ t, false) n = (a, (t, false)) := by
  subst h
  have h : cutF (a ++ t, false) a.size = if false = true ∨ ¬ a.size ≤ (a ++ t).size then (.empty, (a ++ t, true)) else ((a ++ t).extract 0 a.size, ((a ++ t).extract a.size (a ++ t).size, false)) := rfl
  rw [h, if_neg (by rw [ByteArray.size_append]; simp), ext_left, ext_right]
theorem textF_app {p : ByteArray} (hp : p.size ≤ 562949953421311) (t : ByteArray) : textF (varS p.size ++ (p ++ t), false) = (p, (t, false)) := by
  unfold textF; rw [numF_var hp]; exact cutF_app p t rfl
theorem manyF_var {n most : Nat} (hn : n ≤ most) (hm : most ≤ 562949953421311) (t : ByteArray) : manyF (varS n ++ t, false) most = (n, (t, false)) := by
  unfold manyF; rw [numF_var (by omega), if_neg (by simp; omega)]
theorem cutF_cost (x : Sc) (n : Nat) : (cutF x n).1.size + (cutF x n).2.1.size ≤ x.1.size := by
  unfold cutF
  split
  · simp
  · show (x.1.extract 0 n).size + (x.1.extract n x.1.size).size ≤ _
    rw [ByteArray.size_extract, ByteArray.size_extract]; omega
theorem textF_cost (x : Sc) : (textF x).1.size + (textF x).2.1.size ≤ x.1.size := by
  unfold textF
  have h1 := cutF_cost (numF x).2 (numF x).1
  have h2 := (numF_le x).2
  omega
theorem manyF_le (x : Sc) (most : Nat) : (manyF x most).1 ≤ most ∧ (manyF x most).2.1.size ≤ x.1.size := by
  have h2 := (numF_le x).2
  unfold manyF
  split
  · exact ⟨Nat.zero_le _, h2⟩
  · exact ⟨by simp only; omega, h2⟩
theorem strsSz_snoc (l : List ByteArray) (c : ByteArray) : strsSz (l ++ [c]) = strsSz l + 1 + c.size := by
  unfold strsSz; simp; omega
theorem entsSz_snoc (l : List Ent) (e : Ent) : entsSz (l ++ [e]) = entsSz l + 1 + entSz e := by
  unfold entsSz; simp; omega

/-- entries and the reader's state agree with whatever the text is the text of -/
def JR (s : ByteArray) (l : List Ent) (x : Sc) : Prop := ∀ l0, treeOkB l0 = true → treeText l0 = s → ∃ k, k ≤ l0.length ∧ l = l0.take k ∧ x = (restL (l0.drop k), false)
/-- likewise within an entry: its path, its number of chunks, the chunks so far -/
def JI (s : ByteArray) (l : List Ent) (p : ByteArray) (n : Nat) (cs : List ByteArray) (x : Sc) : Prop :=
  ∀ l0, treeOkB l0 = true → treeText l0 = s → ∃ k j, k < l0.length ∧ l = l0.take k ∧ p = (enAt l0 k).p ∧ n = (enAt l0 k).ch.length ∧ j ≤ n ∧ cs = (enAt l0 k).ch.take j ∧ x = (chL ((enAt l0 k).ch.drop j) ++ restL (l0.drop (k + 1)), false)
theorem tok_at {l : List Ent} (h : treeOkB l = true) {k : Nat} (hk : k < l.length) : (enAt l k).ch.length ≤ 4 ∧ ∀ j, j < (enAt l k).ch.length → (sAt (enAt l k).ch j).size = 8 := by
  unfold treeOkB at h
  simp only [Bool.and_eq_true, decide_eq_true_eq, List.all_eq_true, List.mem_range] at h
  have h1 := h.2 k hk
  unfold entryAt at h1
  simp only [Bool.and_eq_true, decide_eq_true_eq] at h1
  refine ⟨h1.1.1.2, fun j hj => ?_⟩
  have h2 := h1.1.2
  unfold all8 at h2
  simp only [List.all_eq_true, List.mem_range, decide_eq_true_eq] at h2
  exact h2 j hj
theorem tok_len {l : List Ent} (h : treeOkB l = true) : l.length ≤ 12 := by
  unfold treeOkB at h; simp only [Bool.and_eq_true, decide_eq_true_eq] at h; exact h.1
theorem JR_start (s : ByteArray) : JR s [] (s, false) := fun l0 h1 h2 => ⟨0, Nat.zero_le _, by simp, by rw [← h2, treeText_restL h1, List.drop_zero]⟩
theorem restL_nil {l : List Ent} {k : Nat} (hk : k ≤ l.length) (h : restL (l.drop k) = ByteArray.empty) : k = l.length := by
  rcases Nat.lt_or_ge k l.length with hlt | hge
  · have h1 := restL_drop hlt
    rw [h] at h1
    have h2 := congrArg ByteArray.size h1
    rw [ByteArray.size_append] at h2
    have h3 := varS_pos (enAt l k).p.size
    have h4 : ByteArray.empty.size = 0 := rfl
    omega
  · omega
theorem JR_step {s : ByteArray} {l : List Ent} {x : Sc} (h : JR s l x) (hx : x.1 ≠ ByteArray.empty) (hz : x.1.size ≤ 562949953421311) : JI s l (textF x).1 (manyF (textF x).2 4).1 [] (manyF (textF x).2 4).2 := by
  intro l0 h1 h2
  obtain ⟨k, hk, e1, e2⟩ := h l0 h1 h2
  have hlt : k < l0.length := by
    rcases Nat.lt_or_ge k l0.length with hlt | hge
    · exact hlt
    · exfalso; apply hx; rw [e2]; show restL (l0.drop k) = _; rw [List.drop_eq_nil_of_le hge]; rfl
  have h3 := restL_drop hlt
  have hps : (enAt l0 k).p.size ≤ 562949953421311 := by
    rw [e2] at hz
    have : x.1 = restL (l0.drop k) := by rw [e2]
    have h4 := congrArg ByteArray.size h3
    simp only [ByteArray.size_append] at h4
    simp only at hz
    omega
  have ht := tok_at h1 hlt
  rw [e2, h3, textF_app hps]
  simp only
  rw [manyF_var ht.1 (by omega)]
  exact ⟨k, 0, hlt, e1, rfl, rfl, Nat.zero_le _, by simp, by simp⟩
theorem JI_step {s : ByteArray} {l : List Ent} {p : ByteArray} {n : Nat} {cs : List ByteArray} {x : Sc} (h : JI s l p n cs x) (hn : cs.length < n) : JI s l p n (cs ++ [(cutF x 8).1]) (cutF x 8).2 := by
  intro l0 h1 h2
  obtain ⟨k, j, hk, e1, e2, e3, hj, e4, e5⟩ := h l0 h1 h2
  have hl : cs.length = j := by rw [e4, List.length_take]; omega
  have hjl : j < (enAt l0 k).ch.length := by omega
  have h8 := (tok_at h1 hk).2 j hjl
  have hc := chL_drop hjl
  rw [e5, hc, ByteArray.append_assoc, cutF_app _ _ h8]
  refine ⟨k, j + 1, hk, e1, e2, e3, by omega, ?_, rfl⟩
  rw [e4, List.take_succ_eq_append_getElem hjl]
  simp [sAt, hjl]
theorem JI_end {s : ByteArray} {l : List Ent} {p : ByteArray} {n : Nat} {cs : List ByteArray} {x : Sc} (h : JI s l p n cs x) (hn : cs.length = n) : JR s (l ++ [⟨p, cs⟩]) x := by
  intro l0 h1 h2
  obtain ⟨k, j, hk, e1, e2, e3, hj, e4, e5⟩ := h l0 h1 h2
  have hl : cs.length = j := by rw [e4, List.length_take]; omega
  have hjl : j = (enAt l0 k).ch.length := by omega
  have e6 : cs = (enAt l0 k).ch := by rw [e4, hjl, List.take_length]
  refine ⟨k + 1, hk, ?_, ?_⟩
  · rw [List.take_succ_eq_append_getElem hk, e1, e2, e6, ← enAt_get hk]
  · rw [e5, hjl, List.drop_length]
    simp [chL]
theorem JR_end {s : ByteArray} {l : List Ent} {x : Sc} (h : JR s l x) (hx : x.1 = ByteArray.empty ∨ x.2 = true ∨ 12 < l.length) : ∀ l0, treeOkB l0 = true → treeText l0 = s → l = l0 ∧ x.2 = false := by
  intro l0 h1 h2
  obtain ⟨k, hk, e1, e2⟩ := h l0 h1 h2
  have hl : l.length = k := by rw [e1, List.length_take]; omega
  have hb : x.2 = false := by rw [e2]
  have h12 := tok_len h1
  rcases hx with hx | hx | hx
  · have : k = l0.length := restL_nil hk (by rw [e2] at hx; exact hx)
    exact ⟨by rw [e1, this, List.take_length], hb⟩
  · rw [hb] at hx; cases hx
  · omega

open Classical in
/-- the entries that a text spells, and whether there are any -/
noncomputable def trL (s : ByteArray) : List Ent := if h : ∃ l, treeOkB l = true ∧ treeText l = s then Classical.choose h else []
open Classical in
noncomputable def trB (s : ByteArray) : Bool := decide (∃ l, treeOkB l = true ∧ treeText l = s)
theorem tr_yes {s : ByteArray} {l : List Ent} (h1 : treeOkB l = true) (h2 : treeText l = s) (hu : ∀ l0, treeOkB l0 = true → treeText l0 = s → l = l0) : trL s = l ∧ trB s = true := by
  have hex : ∃ l, treeOkB l = true ∧ treeText l = s := ⟨l, h1, h2⟩
  unfold trL trB
  rw [dif_pos hex]
  have hc := Classical.choose_spec hex
  exact ⟨(hu _ hc.1 hc.2).symm, by simpa using hex⟩
theorem tr_no {s : ByteArray} (h : ∀ l, treeOkB l = true → treeText l = s → False) : trL s = [] ∧ trB s = false := by
  have hex : ¬ ∃ l, treeOkB l = true ∧ treeText l = s := fun ⟨l, h1, h2⟩ => h l h1 h2
  unfold trL trB
  rw [dif_neg hex]
  exact ⟨rfl, by simpa using hex⟩
theorem chL_size (l : List ByteArray) : (chL l).size = (l.map ByteArray.size).sum := by
  induction l with
  | nil => rfl
  | cons c l ih => simp only [chL, ByteArray.size_append, List.map_cons, List.sum_cons, ih]
theorem restL_size (l : List Ent) (h : ∀ k, k < l.length → (enAt l k).ch.length ≤ 4) : entsSz l ≤ (restL l).size + 4 * l.length := by
  induction l with
  | nil => simp [entsSz]
  | cons e l ih =>
    have h0 := h 0 (by simp)
    have e0 : enAt (e :: l) 0 = e := rfl
    rw [e0] at h0
    have ih := ih (fun k hk => by have := h (k + 1) (by simpa using hk); simpa [enAt] using this)
    have hz : (restL (e :: l)).size = (varS e.p.size).size + (e.p.size + ((varS e.ch.length).size + ((chL e.ch).size + (restL l).size))) := by
      simp only [restL, ByteArray.size_append]
    have hv1 := varS_pos e.p.size
    have hv2 := varS_pos e.ch.length
    rw [hz, chL_size]
    unfold entsSz at ih ⊢
    simp only [List.length_cons, List.map_cons, List.sum_cons]
    have e1 : entSz e = e.p.size + (e.ch.length + (e.ch.map ByteArray.size).sum) := rfl
    rw [e1]
    omega
theorem trL_sz {s : ByteArray} (hs : s.size ≤ 1048576) : entsSz (trL s) ≤ 1048624 := by
  unfold trL
  split
  · rename_i h
    have hc := Classical.choose_spec h
    have h1 := restL_size (Classical.choose h) (fun k hk => (tok_at hc.1 hk).1)
    have h2 := tok_len hc.1
    have h3 := treeText_restL hc.1
    rw [hc.2] at h3
    rw [← h3] at h1
    omega
  · simp [entsSz]
end Go.Proofs.Ytbijkdpifnncmaa
/- Contract of the program's TreeRead. -/
namespace Go.Proofs.Ytbijkdpifnncmaa
open Go.RowKit
attribute [local irreducible] StrsAt EntsAt textF manyF cutF numF treeOkB treeText restL

/-- an entry under way in block h: its path, its chunks -/
structure EBox (w : World) (h : Nat) (p : ByteArray) (v : Value) : Prop where
  c0 : w.cell? ⟨h, 0, none⟩ = some (.string p)
  c1 : w.cell? ⟨h, 1, none⟩ = some v
  f1 : w.frozen? ⟨h, 1, none⟩ = false
theorem EBox.lt {w : World} {h : Nat} {p : ByteArray} {v : Value} (k : EBox w h p v) : h < w.heap.size := by
  have := World.block_lt_of_cell? w ⟨h, 0, none⟩ k.c0; simpa using this
theorem EBox.ch {S : Nat → Prop} {w w' : World} {h : Nat} {p : ByteArray} {v : Value} (k : EBox w h p v) (hc : Ch S w w') (hS : ¬ S h) : EBox w' h p v :=
  ⟨hc.cell k.c0 hS, hc.cell k.c1 hS, (World.frozen?_of_block (hc.block h k.lt hS)).trans k.f1⟩
theorem EBox.keep {w w' : World} {h : Nat} {p : ByteArray} {v : Value} (k : EBox w h p v) (hb : Below w.heap.size w w') : EBox w' h p v := k.ch (S := fun _ => False) (Ch.of_below hb) (fun h => h)
theorem EBox.set1 {w : World} {h : Nat} {p : ByteArray} {v u : Value} (k : EBox w h p v) : EBox (w.setCell ⟨h, 1, none⟩ u) h p u :=
  ⟨setoff k.c0 (.inr (by omega)), sethere k.c1, (World.frozen?_setCell _ _ _ _).trans k.f1⟩
theorem EBox.below {B : Nat} {w w' : World} {h : Nat} {p : ByteArray} {v : Value} (k : EBox w h p v) (hb : Below B w w') (hB : h < B) : EBox w' h p v :=
  ⟨(hb.cell (p := ⟨h, 0, none⟩) hB).trans k.c0, (hb.cell (p := ⟨h, 1, none⟩) hB).trans k.c1, (hb.frozen (p := ⟨h, 1, none⟩) hB).trans k.f1⟩
theorem Scn.below {B : Nat} {w w' : World} {g : Nat} {x : Sc} (k : Scn w g x) (hb : Below B w w') (hB : g < B) : Scn w' g x :=
  ⟨(hb.cell (p := ⟨g, 0, none⟩) hB).trans k.c0, (hb.cell (p := ⟨g, 1, none⟩) hB).trans k.c1, (hb.frozen (p := ⟨g, 0, none⟩) hB).trans k.f0, (hb.frozen (p := ⟨g, 1, none⟩) hB).trans k.f1, k.sz⟩
theorem ch_thenB {S : Nat → Prop} {w W W' : World} (h : Ch S w W) (hb : Below w.heap.size W W') : Ch S w W' :=
  ⟨hb.os.trans h.os, hb.tape.trans h.tape, hb.output.trans h.output, Nat.le_trans h.size hb.size, fun k hk hn => (hb.block k hk).trans (h.block k hk hn)⟩
def lenOf : Value → Nat
  | .slice _ n _ => n
  | _ => 0

set_option maxRecDepth 4000 in
set_option maxHeartbeats 1000000 in
theorem treeRead_impl (s : ByteArray) (w : World) (hs : s.size ≤ 1048576) :
    Calls Try.prog 8 #[.string s] w fun e w' => (∃ A n c, e = .returned (.tuple #[.slice A n c, .bool (trB s)]) ∧ EntsIn w.heap.size w'.heap.size w' A n c (trL s)) ∧ Below w.heap.size w w' := by
  go_enter Try.func8, Try.ntmps8
  go_wp2
  go_loopw [5] (fun o wr => ∃ (l : List Ent) (x : Sc) (O : Option Addr) (cap : Nat) (css : List (List Value)), o = .slice O l.length cap ∧ RowsIn FEnt 33 2 (w.heap.size + 1) wr.heap.size wr O l.length cap l css ∧ Scn wr w.heap.size x ∧ JR s l x ∧ entsSz l + x.1.size ≤ s.size + 5 * l.length ∧ l.length ≤ 13 ∧ Below w.heap.size w wr) (fun o _ => 13 - lenOf o)
  case atStart =>
    have al := (Below.refl w.heap.size w).alloc (Nat.le_refl _) (.cells #[.string s, .bool false] 53)
    refine ⟨[], (s, false), some ⟨w.heap.size + 1, 0, none⟩, 0, [], by simp, ⟨?_, SubsIn.nil, (fun _ h => by cases h), rfl⟩, ⟨by simp [go_sem], by simp [go_sem], by simp [go_sem], by simp [go_sem], by simp only; omega⟩, JR_start s, by simp [entsSz], by simp, by go_grown⟩
    have := own_empty (w.alloc (.cells #[.string s, .bool false] 53)) 33 2 (base := w.heap.size + 1) (by simp)
    simpa using RowIn.of_own this
  case round =>
    obtain ⟨l, ⟨t, q⟩, O, cap, css, rfl, hrow, hscn, hj, hcost, hlen, hb⟩ := hrel
    have HJ := Lib.hid hj; clear hj
    have k0 := hscn.c0
    have k1 := hscn.c1
    have hte : t.toList.isEmpty = decide (t = ByteArray.empty) := by
      have h0 : ByteArray.empty.toList = [] := by rw [Lib.toList_data]; rfl
      by_cases h : t = ByteArray.empty
      · rw [decide_eq_true h, h, h0]; rfl
      · rw [decide_eq_false h]
        cases hl : t.toList with
        | nil => exact absurd (by apply str_ext; rw [hl, h0]) h
        | cons a b => rfl
    simp only at hcost
    by_cases hstop : t = ByteArray.empty ∨ q = true ∨ 12 < l.length
    · have HE := Lib.hid (JR_end HJ.out hstop)
      have hat := (EntsIn.mk ⟨css, hrow⟩ : EntsIn _ _ _ _ _ _ _).at_
      have hes : entsSz l ≤ 1048704 := by omega
      have hgo : (q = true ∧ (t.toList.isEmpty = true ∨ t.toList.isEmpty = false)) ∨ (q = false ∧ (t.toList.isEmpty = true ∨ (t.toList.isEmpty = false ∧ ¬ (l.length : Int) ≤ 12))) := by
        by_cases h : t = ByteArray.empty
        · rw [hte, decide_eq_true h]; cases q <;> simp
        · rw [hte, decide_eq_false h]
          rcases hstop with h' | h' | h'
          · exact absurd h' h
          · exact .inl ⟨h', .inr rfl⟩
          · cases q
            · exact .inr ⟨rfl, .inr ⟨rfl, by omega⟩⟩
            · exact .inl ⟨rfl, .inr rfl⟩
      clear hstop hte
      by_cases hq : q = false ∧ treeOkB l = true ∧ treeText l = s
      · obtain ⟨rfl, hok, htx⟩ := hq
        have HY := Lib.hid (tr_yes hok htx (fun l0 h1 h2 => (HE.out l0 h1 h2).1))
        have g1 : ((treeText l).toList == s.toList) = true := by rw [htx]; simp
        have HK := Lib.hid hok; clear hok
        clear htx
        rcases hgo with ⟨h, _⟩ | ⟨_, he | ⟨he, h12⟩⟩
        · cases h
        all_goals
          go_wp2_with (first | (go_at_call 27; refine (treeOk_impl2 _ _ _ _ _ hat hes).mono ?_; rintro e w1 ⟨rfl, hb1⟩; rw [HK.out]) | (go_at_call 7; refine (treeText_impl2 _ _ _ _ _ (hat.keep hb1) hes).mono ?_; rintro e w2 ⟨rfl, hb2⟩))
          go_returns
          have hb3 := hb1.trans (hb2.mono hb1.size)
          rw [HY.out.1, HY.out.2]
          exact ⟨⟨O, _, cap, rfl, ⟨css, (hrow.keep elemEnt hb3).wide elemEnt (by omega) hb3.size⟩⟩, bthen hb hb3⟩
      · have HY := Lib.hid (tr_no (s := s) (fun l0 h1 h2 => hq (by have h3 := HE.out l0 h1 h2; exact ⟨h3.2, h3.1 ▸ h1, h3.1 ▸ h2⟩)))
        have hq2 : q = true ∨ (q = false ∧ (treeOkB l = false ∨ (treeOkB l = true ∧ ((treeText l).toList == s.toList) = false))) := by
          cases q
          · refine .inr ⟨rfl, ?_⟩
            cases hk : treeOkB l
            · exact .inl rfl
            · refine .inr ⟨rfl, ?_⟩
              rw [str_beq]
              simpa using fun h => hq ⟨rfl, hk, h⟩
          · exact .inl rfl
        clear hq
        rcases hgo with ⟨rfl, he | he⟩ | ⟨rfl, he | ⟨he, h12⟩⟩
        · clear hq2
          go_wp2
          go_returns
          rw [HY.out.1, HY.out.2]
          exact ⟨⟨none, 0, 0, rfl, EntsIn.nil⟩, hb⟩
        · clear hq2
          go_wp2
          go_returns
          rw [HY.out.1, HY.out.2]
          exact ⟨⟨none, 0, 0, rfl, EntsIn.nil⟩, hb⟩
        all_goals
          rcases hq2 with h | ⟨_, hok | ⟨hok, g1⟩⟩
          · cases h
          · have HK := Lib.hid hok; clear hok
            go_wp2_with (go_at_call 27; refine (treeOk_impl2 _ _ _ _ _ hat hes).mono ?_; rintro e w1 ⟨rfl, hb1⟩; rw [HK.out])
            go_returns
            rw [HY.out.1, HY.out.2]
            exact ⟨⟨none, 0, 0, rfl, EntsIn.nil⟩, bthen hb hb1⟩
          · have HK := Lib.hid hok; clear hok
            go_wp2_with (first | (go_at_call 27; refine (treeOk_impl2 _ _ _ _ _ hat hes).mono ?_; rintro e w1 ⟨rfl, hb1⟩; rw [HK.out]) | (go_at_call 7; refine (treeText_impl2 _ _ _ _ _ (hat.keep hb1) hes).mono ?_; rintro e w2 ⟨rfl, hb2⟩))
            go_returns
            rw [HY.out.1, HY.out.2]
            exact ⟨⟨none, 0, 0, rfl, EntsIn.nil⟩, bthen hb (hb1.trans (hb2.mono hb1.size))⟩
    · have ht : t ≠ ByteArray.empty := fun h => hstop (.inl h)
      have hq : q = false := by cases hq : q with | false => rfl | true => exact absurd (.inr (.inl hq)) hstop
      have hl12 : (l.length : Int) ≤ 12 := by have := fun h => hstop (.inr (.inr h)); omega
      subst hq
      rw [decide_eq_false ht] at hte
      clear hstop
      have hj2 := JR_step HJ.out ht (by simp only; omega)
      have htc := textF_cost (t, false)
      have hmc := manyF_le (textF (t, false)).2 4
      simp only at htc
      have HJ2 := Lib.hid hj2; clear hj2
      have hzr := hb.size
      have hgr := hscn.lt
      go_wp2_with fail
      refine (text_impl _ _ _ hscn).mono ?_
      rintro e w1 ⟨rfl, hs1, hc1⟩
      have hz1 := hc1.size
      generalize hx1 : textF (t, false) = x1 at *
      obtain ⟨p, x1⟩ := x1
      have HX1 := Lib.hid hx1; clear hx1
      go_wp2_with fail
      obtain ⟨W, hW⟩ : ∃ W, W = w1.alloc (.cells #[.string p, .slice none 0 0] 33) := ⟨_, rfl⟩
      have al : Below w1.heap.size w1 W := by rw [hW]; exact (Below.refl _ _).alloc (Nat.le_refl _) _
      have hzW : W.heap.size = w1.heap.size + 1 := by rw [hW]; simp
      have hbx : EBox W w1.heap.size p (.slice none 0 0) := by rw [hW]; exact ⟨by simp [go_sem], by simp [go_sem], by simp [go_sem]⟩
      rw [← hW]
      clear hW
      generalize hh : w1.heap.size = h at *
      refine (many_impl _ 4 _ _ (hs1.keep (by rw [hh]; exact al)) (by omega)).mono ?_
      rintro e w2 ⟨rfl, hs2, hc2⟩
      have hz2 := hc2.size
      generalize manyF x1 4 = x2 at *
      obtain ⟨n, x2⟩ := x2
      simp only at hmc hs2 HJ2 htc
      have hn4 : (n : Int) ≤ 4 := by omega
      have hbx2 := hbx.ch hc2 (by omega)
      have hrow2 := ((((hrow.ch elemEnt hc1 (fun k hk => by unfold Iv at hk; omega)).keep elemEnt (by rw [hh]; exact al)).ch elemEnt hc2 (fun k hk => by unfold Iv at hk; omega)).wide elemEnt (Nat.le_refl _) hz1)
      have hb2 : Below w.heap.size w w2 := ((hb.trans (hc1.below (fun k hk => by omega) hzr)).trans (al.mono (by omega))).trans (hc2.below (fun k hk => by omega) (by omega))
      clear hc2 al hc1 hs1 hbx hscn hrow hb k0 k1
      have hz2' : h + 1 ≤ w2.heap.size := by omega
      have hwh : w.heap.size < h := by omega
      go_wp2
      go_loopw [36] (fun i w3 => ∃ (cs : List ByteArray) (x : Sc) (C : Option Addr) (cap : Nat), i = .int .i64 (cs.length : Nat) ∧ cs.length ≤ n ∧ EBox w3 h p (.slice C cs.length cap) ∧ StrsIn w2.heap.size w3.heap.size w3 C cs.length cap cs ∧ Scn w3 w.heap.size x ∧ JI s l p n cs x ∧ strsSz cs + x.1.size ≤ x2.1.size + cs.length ∧ Ch (fun k => k = w.heap.size ∨ k = h) w2 w3) (fun i _ => n - (intOf i).toNat)
      case atStart => exact ⟨[], x2, none, 0, by simp, Nat.zero_le _, hbx2, StrsIn.nil, hs2, HJ2.out, by simp [strsSz], Ch.refl _⟩
      case round =>
        obtain ⟨cs, x, C, cp, rfl, hcl, hbx3, hst, hs3, hji, hco, hch⟩ := hrel
        have HJI := Lib.hid hji; clear hji
        have hg3 := hs3.lt
        have hz3 := hch.size
        by_cases hlt : cs.length < n
        · have hli : (cs.length : Int) < (n : Int) := by omega
          have hj4 := JI_step HJI.out hlt
          have hcc := cutF_cost x 8
          go_wp2_with fail
          refine (cut_impl _ 8 _ _ hs3 (by omega)).mono ?_
          rintro e w4 ⟨rfl, hs4, hc4⟩
          have hz4 := hc4.size
          generalize cutF x 8 = x4 at *
          obtain ⟨c, x4⟩ := x4
          simp only at hcc hs4 hj4
          have HJ4 := Lib.hid hj4; clear hj4
          have hbx4 := hbx3.ch hc4 (by omega)
          have e1 := hbx4.c1
          have hst4 := hst.ch hc4 (fun k hk => by unfold Iv at hk; omega)
          have hown4 := hst4.row.own
          go_wp2_with (at_builtin; refine wpList_app1g (P := Try.prog) w4 rfl (.tmp 41) (.tmp 43) 31 rfl w2.heap.size 9 _ 1 16 Try.underlying31 infoString rfl (by omega) (.slice C _ cp) _ _ rfl hown4 #[.string c] _ rfl (by simp) rfl (by simp [Value.oneCell']) (by unfold maxLen; omega) (by omega) (Nat.le_trans hz3 hz4) ?_; intro A' c' w5 hown5 hg5 hb5 _; have hbx5 := hbx4.below hb5 (by omega); have e51 := hbx5.c1; have f51 := hbx5.f1; have hs5 := hs4.below hb5 (by omega))
          have hz5 := hb5.size
          refine ⟨⟨cs ++ [c], x4, A', c', by simp, by rw [List.length_append]; simp; omega, ?_, ?_, hs5.ch (scn_one (g := h)) (by omega), HJ4.out, ?_, ?_⟩, by simp [intOf]; omega⟩
          · rw [List.length_append]; exact hbx5.set1
          · rw [List.length_append]
            have h6 : StrsIn w2.heap.size w5.heap.size w5 A' (cs.length + 1) c' (cs ++ [c]) := StrsIn.of_own (by rw [List.map_append]; exact hown5)
            simpa using h6.ch (scn_one (g := h) (o := 1) (v := .slice A' (cs.length + 1) c')) (fun k hk => by unfold Iv at hk; omega)
          · rw [strsSz_snoc, List.length_append]; simp only [List.length_cons, List.length_nil]; omega
          · exact (ch_thenB (hch.trans (hc4.mono (fun k hk => .inl hk))) hb5).setCell (p := ⟨h, 1, none⟩) (.inr rfl) _
        · have hni : ¬ (cs.length : Int) < (n : Int) := by omega
          have hne : n = cs.length := by omega
          subst hne
          have hjr := JI_end HJI.out rfl
          have HJR := Lib.hid hjr; clear hjr
          have hrow3 := (hrow2.ch elemEnt hch (fun k hk => by unfold Iv at hk; omega)).wide elemEnt (Nat.le_refl _) (show h ≤ wr.heap.size by omega)
          have hown3 := hrow3.row.own
          have e0 := hbx3.c0
          have e1 := hbx3.c1
          have hlo : ∀ b, BlkOf O b → b < h := fun b hb' => by have := (hrow2.row.blk hb').1; unfold Iv at this; omega
          go_wp2_with (at_builtin; refine wpList_app1g (P := Try.prog) wr rfl (.tmp 47) (.tmp 49) 24 rfl (w.heap.size + 1) 33 _ 2 40 Try.underlying24 infoEntry rfl (by omega) (.slice O l.length cap) _ _ rfl hown3 #[.string p, .slice C cs.length cp] _ rfl (by simp) rfl (by simp [Value.oneCell']) (by unfold maxLen; omega) (by omega) (Nat.le_of_lt (Nat.lt_of_lt_of_le (Nat.succ_lt_succ hwh) (Nat.le_trans hz2' hz3))) ?_; intro A' c' w5 hown5 hg5 hb5 hob5)
          have happ := hrow3.app elemEnt (cs := [.string p, .slice C cs.length cp]) (x := ⟨p, cs⟩) ⟨C, cs.length, cp, rfl, hst.wide (by omega) (Nat.le_refl _)⟩ (fun cs' h' b h1 h2 => by
            have q1 := (hrow2.subs.leads elemEnt h' h1).1
            have q2 := (hst.row.blk (blk_of (leads2 h2))).1
            unfold Iv at q1 q2; omega) (fun b h1 h2 => by
            have q1 := hlo b h2
            have q2 := (hst.row.blk (blk_of (leads2 h1))).1
            unfold Iv at q2; omega) hown5 hg5 hob5 (Nat.le_succ _)
          refine ⟨⟨l ++ [⟨p, cs⟩], x, A', c', css ++ [[.string p, .slice C cs.length cp]], by simp, by rw [List.length_append]; exact happ, hs3.below hb5 (by omega), HJR.out, ?_, by rw [List.length_append]; simp only [List.length_cons, List.length_nil]; omega, ?_⟩, by simp only [lenOf]; omega⟩
          · rw [entsSz_snoc, List.length_append]
            have e2 : entSz ⟨p, cs⟩ = p.size + strsSz cs := rfl
            rw [e2]
            simp only [List.length_cons, List.length_nil]
            omega
          · exact (hb2.trans (hch.below (fun k hk => by omega) (by omega))).trans (hb5.mono (by omega))
theorem treeRead_impl1 (s : ByteArray) (w : World) (hs : s.size ≤ 1048576) :
    Calls Try.prog 8 #[.string s] w fun e w' => ∃ A n c, e = .returned (.tuple #[.slice A n c, .bool (trB s)]) ∧ EntsIn w.heap.size w'.heap.size w' A n c (trL s) ∧ Below w.heap.size w w' :=
  (treeRead_impl s w hs).mono fun _ _ ⟨⟨A, n, c, h1, h2⟩, h3⟩ => ⟨A, n, c, h1, h2, h3⟩
end Go.Proofs.Ytbijkdpifnncmaa
/- The laws' helpers on lists of entries of the call's own: marks. -/
namespace Go.Proofs.Ytbijkdpifnncmaa
open Go.RowKit
attribute [local irreducible] StrsAt

section
variable {α : Type} {F : Nat → Nat → World → List Value → α → Prop} {e sz lo hi n c g q r : Nat} {w w' : World} {A : Option Addr} {css : List (List Value)} {l : List α} {cs : List Value} {x x' : α} {v : Value}
/-- a cell of element q that leads nowhere is stored -/
theorem RowsIn.stc (E : Elem F sz) (h : RowsIn F e sz lo hi w (some ⟨g, 0, none⟩) n c l css) (hq : css[q]? = some cs) (hr : r < sz) (hx : F lo hi (w.setCell ⟨g, q * sz + r, none⟩ v) (cs.set r v) x') (hv : v.ownBlock = none) :
    RowsIn F e sz lo hi (w.setCell ⟨g, q * sz + r, none⟩ v) (some ⟨g, 0, none⟩) n c (l.set q x') (css.set q (cs.set r v)) := by
  have hl : ∀ b, Leads (cs.set r v) b → Leads cs b := fun b ⟨u, hu, hb⟩ => by
    rcases List.mem_or_eq_of_mem_set hu with hu | rfl
    · exact ⟨u, hu, hb⟩
    · rw [hv] at hb; cases hb
  have hC : Ch (fun b => b = g) w (w.setCell ⟨g, q * sz + r, none⟩ v) := (Ch.refl (S := fun b => b = g) w).setCell (p := ⟨g, q * sz + r, none⟩) rfl v
  refine ⟨?_, h.subs.set E hq hC (fun b hb => .inr (fun cs'' h'' h3 => h.off cs'' h'' b h3 (by subst hb; simp [BlkOf]))) hx hl, fun cs' h' b hb => ?_, by simpa using h.nl⟩
  · rw [flat_set (h.subs.lens E) hq hr]
    exact (h.row.store (q * sz + r) v).1
  · rcases List.mem_or_eq_of_mem_set h' with h' | rfl
    · exact h.off cs' h' b hb
    · exact h.off cs (List.mem_of_getElem? hq) b (hl b hb)
theorem set_same {β : Type} {l : List β} {q : Nat} {x : β} (h : l[q]? = some x) : l.set q x = l := by
  apply List.ext_getElem?; intro j; rw [List.getElem?_set]
  by_cases e : q = j
  · subst e; rw [if_pos rfl, h]; simp [(List.getElem?_eq_some_iff.1 h).1]
  · rw [if_neg e]
/-- what element q leads to is changed -/
theorem RowsIn.stl (E : Elem F sz) {S : Nat → Prop} (h : RowsIn F e sz lo hi w A n c l css) (hq : css[q]? = some cs) (hc : Ch S w w') (hS : ∀ b, S b → Leads cs b) (hx : F lo hi w' cs x') : RowsIn F e sz lo hi w' A n c (l.set q x') css := by
  have hmem := List.mem_of_getElem? hq
  refine ⟨⟨own_ch h.row.own hc (fun b hb hb2 => h.off _ hmem b (hS b hb2) (blk_of hb)), h.row.lt⟩, ?_, h.off, by simpa using h.nl⟩
  have := h.subs.set E hq hc (fun b hb => .inl (hS b hb)) hx (fun b hb => hb)
  rwa [set_same hq] at this
end

end Go.Proofs.Ytbijkdpifnncmaa
/- The draws of trees: l18Chunk, l30Entry, l30Some. -/
namespace Go.Proofs.Ytbijkdpifnncmaa
open Go.RowKit
attribute [local irreducible] StrsAt EntsAt putL putOk

theorem short_le (s : ByteArray) : (shortS s).size ≤ 8 := by rw [shortS_size]; omega
theorem l18Chunk_any (g : Nat) (w : World) (h : Cur w g) :
    Calls Try.prog 70 #[.pointer (some ⟨g, 0, none⟩)] w fun e w' => ∃ s : ByteArray, e = .returned (.string s) ∧ s.size ≤ 9 ∧ Cur w' g ∧ Ch (fun k => k = g) w w' := by
  go_enter Try.func70, Try.ntmps70
  go_wp2_with fail
  refine (l1Once_any g _ _ h (by omega)).mono ?_
  rintro e w1 ⟨b, rfl, hc1, hch1⟩
  cases b
  · go_wp2_with fail
    refine (l1Below_any g _ _ hc1 (by omega)).mono ?_
    rintro e w2 ⟨x, rfl, hx0, hx1, _, hc2, hch2⟩
    obtain ⟨n, rfl⟩ := Int.eq_ofNat_of_zero_le hx0
    have hn : n < 5 := by have := hx1 (by omega); omega
    have hcv := run_byte_string w2 n (by omega)
    have hal := (Below.refl w2.heap.size w2).alloc (Nat.le_refl _) (.cells #[.int .u8 (n : Int)] 5)
    have hc3 := hc2.keep hal
    have hch3 := (hch1.trans hch2).trans (Ch.of_below hal)
    clear hx0 hx1 hch1 hch2
    go_wp2_with fail
    have h1 : (⟨#[UInt8.ofNat n]⟩ : ByteArray).size ≤ 1099511627776 := by
      have : (⟨#[UInt8.ofNat n]⟩ : ByteArray).size = 1 := rfl
      omega
    refine (short_specS _ _ h1).mono ?_
    rintro e w4 ⟨rfl, hb4⟩
    have h8 := short_le ⟨#[UInt8.ofNat n]⟩
    go_wp2
    go_returns
    exact ⟨_, rfl, by omega, hc3.keep hb4, hch3.trans (Ch.of_below hb4)⟩
  · go_wp2_with fail
    refine (l1Text_any g _ _ hc1 (by omega) (by omega)).mono ?_
    rintro e w2 ⟨s, rfl, hs, hc2, hch2⟩
    go_wp2
    go_returns
    exact ⟨s, rfl, by omega, hc2, hch1.trans hch2⟩

/-- an empty entry in block h -/
structure ZBox (w : World) (h : Nat) : Prop where
  c0 : w.cell? ⟨h, 0, none⟩ = some (.string ByteArray.empty)
  c1 : w.cell? ⟨h, 1, none⟩ = some (.slice none 0 0)
  f0 : w.frozen? ⟨h, 0, none⟩ = false
  f1 : w.frozen? ⟨h, 1, none⟩ = false
theorem ZBox.ch {S : Nat → Prop} {w w' : World} {h : Nat} (k : ZBox w h) (hc : Ch S w w') (hS : ¬ S h) : ZBox w' h := by
  have hl := cell_lt k.c0
  exact ⟨hc.cell k.c0 hS, hc.cell k.c1 hS, (hc.frozen hl hS).trans k.f0, (hc.frozen hl hS).trans k.f1⟩
theorem ZBox.keep {w w' : World} {h : Nat} (k : ZBox w h) (hb : Below w.heap.size w w') : ZBox w' h := k.ch (S := fun _ => False) (Ch.of_below hb) (fun h => h)
theorem ZBox.below {B : Nat} {w w' : World} {h : Nat} (k : ZBox w h) (hb : Below B w w') (hB : h < B) : ZBox w' h :=
  ⟨(hb.cell (p := ⟨h, 0, none⟩) hB).trans k.c0, (hb.cell (p := ⟨h, 1, none⟩) hB).trans k.c1, (hb.frozen (p := ⟨h, 0, none⟩) hB).trans k.f0, (hb.frozen (p := ⟨h, 1, none⟩) hB).trans k.f1⟩
theorem strs_small : ∀ {l : List ByteArray} {m : Nat}, (∀ x ∈ l, x.size ≤ m) → strsSz l ≤ l.length * (m + 1)
  | [], m, _ => by simp [strsSz]
  | x :: l, m, h => by
    have h1 := h x (List.mem_cons_self ..)
    have h2 := strs_small (l := l) (m := m) (fun y hy => h y (List.mem_cons_of_mem _ hy))
    rw [strsSz_cons, List.length_cons, Nat.add_mul]; omega

/-- a drawn entry -/
def EntDraw (w : World) (g : Nat) (e : Ending) (w' : World) : Prop :=
  ∃ (p : ByteArray) (A : Option Addr) (n c : Nat) (ch : List ByteArray), e = .returned (.agg #[.string p, .slice A n c]) ∧ p.size ≤ 16 ∧ StrsIn w.heap.size w'.heap.size w' A n c ch ∧ ch.length ≤ 2 ∧ (∀ x ∈ ch, x.size ≤ 9) ∧ Cur w' g ∧ Ch (fun k => k = g) w w'
theorem new1t (w : World) (s : ByteArray) (t : TypeId) : CellsAt (w.alloc (.cells #[.string s] t)) (some ⟨w.heap.size, 0, none⟩) 1 1 [.string s] := by
  refine ⟨rfl, fun _ => ⟨w.heap.size, 0, rfl, fun j u hu => ?_⟩⟩
  rw [Nat.zero_add, World.cell?_alloc_new]
  simpa using hu
theorem CellsAt.ch1 {S : Nat → Prop} {w w' : World} {gb n sz : Nat} {xs : List Value} (h : CellsAt w (some ⟨gb, 0, none⟩) n sz xs) (hc : Ch S w w') (hn : ¬ S gb) : CellsAt w' (some ⟨gb, 0, none⟩) n sz xs :=
  ⟨h.1, fun h0 => by
    obtain ⟨b, off, e, hcell⟩ := h.2 h0
    injection e with e; injection e with e1 e2 _; subst e1 e2
    exact ⟨_, _, rfl, fun j u hu => hc.cell (hcell j u hu) hn⟩⟩

set_option maxRecDepth 8000 in
set_option maxHeartbeats 2000000 in
theorem l30Entry_any (g : Nat) (w : World) (h : Cur w g) :
    Calls Try.prog 42 #[.pointer (some ⟨g, 0, none⟩)] w (EntDraw w g) := by
  have hlt := h.lt
  have al0 := (Below.refl w.heap.size w).alloc (Nat.le_refl _) (.cells #[.string ByteArray.empty, .slice none 0 0] 33)
  go_enter Try.func42, Try.ntmps42
  go_wp2_with fail
  refine (l30Path_any g _ (h.keep al0)).mono ?_
  rintro e w1 ⟨p, rfl, hp, hc1, hch1⟩
  have hz1 := hch1.size
  simp only [World.size_alloc] at hz1
  have hch1w := (Ch.of_below al0).trans hch1
  have r0 : ZBox w1 w.heap.size := (ZBox.mk (by simp [go_sem]) (by simp [go_sem]) (by simp [go_sem]) (by simp [go_sem]) : ZBox (w.alloc (.cells #[.string ByteArray.empty, .slice none 0 0] 33)) w.heap.size).ch hch1 (by omega)
  go_wp2_with fail
  obtain ⟨W, hW⟩ : ∃ W, W = w1.alloc (.cells #[.string p, .slice none 0 0] 33) := ⟨_, rfl⟩
  obtain ⟨h, hh⟩ : ∃ h, w1.heap.size = h := ⟨_, rfl⟩
  have al1 : Below w1.heap.size w1 W := by rw [hW]; exact (Below.refl _ _).alloc (Nat.le_refl _) _
  have hbx : EBox W h p (.slice none 0 0) := by rw [hW, ← hh]; exact ⟨by simp [go_sem], by simp [go_sem], by simp [go_sem]⟩
  rw [← hW, hh]
  have hgh : w.heap.size < h := by omega
  have hc2 := hc1.keep al1
  have hch2 := hch1w.trans (Ch.of_below al1)
  have r0' := r0.keep al1
  clear hW hh al1 hch1 hch1w hc1 r0 al0 hz1
  refine (l1Below_any g _ _ hc2 (by omega)).mono ?_
  rintro e w3 ⟨x, rfl, hx0, hx1, _, hc3, hch3⟩
  obtain ⟨m, rfl⟩ := Int.eq_ofNat_of_zero_le hx0
  have hm : m < 3 := by have := hx1 (by omega); omega
  have hbx3 := hbx.ch hch3 (by omega)
  have r0 := r0'.ch hch3 (by omega)
  have hch3w := hch2.trans hch3
  clear hx0 hx1 hbx hch2 hch3 hc2 r0'
  go_wp2
  go_loopw [4] (fun u wr => ∃ (k : Nat) (C : Option Addr) (cp : Nat) (cs : List ByteArray), u = .int .i64 k ∧ cs.length + k ≤ m ∧ (∀ x ∈ cs, x.size ≤ 9) ∧ EBox wr h p (.slice C cs.length cp) ∧ StrsIn (h + 1) wr.heap.size wr C cs.length cp cs ∧ ZBox wr w.heap.size ∧ Cur wr g ∧ Ch (fun k => k = g) w wr) (fun u _ => (intOf u).toNat)
  case atStart => exact ⟨m, none, 0, [], rfl, by simp, (fun x hx => by cases hx), hbx3, StrsIn.nil, r0, hc3, hch3w⟩
  case round =>
    clear hbx3 r0 hc3 hch3w
    obtain ⟨k, C, cp, cs, rfl, hk, hsm, hbx, hrow, r0, hc, hch⟩ := hrel
    by_cases hpos : 0 < k
    · have hki : (0 : Int) < (k : Int) := by omega
      have hCof : ∀ b, BlkOf C b → h < b := fun b hb => by have := (hrow.row.blk hb).1; unfold Iv at this; omega
      go_wp2
      refine wp_region_dagb [14, 15, 16, 17, 18, 19, 20] (by kernel_rfl) (by kernel_rfl) (fun D vs w' => ∃ v14 v15 v16 v17 v18 v19 v20 : Value, vs = [v14, v15, v16, v17, v18, v19, v20] ∧ Cur w' g ∧ Ch (fun k => k = g) w w' ∧ h < w'.heap.size ∧ ZBox w' w.heap.size ∧ (D 7 = false → EBox w' h p (.slice C cs.length cp)) ∧ (D 5 = false → StrsIn (h + 1) w'.heap.size w' C cs.length cp cs) ∧ (D 0 = true → v14 = .pointer (some ⟨h, 1, none⟩)) ∧ (D 1 = true → v15 = .slice C cs.length cp) ∧ (D 2 = true → v16 = .pointer (some ⟨g, 0, none⟩)) ∧ (D 3 = true → ∃ s : ByteArray, v17 = .string s ∧ s.size ≤ 9) ∧ (D 4 = true → ∃ (gb : Nat) (s : ByteArray), v18 = .slice (some ⟨gb, 0, none⟩) 1 1 ∧ s.size ≤ 9 ∧ (D 5 = false → CellsAt w' (some ⟨gb, 0, none⟩) 1 1 [.string s])) ∧ (D 5 = true → ∃ (A' : Option Addr) (c' : Nat) (s : ByteArray), v19 = .slice A' (cs.length + 1) c' ∧ s.size ≤ 9 ∧ StrsIn (h + 1) w'.heap.size w' A' (cs.length + 1) c' (cs ++ [s])) ∧ (D 6 = true → v20 = .pointer (some ⟨h, 1, none⟩)) ∧ (D 7 = true → ∃ (A' : Option Addr) (c' : Nat) (s : ByteArray), s.size ≤ 9 ∧ EBox w' h p (.slice A' (cs.length + 1) c') ∧ StrsIn (h + 1) w'.heap.size w' A' (cs.length + 1) c' (cs ++ [s])))
        ⟨_, _, _, _, _, _, _, rfl, hc.keep (Below.refl _ _).drew, hch.thenB (Below.refl _ _).drew, hbx.lt, (r0.keep (Below.refl _ _).drew), (fun _ => hbx.keep (Below.refl _ _).drew), (fun _ => hrow.keep (Below.refl _ _).drew), (fun h => by cases h), (fun h => by cases h), (fun h => by cases h), (fun h => by cases h), (fun h => by cases h), (fun h => by cases h), (fun h => by cases h), (fun h => by cases h)⟩ ?_ ?_
      · intro i D vs w' hi hD hdep hcl hI
        have hi' : i < 8 := hi
        obtain ⟨v14, v15, v16, v17, v18, v19, v20, rfl, hc, hch, hhw, q0, hb, hr, k0, k1, k2, k3, k4, k5, k6, k7⟩ := hI
        simp only [putAll, List.setIfInBounds_toArray, List.set_cons_succ, List.set_cons_zero]
        rcases (show i = 0 ∨ i = 1 ∨ i = 2 ∨ i = 3 ∨ i = 4 ∨ i = 5 ∨ i = 6 ∨ i = 7 by omega) with rfl | rfl | rfl | rfl | rfl | rfl | rfl | rfl
        · refine wpOp_step (by simp only [List.getElem?_toArray, List.getElem?_cons_zero]; rfl) (fun K hK => ?_)
          go_simp
          refine hK _ _ ⟨[.pointer (some ⟨h, 1, none⟩), v15, v16, v17, v18, v19, v20], ?_, _, _, _, _, _, _, _, rfl, hc, hch, hhw, q0, hb, hr, (fun _ => rfl), k1, k2, k3, k4, k5, k6, k7⟩
          simp only [putAll, List.setIfInBounds_toArray, List.set_cons_succ, List.set_cons_zero]
        · have e0 := k0 (hdep 0 (by kernel_rfl))
          subst e0
          have n7 : D 7 = false := Bool.eq_false_iff.2 (fun h => absurd (hcl 5 1 (hcl 7 5 h (by kernel_rfl)) (by kernel_rfl)) (by rw [hD]; simp))
          have hB := hb n7
          have b1 := hB.c1
          refine wpOp_step (by simp only [List.getElem?_toArray, List.getElem?_cons_succ, List.getElem?_cons_zero]; rfl) (fun K hK => ?_)
          go_simp
          refine hK _ _ ⟨[.pointer (some ⟨h, 1, none⟩), .slice C cs.length cp, v16, v17, v18, v19, v20], ?_, _, _, _, _, _, _, _, rfl, hc, hch, hhw, q0, hb, hr, (fun _ => rfl), (fun _ => rfl), k2, k3, k4, k5, k6, k7⟩
          simp only [putAll, List.setIfInBounds_toArray, List.set_cons_succ, List.set_cons_zero]
        · refine wpOp_step (by simp only [List.getElem?_toArray, List.getElem?_cons_succ, List.getElem?_cons_zero]; rfl) (fun K hK => ?_)
          go_simp
          refine hK _ _ ⟨[v14, v15, .pointer (some ⟨g, 0, none⟩), v17, v18, v19, v20], ?_, _, _, _, _, _, _, _, rfl, hc, hch, hhw, q0, hb, hr, k0, k1, (fun _ => rfl), k3, k4, k5, k6, k7⟩
          simp only [putAll, List.setIfInBounds_toArray, List.set_cons_succ, List.set_cons_zero]
        · have e2 := k2 (hdep 2 (by kernel_rfl))
          subst e2
          have n4 : D 4 = false := Bool.eq_false_iff.2 (fun h => absurd (hcl 4 3 h (by kernel_rfl)) (by rw [hD]; simp))
          have n5 : D 5 = false := Bool.eq_false_iff.2 (fun h => absurd (hcl 4 3 (hcl 5 4 h (by kernel_rfl)) (by kernel_rfl)) (by rw [hD]; simp))
          have n7 : D 7 = false := Bool.eq_false_iff.2 (fun h => absurd (hcl 4 3 (hcl 5 4 (hcl 7 5 h (by kernel_rfl)) (by kernel_rfl)) (by kernel_rfl)) (by rw [hD]; simp))
          refine wpOp_step (by simp only [List.getElem?_toArray, List.getElem?_cons_succ, List.getElem?_cons_zero]; rfl) (fun K hK => ?_)
          go_simp
          refine (l18Chunk_any g _ hc).mono ?_
          rintro e w4 ⟨s, rfl, hs9, hc4, hch4⟩
          have hz4 := hch4.size
          refine hK _ _ ⟨[v14, v15, .pointer (some ⟨g, 0, none⟩), .string s, v18, v19, v20], ?_, _, _, _, _, _, _, _, rfl, hc4, (hch.trans hch4), (Nat.lt_of_lt_of_le hhw hz4), (q0.ch hch4 (by omega)), (fun h' => (hb h').ch hch4 (by omega)), (fun h' => ((hr h').ch hch4 (fun k hk e => by unfold Iv at hk; omega)).wide (Nat.le_refl _) hz4), k0, k1, (fun _ => rfl), (fun _ => ⟨s, rfl, hs9⟩), (fun h => by rw [show D 4 = true from by simpa using h] at n4; cases n4), (fun h => by rw [show D 5 = true from by simpa using h] at n5; cases n5), k6, (fun h => by rw [show D 7 = true from by simpa using h] at n7; cases n7)⟩
          simp only [putAll, List.setIfInBounds_toArray, List.set_cons_succ, List.set_cons_zero]
        · obtain ⟨s, rfl, hs9⟩ := k3 (hdep 3 (by kernel_rfl))
          have n5 : D 5 = false := Bool.eq_false_iff.2 (fun h => absurd (hcl 5 4 h (by kernel_rfl)) (by rw [hD]; simp))
          have n7 : D 7 = false := Bool.eq_false_iff.2 (fun h => absurd (hcl 5 4 (hcl 7 5 h (by kernel_rfl)) (by kernel_rfl)) (by rw [hD]; simp))
          have hal := (Below.refl w'.heap.size w').alloc (Nat.le_refl _) (.cells #[.string s] 9)
          refine wpOp_step (by simp only [List.getElem?_toArray, List.getElem?_cons_succ, List.getElem?_cons_zero]; rfl) (fun K hK => ?_)
          go_simp
          refine hK _ _ ⟨[v14, v15, v16, .string s, .slice (some ⟨w'.heap.size, 0, none⟩) 1 1, v19, v20], ?_, _, _, _, _, _, _, _, rfl, (hc.keep hal), (hch.trans (Ch.of_below hal)), (Nat.lt_of_lt_of_le hhw hal.size), (q0.keep hal), (fun h' => (hb h').keep hal), (fun h' => ((hr h').keep hal).wide (Nat.le_refl _) hal.size), k0, k1, k2, (fun _ => ⟨s, rfl, hs9⟩), (fun _ => ⟨_, _, rfl, hs9, fun _ => new1t _ _ _⟩), (fun h => by rw [show D 5 = true from by simpa using h] at n5; cases n5), k6, (fun h => by rw [show D 7 = true from by simpa using h] at n7; cases n7)⟩
          simp only [putAll, List.setIfInBounds_toArray, List.set_cons_succ, List.set_cons_zero]
        · have e1 := k1 (hdep 1 (by kernel_rfl))
          subst e1
          obtain ⟨gb, s, rfl, hs9, hcl4⟩ := k4 (hdep 4 (by kernel_rfl))
          have n7 : D 7 = false := Bool.eq_false_iff.2 (fun h => absurd (hcl 7 5 h (by kernel_rfl)) (by rw [hD]; simp))
          have hB := hb n7
          have hown := (hr hD).row.own
          refine wpOp_step (by simp only [List.getElem?_toArray, List.getElem?_cons_succ, List.getElem?_cons_zero]; rfl) (fun K hK => ?_)
          refine step_app (by rfl) (.tmp 15) (.tmp 18) 31 (by rfl) (h + 1) 9 _ 1 16 Try.underlying31 infoString rfl (by omega) (.slice C cs.length cp) cs.length (cs.map Value.string) (by rfl) hown (some ⟨gb, 0, none⟩) 1 1 [.string s] (by rfl) (hcl4 hD) (by simp [Value.oneCell']) (fun h => by cases h) (by unfold maxLen; omega) (by omega) (by omega) ?_
          intro A' c' w5 hown5 hg5 hb5 hob5
          have hrow5 : StrsIn (h + 1) w5.heap.size w5 A' (cs.length + 1) c' (cs ++ [s]) := StrsIn.of_own (by simpa using hown5)
          have hb5w : Below w.heap.size w' w5 := hb5.mono (by omega)
          have hlt0 := hc.lt
          refine hK _ _ ⟨[v14, .slice C cs.length cp, v16, v17, .slice (some ⟨gb, 0, none⟩) 1 1, .slice A' (cs.length + 1) c', v20], ?_, _, _, _, _, _, _, _, rfl, (hc.below hb5w hlt), (hch.thenB hb5w), (Nat.lt_of_lt_of_le hhw hb5.size), (q0.below hb5 (by omega)), (fun h' => (hb h').below hb5 (by omega)), (fun h => absurd h (by simp)), k0, (fun _ => rfl), k2, k3, (fun _ => ⟨gb, s, rfl, hs9, fun h => absurd h (by simp)⟩), (fun _ => ⟨A', c', s, rfl, hs9, hrow5⟩), k6, (fun h => by rw [show D 7 = true from by simpa using h] at n7; cases n7)⟩
          simp only [Act.put, putAll, List.setIfInBounds_toArray, List.set_cons_succ, List.set_cons_zero]
        · refine wpOp_step (by simp only [List.getElem?_toArray, List.getElem?_cons_succ, List.getElem?_cons_zero]; rfl) (fun K hK => ?_)
          go_simp
          refine hK _ _ ⟨[v14, v15, v16, v17, v18, v19, .pointer (some ⟨h, 1, none⟩)], ?_, _, _, _, _, _, _, _, rfl, hc, hch, hhw, q0, hb, hr, k0, k1, k2, k3, k4, k5, (fun _ => rfl), k7⟩
          simp only [putAll, List.setIfInBounds_toArray, List.set_cons_succ, List.set_cons_zero]
        · obtain ⟨A', c', s, rfl, hs9, hrow5⟩ := k5 (hdep 5 (by kernel_rfl))
          have e6 := k6 (hdep 6 (by kernel_rfl))
          subst e6
          have hB := hb hD
          have b1 := hB.c1
          have f1 := hB.f1
          have d5 : D 5 = true := hdep 5 (by kernel_rfl)
          have one : Ch (fun k => k = h) w' (w'.setCell ⟨h, 1, none⟩ (.slice A' (cs.length + 1) c')) := (Ch.refl (S := fun k => k = h) w').setCell (p := ⟨h, 1, none⟩) rfl _
          have hbS : Below w.heap.size w' (w'.setCell ⟨h, 1, none⟩ (.slice A' (cs.length + 1) c')) := (Below.refl _ _).setCell (Nat.le_of_lt hgh) _
          refine wpOp_step (by simp only [List.getElem?_toArray, List.getElem?_cons_succ, List.getElem?_cons_zero]; rfl) (fun K hK => ?_)
          go_simp
          refine hK _ _ ⟨[v14, v15, v16, v17, v18, .slice A' (cs.length + 1) c', .pointer (some ⟨h, 1, none⟩)], ?_, _, _, _, _, _, _, _, rfl, (hc.below hbS hlt), (hch.thenB hbS), (Nat.lt_of_lt_of_le hhw one.size), (q0.ch one (by omega)), (fun h => absurd h (by simp)), (fun h' => by rw [show D 5 = false from by simpa using h'] at d5; cases d5), k0, k1, k2, k3, (fun _ => by obtain ⟨gb, s4, e4, h4, h5⟩ := k4 (hcl 5 4 d5 (by kernel_rfl)); exact ⟨gb, s4, e4, h4, fun h' => by rw [show D 5 = false from by simpa using h'] at d5; cases d5⟩), (fun _ => ⟨A', c', s, rfl, hs9, (hrow5.ch one (fun k hk e => by unfold Iv at hk; omega)).wide (Nat.le_refl _) one.size⟩), (fun _ => rfl), (fun _ => ⟨A', c', s, hs9, hB.set1, (hrow5.ch one (fun k hk e => by unfold Iv at hk; omega)).wide (Nat.le_refl _) one.size⟩)⟩
          simp only [putAll, List.setIfInBounds_toArray, List.set_cons_succ, List.set_cons_zero]
      · intro D vs w' hD hI
        obtain ⟨v14, v15, v16, v17, v18, v19, v20, rfl, hc, hch, hhw, q0, hb, hr, k0, k1, k2, k3, k4, k5, k6, k7⟩ := hI
        simp only [putAll, List.setIfInBounds_toArray, List.set_cons_succ, List.set_cons_zero]
        obtain ⟨A', c', s, hs9, hB, hrow5⟩ := k7 (hD 7 (show 7 < 8 by decide))
        clear k0 k1 k2 k3 k4 k5 k6 k7 hD hb hr hbx hrow r0
        go_wp2
        refine ⟨⟨k - 1, A', c', cs ++ [s], by congr 1; omega, by rw [List.length_append]; simp only [List.length_cons, List.length_nil]; omega, ?_, by simpa using hB, by simpa using hrow5, q0, hc, hch⟩, by simp [intOf]; omega⟩
        intro x hx
        rcases List.mem_append.1 hx with hx | hx
        · exact hsm x hx
        · have : x = s := by simpa using hx
          subst this; omega
    · have b0 := hbx.c0
      have b1 := hbx.c1
      have hlth := hbx.lt
      obtain ⟨WF, hWF, r0f, r1f⟩ := set2c (W := wr) (u := .string p) (v := .slice C cs.length cp) r0.c0 r0.c1
      have z0 := r0.c0
      have z1 := r0.c1
      have zf0 := r0.f0
      have zf1 := r0.f1
      have C1 : Ch (fun k => k = w.heap.size) wr WF := by rw [hWF]; exact ((Ch.refl (S := fun k => k = w.heap.size) wr).setCell (p := ⟨w.heap.size, 0, none⟩) rfl _).setCell (p := ⟨w.heap.size, 1, none⟩) rfl _
      go_wp2
      rw [← hWF]
      have hbF : Below w.heap.size wr WF := C1.below (fun k hk => by omega) hch.size
      exact bodyPost_ret (v := .agg #[.string p, .slice C cs.length cp]) (by simp [results, Try.results42, go_sem, r0f, r1f]) rfl
        ⟨p, C, cs.length, cp, cs, rfl, hp, (hrow.ch C1 (fun k hk e => by unfold Iv at hk; omega)).wide (by omega) C1.size, by omega, hsm, hc.below hbF hlt, hch.thenB hbF⟩

/-- few short entries -/
def smallE (L : List Ent) : Prop := ∀ e ∈ L, e.p.size ≤ 16 ∧ e.ch.length ≤ 2 ∧ ∀ x ∈ e.ch, x.size ≤ 9
theorem putL_mem {l : List Ent} {e x : Ent} (h : x ∈ putL l e) : x ∈ l ∨ x = e := by
  unfold putL at h
  split at h
  · split at h
    · unfold insL at h
      rcases List.mem_append.1 h with h | h
      · exact .inl ((List.takeWhile_sublist _).subset h)
      · rcases List.mem_cons.1 h with h | h
        · exact .inr h
        · exact .inl ((List.dropWhile_sublist _).subset (List.mem_filter.1 h).1)
    · exact .inl h
  · cases h
theorem insL_len (l : List Ent) (e : Ent) : (insL l e).length ≤ l.length + 1 := by
  unfold insL
  have h := congrArg List.length (List.takeWhile_append_dropWhile (p := fun x : Ent => ltS x.p e.p) (l := l))
  rw [List.length_append] at h ⊢
  have := List.length_filter_le (fun x : Ent => !decide (x.p = e.p)) (l.dropWhile (fun x => ltS x.p e.p))
  rw [List.length_cons]
  omega
theorem putL_len (l : List Ent) (e : Ent) : (putL l e).length ≤ l.length + 1 := by
  unfold putL
  split
  · split
    · exact insL_len l e
    · omega
  · simp
theorem small_ent {e : Ent} (h : e.p.size ≤ 16 ∧ e.ch.length ≤ 2 ∧ ∀ x ∈ e.ch, x.size ≤ 9) : entSz e ≤ 36 := by
  have h3 := strs_small h.2.2
  have h4 : e.ch.length * (9 + 1) ≤ 20 := by omega
  unfold entSz; omega
theorem smallE_sz : ∀ {L : List Ent}, smallE L → entsSz L ≤ 37 * L.length
  | [], _ => by simp [entsSz]
  | e :: L, h => by
    have h1 := small_ent (h e (List.mem_cons_self ..))
    have h2 := smallE_sz (L := L) (fun x hx => h x (List.mem_cons_of_mem _ hx))
    rw [entsSz_cons, List.length_cons]; omega
theorem smallE_put {L : List Ent} {e : Ent} (h : smallE L) (he : e.p.size ≤ 16 ∧ e.ch.length ≤ 2 ∧ ∀ x ∈ e.ch, x.size ≤ 9) : smallE (putL L e) := fun x hx => by
  rcases putL_mem hx with h1 | rfl
  · exact h x h1
  · exact he
/-- a drawn tree -/
def TreeDraw (w : World) (g : Nat) (e : Ending) (w' : World) : Prop :=
  ∃ A n c l, e = .returned (.slice A n c) ∧ EntsIn w.heap.size w'.heap.size w' A n c l ∧ l.length ≤ 11 ∧ smallE l ∧ Cur w' g ∧ Ch (fun k => k = g) w w'

set_option maxRecDepth 8000 in
set_option maxHeartbeats 2000000 in
theorem l30Some_any (g : Nat) (w : World) (h : Cur w g) :
    Calls Try.prog 26 #[.pointer (some ⟨g, 0, none⟩)] w (TreeDraw w g) := by
  have hlt := h.lt
  have al0 := (Below.refl w.heap.size w).alloc (Nat.le_refl _) (.cells #[] 33)
  go_enter Try.func26, Try.ntmps26
  go_wp2_with fail
  refine (l1Below_any g _ _ (h.keep al0) (by omega)).mono ?_
  rintro e w1 ⟨x, rfl, hx0, hx1, _, hc1, hch1⟩
  obtain ⟨m, rfl⟩ := Int.eq_ofNat_of_zero_le hx0
  have hm : m < 12 := by have := hx1 (by omega); omega
  clear hx0 hx1
  have hown1 := own_ch (own_empty w 33 2 (Nat.le_refl w.heap.size)) hch1 (fun k hk e => by simp [Value.ownBlock] at hk; omega)
  have hin1 : EntsIn w.heap.size w1.heap.size w1 (some ⟨w.heap.size, 0, none⟩) 0 0 [] := ⟨⟨[], RowIn.of_own (by simpa using hown1), SubsIn.nil, (fun _ h => by cases h), rfl⟩⟩
  have hchw : Ch (fun k => k = g) w w1 := (Ch.of_below al0).trans hch1
  clear hown1 hch1 al0
  go_wp2
  go_loopw [3, 4, 5, 6] (fun o u _ _ wr => ∃ (k N : Nat) (L : List Ent) (O : Option Addr) (cap : Nat), u = .int .i64 k ∧ L.length + k ≤ m ∧ o = .slice O N cap ∧ EntsIn w.heap.size wr.heap.size wr O N cap L ∧ smallE L ∧ Cur wr g ∧ Ch (fun k => k = g) w wr) (fun _ u _ _ _ => (intOf u).toNat)
  case atStart => exact ⟨m, 0, [], _, 0, rfl, by simp, rfl, hin1, (fun x hx => by cases hx), hc1, hchw⟩
  case round =>
    clear hin1 hc1 hchw
    obtain ⟨k, N, L, O, cap, rfl, hk, rfl, hrow, hsm, hc, hch⟩ := hrel
    have hLs := smallE_sz hsm
    by_cases hpos : 0 < k
    · have hki : (0 : Int) < (k : Int) := by omega
      have hzw := hch.size
      go_wp2_with fail
      refine (l30Entry_any g _ hc).mono ?_
      rintro e w2 ⟨p, A1, n1, c1, ch, rfl, hp, hs1, hl1, hs9, hc2, hch2⟩
      have hrow2 : EntsIn w.heap.size w2.heap.size w2 O N cap L := (hrow.ch hch2 (fun k hk e => by unfold Iv at hk; omega)).wide (Nat.le_refl _) hch2.size
      have hes := small_ent (e := ⟨p, ch⟩) ⟨hp, hl1, hs9⟩
      have hchw := hch.trans hch2
      have hz2 := hchw.size
      clear hrow hch hch2
      go_wp2_with fail
      refine (treePut_spec _ _ _ L p _ _ _ ch _ hrow2.at_ hs1.at_ (own_cap0 hs1.row.own) (by omega)).mono ?_
      rintro e w3 ⟨A3, n3, c3, rfl, hrow3, hb3⟩
      obtain ⟨ok, hok⟩ : ∃ b, putOk L ⟨p, ch⟩ = b := ⟨_, rfl⟩
      rw [hok]
      clear hok
      cases ok
      · go_wp2
        exact ⟨⟨k - 1, N, L, O, cap, by congr 1; omega, by omega, rfl, (hrow2.keep hb3).wide (Nat.le_refl _) hb3.size, hsm, hc2.keep hb3, hchw.trans (Ch.of_below hb3)⟩, by simp [intOf]; omega⟩
      · have hpl := putL_len L ⟨p, ch⟩
        go_wp2
        exact ⟨⟨k - 1, n3, putL L ⟨p, ch⟩, A3, c3, by congr 1; omega, by omega, rfl, hrow3.wide hz2 (Nat.le_refl _), smallE_put hsm ⟨hp, hl1, hs9⟩, hc2.keep hb3, hchw.trans (Ch.of_below hb3)⟩, by simp [intOf]; omega⟩
    · have hk0 : k = 0 := by omega
      subst hk0
      have hN : N ≤ 11 := by have := hrow.len; omega
      by_cases hN0 : 0 < N
      · go_wp2_with fail
        refine (l1Once_any g _ _ hc (by omega)).mono ?_
        rintro e w2 ⟨b, rfl, hc2, hch2⟩
        have hrow2 : EntsIn w.heap.size w2.heap.size w2 O N cap L := (hrow.ch hch2 (fun k hk e => by unfold Iv at hk; have := hch.size; omega)).wide (Nat.le_refl _) hch2.size
        have hchw := hch.trans hch2
        clear hrow hch hch2 hc
        cases b
        · go_wp2
          go_returns
          exact ⟨O, N, cap, L, rfl, hrow2, by omega, hsm, hc2, hchw⟩
        · go_wp2_with fail
          refine (l1Below_any g _ _ hc2 (by omega)).mono ?_
          rintro e w3 ⟨x, rfl, hx0, hx1, _, hc3, hch3⟩
          obtain ⟨i, rfl⟩ := Int.eq_ofNat_of_zero_le hx0
          have hiN : i < N := by have := hx1 (by omega); omega
          clear hx0 hx1 hc2
          go_wp2_with fail
          refine (l30Path_any g _ hc3).mono ?_
          rintro e w4 ⟨p, rfl, hp, hc4, hch4⟩
          have hch5 := hchw.trans (hch3.trans hch4)
          have hrow4 : EntsIn w.heap.size w4.heap.size w4 O N cap L := (hrow2.ch (hch3.trans hch4) (fun k hk e => by unfold Iv at hk; have := hchw.size; omega)).wide (Nat.le_refl _) (hch3.trans hch4).size
          clear hrow2 hchw hch3 hch4 hc3
          obtain ⟨css, hr⟩ := hrow4.ex
          obtain ⟨G, cs, y, rfl, hci, hxi, hF, hcell⟩ := hr.elem elemEnt hiN
          obtain ⟨A1, n1, c1, rfl, hin⟩ := hF
          have hc0 : w4.cell? ⟨G, i * 2, none⟩ = some (.string y.p) := by simpa using hcell 0 _ rfl
          have hf0 := hr.row.own.frozenAt (i * 2)
          have hG := (hr.row.blk (g := G) (by simp [BlkOf])).1
          unfold Iv at hG
          go_wp2
          go_returns
          have hoff : ∀ b, BlkOf A1 b → ¬ b = G := fun b h1 h2 => hr.off _ (List.mem_of_getElem? hci) b (leads2_mk (blk_own h1)) (by subst h2; simp [BlkOf])
          have hC2 : Ch (fun b => b = G) w4 (w4.setCell ⟨G, i * 2, none⟩ (.string p)) := (Ch.refl (S := fun b => b = G) w4).setCell (p := ⟨G, i * 2, none⟩) rfl _
          have hbS : Below w.heap.size w4 (w4.setCell ⟨G, i * 2, none⟩ (.string p)) := (Below.refl _ _).setCell hG.1 _
          have hr2 := hr.stc elemEnt (r := 0) (v := .string p) (x' := ⟨p, y.ch⟩) hci (by omega) ⟨A1, n1, c1, rfl, ⟨⟨own_ch hin.row.own hC2 (fun b hb => hoff b (blk_of hb)), hin.row.lt⟩⟩⟩ rfl
          have hy := hsm y (List.mem_of_getElem? hxi)
          refine ⟨some ⟨G, 0, none⟩, N, cap, _, rfl, (EntsIn.mk ⟨_, hr2⟩ : EntsIn _ _ _ _ _ _ _).wide (Nat.le_refl _) hC2.size, by rw [List.length_set]; omega, fun z hz => ?_, hc4.below hbS hlt, hch5.thenB hbS⟩
          rcases List.mem_or_eq_of_mem_set hz with hz | rfl
          · exact hsm z hz
          · exact ⟨hp, hy.2⟩
      · go_wp2
        go_returns
        exact ⟨O, N, cap, L, rfl, hrow, by omega, hsm, hc, hch⟩

theorem drawTreeText_any (A : Option Addr) (n c : Nat) (f : Nat → Int) (w : World) (h : CodeAt w A n f) (hn : n ≤ 1048576) :
    Calls Try.prog 6 #[.slice A n c] w fun e w' => ∃ A0 n0 c0 l, e = .returned (.slice A0 n0 c0) ∧ EntsIn w.heap.size w'.heap.size w' A0 n0 c0 l ∧ l.length ≤ 11 ∧ smallE l ∧ Below w.heap.size w w' := by
  go_enter Try.func6, Try.ntmps6
  go_wp2_with fail
  refine (l1New_any _ _ _ _ _ h hn).mono ?_
  rintro e w1 ⟨rfl, hc1, hb1⟩
  go_wp2_with fail
  refine (l30Some_any _ _ hc1).mono ?_
  rintro e w2 ⟨A0, n0, c0, l, rfl, hr2, hl0, hs0, hc2, hch2⟩
  go_wp2
  go_returns
  exact ⟨A0, n0, c0, l, rfl, hr2.wide hb1.size (Nat.le_refl _), hl0, hs0, hb1.trans (hch2.below (B := w.heap.size) (fun k hk => by omega) hb1.size)⟩
theorem drawTreePut_any (A : Option Addr) (n c : Nat) (f : Nat → Int) (w : World) (h : CodeAt w A n f) (hn : n ≤ 1048576) :
    Calls Try.prog 13 #[.slice A n c] w fun e w' => ∃ A0 n0 c0 l p A1 n1 c1 ch, e = .returned (.tuple #[.slice A0 n0 c0, .agg #[.string p, .slice A1 n1 c1]]) ∧ EntsIn w.heap.size w'.heap.size w' A0 n0 c0 l ∧ StrsIn w.heap.size w'.heap.size w' A1 n1 c1 ch ∧ l.length ≤ 11 ∧ smallE l ∧
      p.size ≤ 16 ∧ ch.length ≤ 2 ∧ (∀ x ∈ ch, x.size ≤ 9) ∧ Below w.heap.size w w' := by
  have al0 := (Below.refl w.heap.size w).alloc (Nat.le_refl _) (.cells #[.string ByteArray.empty, .slice none 0 0] 33)
  go_enter Try.func13, Try.ntmps13
  go_wp2_with fail
  refine (l1New_any _ _ _ _ _ (h.keep al0) hn).mono ?_
  rintro e w1 ⟨rfl, hc1, hb1⟩
  have r0 : ZBox w1 w.heap.size := (ZBox.mk (by simp [go_sem]) (by simp [go_sem]) (by simp [go_sem]) (by simp [go_sem]) : ZBox (w.alloc (.cells #[.string ByteArray.empty, .slice none 0 0] 33)) w.heap.size).keep hb1
  have hz1 := hb1.size
  simp only [World.size_alloc] at hz1 hc1 ⊢
  have hB1 : Below w.heap.size w w1 := bthen al0 hb1
  go_wp2_with fail
  refine (l30Some_any _ _ hc1).mono ?_
  rintro e w2 ⟨A0, n0, c0, l, rfl, hr2, hl0, hs0, hc2, hch2⟩
  have r0' := r0.ch hch2 (by omega)
  go_wp2_with fail
  refine (l30Entry_any _ _ hc2).mono ?_
  rintro e w3 ⟨p, A1, n1, c1, ch, rfl, hp, hr3, hl1, hs1, hc3, hch3⟩
  have r1 := r0'.ch hch3 (by omega)
  have hz := hc1.lt
  have hz2 := hch2.size
  have hz3 := hch3.size
  have hr2' := hr2.ch hch3 (fun k hk e => by unfold Iv at hk; omega)
  have z0 := r1.c0
  have z1 := r1.c1
  have zf0 := r1.f0
  have zf1 := r1.f1
  obtain ⟨WF, hWF, r0f, r1f⟩ := set2c (W := w3) (u := .string p) (v := .slice A1 n1 c1) r1.c0 r1.c1
  have C1 : Ch (fun k => k = w.heap.size) w3 WF := by rw [hWF]; exact ((Ch.refl (S := fun k => k = w.heap.size) w3).setCell (p := ⟨w.heap.size, 0, none⟩) rfl _).setCell (p := ⟨w.heap.size, 1, none⟩) rfl _
  clear r0 r0' r1 hr2
  go_wp2
  rw [← hWF]
  have hbF : Below w.heap.size w WF := (hB1.trans ((hch2.trans hch3).below (B := w.heap.size) (fun k hk => by omega) (by omega))).trans (C1.below (fun k hk => by omega) (by omega))
  exact bodyPost_ret (v := .tuple #[.slice A0 n0 c0, .agg #[.string p, .slice A1 n1 c1]]) (by simp [results, Try.results13, go_sem, r0f, r1f]) rfl
    ⟨A0, n0, c0, l, p, A1, n1, c1, ch, rfl, (hr2'.ch C1 (fun k hk e => by unfold Iv at hk; omega)).wide (by omega) (Nat.le_trans hz3 C1.size), (hr3.ch C1 (fun k hk e => by unfold Iv at hk; omega)).wide (by omega) C1.size, hl0, hs0, hp, hl1, hs1, hbF⟩
end Go.Proofs.Ytbijkdpifnncmaa
