/- Contracts and lemmas: CatMap, RunSame, RunSt, BatchO. -/
import Derived.Test.YtdphdnllhmnelaaJ32
import Derived.Test.YtdphdnllhmnelaaJ8
import Derived.Test.YtdphdnllhmnelaaJ21
import Derived.Test.YtdphdnllhmnelaaJ23
/- Plain laws: a right catalog as a map from names to snapshots; what a command does to it. -/
namespace Go.Proofs.Ytdphdnllhmnelaa
open Go.RowKit
theorem ba_ext {a b : ByteArray} (e : a.toList = b.toList) : a = b := by
  rw [Lib.toList_data, Lib.toList_data] at e
  cases a; cases b
  simp only [ByteArray.mk.injEq]
  exact Array.toList_inj.1 e
theorem sLt_irr (a : ByteArray) : sLt a a = false := by
  cases h : sLt a a
  · rfl
  · exact absurd h (ltB_irr a.toList)
theorem sLt_trans {a b c : ByteArray} (h1 : sLt a b = true) (h2 : sLt b c = true) : sLt a c = true := ltB_trans (x := a.toList) (y := b.toList) (z := c.toList) h1 h2
theorem sLt_tri {a b : ByteArray} (h1 : sLt a b = false) (h2 : a ≠ b) : sLt b a = true := by
  cases h : sLt b a
  · exact absurd (ba_ext (ltB_tri (x := a.toList) (y := b.toList) (by unfold ltB; unfold sLt at h1; rw [h1]; simp) (by unfold ltB; unfold sLt at h; rw [h]; simp))) h2
  · rfl
theorem sLt_ne {a b : ByteArray} (h : sLt a b = true) : a ≠ b := fun e => by subst e; rw [sLt_irr] at h; cases h
/-- the names rise -/
def Srt (l : List Cst) : Prop := l.Pairwise (fun a b => sLt a.nm b.nm = true)
def SetG (s : Cst) : Prop := wordB s.nm = true ∧ s.snaps.length ≤ 5 ∧ (s.snaps.map Snp.nm).Nodup ∧ ∀ p ∈ s.snaps, snpOkB p = true
def CatG (x : Ctl) : Prop := x.sets.length ≤ 5 ∧ Srt x.sets ∧ ∀ s ∈ x.sets, SetG s
theorem snpFnd_nodup {l : List Snp} : (l.map Snp.nm).Nodup ↔ ∀ k, k < l.length → snpFnd l 0 (snpAt l k).nm = (k : Int) := by
  constructor
  · intro h k hk
    rcases snpFnd_in (snpAt l k).nm l 0 with ⟨_, h2⟩ | ⟨j, hj, h1, h2, h3⟩
    · exact absurd rfl (h2 (snpAt l k) (by rw [snpAt_of (List.getElem?_eq_getElem hk)]; exact List.getElem_mem hk))
    · rw [h1, Nat.zero_add]
      congr 1
      rw [snpAt_of (List.getElem?_eq_getElem hk), snpAt_of (List.getElem?_eq_getElem hj)] at h2
      have := (List.nodup_iff_pairwise_ne.1 h)
      rw [List.pairwise_iff_getElem] at this
      rcases Nat.lt_trichotomy j k with hlt | heq | hgt
      · exact absurd (by rw [List.getElem_map, List.getElem_map]; exact h2) (this j k (by simpa using hj) (by simpa using hk) hlt)
      · exact heq
      · exact absurd (by rw [List.getElem_map, List.getElem_map]; exact h2.symm) (this k j (by simpa using hk) (by simpa using hj) hgt)
  · intro h
    rw [List.nodup_iff_pairwise_ne, List.pairwise_iff_getElem]
    intro i j hi hj hij e
    have hi' : i < l.length := by simpa using hi
    have hj' : j < l.length := by simpa using hj
    have h1 := h i hi'
    have h2 := h j hj'
    rw [snpAt_of (List.getElem?_eq_getElem hi')] at h1
    rw [snpAt_of (List.getElem?_eq_getElem hj')] at h2
    simp only [List.getElem_map] at e
    rw [e] at h1
    have := h1.symm.trans h2
    omega
theorem setG_iff (s : Cst) : cstOkB s = true ↔ SetG s := by
  unfold cstOkB SetG snpsOkB
  simp only [Bool.and_eq_true, decide_eq_true_eq, List.all_eq_true, List.mem_range]
  constructor
  · rintro ⟨⟨h1, h2⟩, h3⟩
    refine ⟨h2, h3, snpFnd_nodup.2 fun k hk => ?_, fun p hp => ?_⟩
    · have := h1 k hk; unfold snpAtB at this; rw [Bool.and_eq_true] at this; simpa using this.2
    · obtain ⟨k, hk, rfl⟩ := List.getElem_of_mem hp
      have := h1 k hk; unfold snpAtB at this; rw [Bool.and_eq_true, snpAt_of (List.getElem?_eq_getElem hk)] at this; exact this.1
  · rintro ⟨h1, h2, h3, h4⟩
    refine ⟨⟨fun k hk => ?_, h1⟩, h2⟩
    unfold snpAtB
    rw [Bool.and_eq_true]
    refine ⟨?_, by simpa using snpFnd_nodup.1 h3 k hk⟩
    rw [snpAt_of (List.getElem?_eq_getElem hk)]
    exact h4 _ (List.getElem_mem hk)
theorem srt_lt {l : List Cst} (h : ∀ k, k < l.length → 0 < k → sLt (cstAt l (k - 1)).nm (cstAt l k).nm = true) : ∀ j i, i < j → j < l.length → sLt (cstAt l i).nm (cstAt l j).nm = true
  | 0, i, hi, _ => absurd hi (by omega)
  | j + 1, i, hi, hj => by
    have h2 := h (j + 1) hj (by omega)
    rw [Nat.add_sub_cancel] at h2
    by_cases e : i = j
    · subst e; exact h2
    · exact sLt_trans (srt_lt h j i (by omega) (by omega)) h2
theorem catG_iff (x : Ctl) : catOkB x = true ↔ CatG x := by
  unfold catOkB CatG
  simp only [Bool.and_eq_true, decide_eq_true_eq, List.all_eq_true, List.mem_range]
  constructor
  · rintro ⟨h1, h2⟩
    have hs : ∀ k, k < x.sets.length → cstOkB (cstAt x.sets k) = true ∧ (k = 0 ∨ sLt (cstAt x.sets (k - 1)).nm (cstAt x.sets k).nm = true) := fun k hk => by
      have := h1 k hk; unfold cstAtB at this; simpa using this
    refine ⟨h2, ?_, fun s hs' => ?_⟩
    · unfold Srt
      rw [List.pairwise_iff_getElem]
      intro i j hi hj hij
      have := srt_lt (fun k hk h0 => by rcases (hs k hk).2 with h | h; (omega); (exact h)) j i hij hj
      rwa [cstAt_get hi, cstAt_get hj] at this
    · obtain ⟨k, hk, rfl⟩ := List.getElem_of_mem hs'
      have := (hs k hk).1
      rw [cstAt_get hk] at this
      exact (setG_iff _).1 this
  · rintro ⟨h1, h2, h3⟩
    refine ⟨fun k hk => ?_, h1⟩
    unfold cstAtB
    rw [Bool.and_eq_true, cstAt_get hk]
    refine ⟨(setG_iff _).2 (h3 _ (List.getElem_mem hk)), ?_⟩
    simp only [Bool.or_eq_true, beq_iff_eq]
    by_cases h0 : k = 0
    · exact .inl h0
    · unfold Srt at h2
      rw [List.pairwise_iff_getElem] at h2
      rw [cstAt_get (show k - 1 < x.sets.length by omega)]
      exact .inr (h2 (k - 1) k (by omega) hk (by omega))
/-- what a name leads to -/
def look : List Cst → ByteArray → Option (List Snp)
  | [], _ => none
  | s :: l, nm => if s.nm = nm then some s.snaps else look l nm
theorem look_none {nm : ByteArray} : ∀ {l : List Cst}, (∀ s ∈ l, s.nm ≠ nm) → look l nm = none
  | [], _ => rfl
  | s :: l, h => by unfold look; rw [if_neg (h s List.mem_cons_self), look_none (fun t ht => h t (List.mem_cons_of_mem _ ht))]
theorem srt_cons {s : Cst} {l : List Cst} (h : Srt (s :: l)) : (∀ t ∈ l, sLt s.nm t.nm = true) ∧ Srt l := List.pairwise_cons.1 h
theorem srt_ne {s : Cst} {l : List Cst} (h : Srt (s :: l)) : ∀ t ∈ l, t.nm ≠ s.nm := fun t ht e => sLt_ne ((srt_cons h).1 t ht) e.symm
theorem look_ext : ∀ {a b : List Cst}, Srt a → Srt b → (∀ s, look a s = look b s) → a = b
  | [], [], _, _, _ => rfl
  | [], t :: b, _, _, h => by have := h t.nm; unfold look at this; rw [if_pos rfl] at this; cases this
  | s :: a, [], _, _, h => by have := h s.nm; unfold look at this; rw [if_pos rfl] at this; cases this
  | s :: a, t :: b, ha, hb, h => by
    have e : s.nm = t.nm := by
      cases h1 : sLt s.nm t.nm
      · by_cases h2 : s.nm = t.nm
        · exact h2
        · have h3 := sLt_tri h1 h2
          have h4 := h t.nm
          rw [show look (t :: b) t.nm = some t.snaps by unfold look; rw [if_pos rfl], look_none (fun u hu => by
            rcases List.mem_cons.1 hu with rfl | hu
            · exact h2
            · exact fun e => sLt_ne (sLt_trans h3 ((srt_cons ha).1 u hu)) e.symm)] at h4
          cases h4
      · have h4 := h s.nm
        rw [show look (s :: a) s.nm = some s.snaps by unfold look; rw [if_pos rfl], look_none (fun u hu => by
          rcases List.mem_cons.1 hu with rfl | hu
          · exact fun e => sLt_ne h1 e.symm
          · exact fun e => sLt_ne (sLt_trans h1 ((srt_cons hb).1 u hu)) e.symm)] at h4
        cases h4
    have es : s.snaps = t.snaps := by
      have := h s.nm
      unfold look at this
      rw [if_pos rfl, if_pos e.symm] at this
      exact Option.some.inj this
    have et : s = t := by cases s; cases t; simp only at e es; rw [e, es]
    have ht : a = b := look_ext (srt_cons ha).2 (srt_cons hb).2 fun u => by
      by_cases hu : s.nm = u
      · rw [look_none (fun v hv => by rw [← hu]; exact srt_ne ha v hv), look_none (fun v hv => by rw [← hu, e]; exact srt_ne hb v hv)]
      · have := h u
        unfold look at this
        rwa [if_neg hu, if_neg (fun h => hu (e.trans h))] at this
    rw [et, ht]
theorem insF_srt {nm : ByteArray} : ∀ {l : List Cst}, Srt l → (∀ s ∈ l, s.nm ≠ nm) → Srt (insF l nm false) ∧ (∀ s, look (insF l nm false) s = if s = nm then some [] else look l s) ∧ ∀ s ∈ insF l nm false, s ∈ l ∨ s = ⟨nm, []⟩
  | [], _, _ => ⟨by simp [insF, Srt], fun s => by unfold insF look; simp only [Bool.false_eq_true, if_false]; by_cases h : nm = s; (rw [if_pos h, if_pos h.symm]); (rw [if_neg h, if_neg (fun e => h e.symm)]; rfl), fun s hs => by simp [insF] at hs; exact .inr hs⟩
  | s :: l, hs, hn => by
    have hsn := hn s List.mem_cons_self
    have hln : ∀ t ∈ l, t.nm ≠ nm := fun t ht => hn t (List.mem_cons_of_mem _ ht)
    have hc := srt_cons hs
    unfold insF
    by_cases h1 : sLt s.nm nm = false
    · rw [if_pos ⟨rfl, h1⟩, insF_true]
      have h2 := sLt_tri h1 hsn
      refine ⟨List.pairwise_cons.2 ⟨fun t ht => ?_, hs⟩, fun u => ?_, fun u hu => ?_⟩
      · rcases List.mem_cons.1 ht with rfl | ht
        · exact h2
        · exact sLt_trans h2 (hc.1 t ht)
      · show (if nm = u then some [] else look (s :: l) u) = _
        by_cases h : nm = u
        · rw [if_pos h, if_pos h.symm]
        · rw [if_neg h, if_neg (fun e => h e.symm)]
      · rcases List.mem_cons.1 hu with h | h
        · exact .inr h
        · exact .inl h
    · have h1' : sLt s.nm nm = true := by simpa using h1
      rw [if_neg (fun h => h1 h.2)]
      obtain ⟨i1, i2, i3⟩ := insF_srt hc.2 hln
      refine ⟨List.pairwise_cons.2 ⟨fun t ht => ?_, i1⟩, fun u => ?_, fun u hu => ?_⟩
      · rcases i3 t ht with h | rfl
        · exact hc.1 t h
        · exact h1'
      · show (if s.nm = u then some s.snaps else look (insF l nm false) u) = if u = nm then some [] else if s.nm = u then some s.snaps else look l u
        rw [i2 u]
        by_cases h : s.nm = u
        · rw [if_pos h, if_pos h, if_neg (fun e => hsn (h.trans e))]
        · rw [if_neg h, if_neg h]
      · rcases List.mem_cons.1 hu with rfl | h
        · exact .inl List.mem_cons_self
        · rcases i3 u h with h | h
          · exact .inl (List.mem_cons_of_mem _ h)
          · exact .inr h
theorem look_at : ∀ {l : List Cst} {k : Nat}, Srt l → k < l.length → look l (cstAt l k).nm = some (cstAt l k).snaps
  | [], k, _, hk => absurd hk (by simp)
  | s :: l, 0, _, _ => by simp [look, cstAt]
  | s :: l, k + 1, h, hk => by
    have hk' : k < l.length := by simpa using hk
    have e : cstAt (s :: l) (k + 1) = cstAt l k := by simp [cstAt]
    rw [e]
    unfold look
    rw [if_neg (fun h2 => srt_ne h (cstAt l k) (by rw [cstAt_get hk']; exact List.getElem_mem hk') h2.symm), look_at (srt_cons h).2 hk']
theorem look_del : ∀ {l : List Cst} {k : Nat}, Srt l → k < l.length → ∀ s, look (l.take k ++ l.drop (k + 1)) s = if s = (cstAt l k).nm then none else look l s
  | [], k, _, hk, _ => absurd hk (by simp)
  | t :: l, 0, h, _, s => by
    simp only [List.take_zero, List.nil_append, Nat.zero_add, List.drop_succ_cons, List.drop_zero]
    rw [show cstAt (t :: l) 0 = t by simp [cstAt]]
    by_cases e : s = t.nm
    · rw [if_pos e, look_none (fun u hu => by rw [e]; exact srt_ne h u hu)]
    · rw [if_neg e]; unfold look; rw [if_neg (fun h => e h.symm)]; cases l <;> rfl
  | t :: l, k + 1, h, hk, s => by
    have hk' : k < l.length := by simpa using hk
    have e : cstAt (t :: l) (k + 1) = cstAt l k := by simp [cstAt]
    rw [e]
    show (if t.nm = s then some t.snaps else look (l.take k ++ l.drop (k + 1)) s) = if s = (cstAt l k).nm then none else if t.nm = s then some t.snaps else look l s
    rw [look_del (srt_cons h).2 hk' s]
    by_cases h1 : t.nm = s
    · rw [if_pos h1, if_pos h1, if_neg (fun e2 => srt_ne h (cstAt l k) (by rw [cstAt_get hk']; exact List.getElem_mem hk') (by rw [← e2, h1]))]
    · rw [if_neg h1, if_neg h1]
theorem look_set {y : Cst} : ∀ {l : List Cst} {k : Nat}, Srt l → k < l.length → y.nm = (cstAt l k).nm → ∀ s, look (l.set k y) s = if s = (cstAt l k).nm then some y.snaps else look l s
  | [], k, _, hk, _, _ => absurd hk (by simp)
  | t :: l, 0, h, _, hy, s => by
    rw [show cstAt (t :: l) 0 = t by simp [cstAt]] at hy ⊢
    show (if y.nm = s then some y.snaps else look l s) = if s = t.nm then some y.snaps else if t.nm = s then some t.snaps else look l s
    rw [hy]
    by_cases h1 : t.nm = s
    · rw [if_pos h1, if_pos h1.symm]
    · rw [if_neg h1, if_neg (fun e => h1 e.symm), if_neg h1]
  | t :: l, k + 1, h, hk, hy, s => by
    have hk' : k < l.length := by simpa using hk
    have e : cstAt (t :: l) (k + 1) = cstAt l k := by simp [cstAt]
    rw [e] at hy ⊢
    show (if t.nm = s then some t.snaps else look (l.set k y) s) = if s = (cstAt l k).nm then some y.snaps else if t.nm = s then some t.snaps else look l s
    rw [look_set (srt_cons h).2 hk' hy s]
    by_cases h1 : t.nm = s
    · rw [if_pos h1, if_pos h1, if_neg (fun e2 => srt_ne h (cstAt l k) (by rw [cstAt_get hk']; exact List.getElem_mem hk') (by rw [← e2, h1]))]
    · rw [if_neg h1, if_neg h1]
theorem srt_set {l : List Cst} {k : Nat} {y : Cst} (h : Srt l) (hk : k < l.length) (hy : y.nm = (cstAt l k).nm) : Srt (l.set k y) := by
  have e : (l.set k y).map Cst.nm = l.map Cst.nm := by
    apply List.ext_getElem?
    intro i
    simp only [List.getElem?_map, List.getElem?_set]
    by_cases h1 : k = i
    · subst h1
      rw [if_pos rfl, if_pos hk, List.getElem?_eq_getElem hk, Option.map_some, Option.map_some, hy, cstAt_get hk]
    · rw [if_neg h1]
  have h2 : (l.map Cst.nm).Pairwise (fun a b => sLt a b = true) := List.pairwise_map.2 h
  rw [← e] at h2
  exact List.pairwise_map.1 h2
/-- what a command makes of what its name leads to -/
def sEff (m : Cm) (v : Option (List Snp)) : Option (List Snp) :=
  if m.kd = 7 then v else if m.kd = 1 then some (v.getD []) else if m.kd = 2 then none else v.map (fun l => (setDo ⟨m.s, l⟩ m).1.snaps)
theorem cm_snp3 {m : Cm} (hm : cmOkB m = true) (hk : m.kd = 3) : snpOkB ⟨m.nm, ByteArray.empty, m.ch⟩ = true := by
  unfold cmOkB at hm
  rw [if_neg (by omega)] at hm
  simp only [Bool.and_eq_true] at hm
  obtain ⟨⟨⟨⟨⟨⟨⟨h1, h2⟩, h3⟩, h4⟩, h5⟩, h6⟩, h7⟩, h8⟩ := hm
  rw [if_pos hk, Bool.and_eq_true] at h8
  have h5' : wordB m.nm = true := by
    rw [decide_eq_true hk, Bool.true_or] at h5
    unfold wifB at h5
    rwa [if_pos rfl] at h5
  unfold snpOkB
  simp only [Bool.and_eq_true]
  exact ⟨⟨⟨h5', by unfold tagB; simp⟩, h8.1⟩, h8.2⟩
theorem cm_snp4 {m : Cm} {p : Snp} (hm : cmOkB m = true) (hk : m.kd = 4) (hp : snpOkB p = true) : snpOkB ⟨p.nm, m.tg, p.ch⟩ = true := by
  unfold cmOkB at hm
  rw [if_neg (by omega)] at hm
  simp only [Bool.and_eq_true] at hm
  obtain ⟨⟨⟨⟨⟨⟨⟨h1, h2⟩, h3⟩, h4⟩, h5⟩, h6⟩, h7⟩, h8⟩ := hm
  have h6' : wordB m.tg = true := by
    rw [decide_eq_true hk] at h6
    unfold wifB at h6
    rwa [if_pos rfl] at h6
  unfold snpOkB at hp ⊢
  simp only [Bool.and_eq_true] at hp ⊢
  exact ⟨⟨⟨hp.1.1.1, by unfold tagB; rw [h6']; simp⟩, hp.1.2⟩, hp.2⟩
theorem setDo_nm (s : Cst) (m : Cm) : (setDo s m).1.nm = s.nm := by
  unfold setDo
  split
  · split
    · rfl
    · split <;> rfl
  · split
    · split <;> rfl
    · split <;> rfl
theorem pruL_sub : ∀ (l : List Snp) (g : Nat), (pruL l g).Sublist l
  | [], g => by simp [pruL]
  | p :: l, g => by
    unfold pruL
    split
    · exact (pruL_sub l (g - 1)).trans (List.sublist_cons_self _ _)
    · exact List.Sublist.append (List.Sublist.refl [p]) (pruL_sub l g)
theorem snpNm_sub {a b : List Snp} (h : a.Sublist b) (hn : (b.map Snp.nm).Nodup) : (a.map Snp.nm).Nodup := hn.sublist (h.map _)
/-- a set stays right -/
theorem setDo_g {s : Cst} {m : Cm} (h : SetG s) (hm : cmOkB m = true) (hkd : m.kd = 3 ∨ m.kd = 4 ∨ m.kd = 5 ∨ m.kd = 6) : SetG (setDo s m).1 := by
  obtain ⟨g1, g2, g3, g4⟩ := h
  unfold setDo
  split
  · rename_i k3
    split
    · exact ⟨g1, g2, g3, g4⟩
    · rename_i hf
      split
      · exact ⟨g1, g2, g3, g4⟩
      · rename_i h5
        have hnew : ∀ p ∈ s.snaps, p.nm ≠ m.nm := by
          rcases snpFnd_in m.nm s.snaps 0 with ⟨_, h⟩ | ⟨j, _, h, _⟩
          · exact h
          · omega
        refine ⟨g1, by simp only [comS, List.length_append, List.length_singleton]; omega, ?_, fun p hp => ?_⟩
        · simp only [comS, List.map_append, List.map_cons, List.map_nil]
          refine List.nodup_append.2 ⟨g3, by simp, fun a ha b hb e => ?_⟩
          obtain ⟨p, hp, rfl⟩ := List.mem_map.1 ha
          exact hnew p hp (by rw [e]; simpa using hb)
        · simp only [comS, List.mem_append, List.mem_singleton] at hp
          rcases hp with hp | rfl
          · exact g4 p hp
          · exact cm_snp3 hm k3
  · rename_i k3
    split
    · rename_i k4
      split
      · exact ⟨g1, g2, g3, g4⟩
      · rename_i hf
        obtain ⟨j, hj, e⟩ : ∃ j, j < s.snaps.length ∧ (snpFnd s.snaps 0 m.nm).toNat = j := by
          rcases snpFnd_in m.nm s.snaps 0 with ⟨h, _⟩ | ⟨j, hj, h, _⟩
          · omega
          · exact ⟨j, hj, by omega⟩
        rw [e]
        have e2 : ((tagS s m j).snaps).map Snp.nm = s.snaps.map Snp.nm := by
          apply List.ext_getElem?
          intro i
          simp only [tagS, List.getElem?_map, List.getElem?_set]
          by_cases h1 : j = i
          · subst h1
            rw [if_pos rfl, if_pos hj, List.getElem?_eq_getElem hj, Option.map_some, Option.map_some, snpAt_of (List.getElem?_eq_getElem hj)]
          · rw [if_neg h1]
        refine ⟨g1, by simp only [tagS, List.length_set]; exact g2, by rw [e2]; exact g3, fun p hp => ?_⟩
        simp only [tagS] at hp
        rcases List.mem_or_eq_of_mem_set hp with hp | rfl
        · exact g4 p hp
        · rw [snpAt_of (List.getElem?_eq_getElem hj)]
          exact cm_snp4 hm k4 (g4 _ (List.getElem_mem hj))
    · split
      · have hs := pruL_sub s.snaps (goneN s.snaps m.n.toNat)
        exact ⟨g1, Nat.le_trans hs.length_le g2, snpNm_sub hs g3, fun p hp => g4 p (hs.subset hp)⟩
      · exact ⟨g1, g2, g3, g4⟩
theorem cm_set {m : Cm} (hm : cmOkB m = true) (h0 : m.kd ≠ 0) (h7 : m.kd ≠ 7) : wordB m.s = true ∧ 1 ≤ m.kd ∧ m.kd ≤ 6 := by
  have hb := (cmOk_bd hm).kd
  unfold cmOkB at hm
  rw [if_neg h0] at hm
  simp only [Bool.and_eq_true] at hm
  obtain ⟨⟨⟨⟨⟨⟨⟨h1, h2⟩, h3⟩, h4⟩, h5⟩, h6⟩, _⟩, h8⟩ := hm
  rw [decide_eq_true h7] at h4
  unfold wifB at h4
  rw [if_pos rfl] at h4
  exact ⟨h4, by omega, by omega⟩
theorem setDo_nmfree (s : Cst) (nm : ByteArray) (m : Cm) : (setDo ⟨nm, s.snaps⟩ m).1.snaps = (setDo s m).1.snaps := by
  unfold setDo
  simp only []
  split
  · split
    · rfl
    · split <;> rfl
  · split
    · split <;> rfl
    · split <;> rfl
theorem sEff_7 {m : Cm} (h : m.kd = 7) (v : Option (List Snp)) : sEff m v = v := by unfold sEff; rw [if_pos h]
theorem sEff_1 {m : Cm} (h : m.kd = 1) (v : Option (List Snp)) : sEff m v = some (v.getD []) := by unfold sEff; rw [if_neg (by omega), if_pos h]
theorem sEff_2 {m : Cm} (h : m.kd = 2) (v : Option (List Snp)) : sEff m v = none := by unfold sEff; rw [if_neg (by omega), if_neg (by omega), if_pos h]
theorem sEff_o {m : Cm} (h7 : m.kd ≠ 7) (h1 : m.kd ≠ 1) (h2 : m.kd ≠ 2) (v : Option (List Snp)) : sEff m v = v.map (fun l => (setDo ⟨m.s, l⟩ m).1.snaps) := by unfold sEff; rw [if_neg h7, if_neg h1, if_neg h2]
theorem sEff_none {m : Cm} (h7 : m.kd ≠ 7) (h1 : m.kd ≠ 1) : sEff m none = none := by unfold sEff; rw [if_neg h7, if_neg h1]; split <;> rfl
/-- a command upon a right catalog with room: it stays right, and only what the command's name leads to is changed -/
theorem cat_step {x : Ctl} {m : Cm} (h : CatG x) (hm : cmOkB m = true) (h0 : m.kd ≠ 0) (hroom : m.kd = 1 → look x.sets m.s = none → x.sets.length < 5) :
    CatG (catDo x m).1 ∧ ∀ s, look (catDo x m).1.sets s = if s = m.s then sEff m (look x.sets s) else look x.sets s := by
  have hC := (catG_iff x).2 h
  obtain ⟨c1, c2, c3⟩ := h
  have hg : CatG x := ⟨c1, c2, c3⟩
  unfold catDo
  rw [if_neg (by rw [hC]; simp), if_neg (by rw [hm]; simp), if_neg h0]
  by_cases k1 : m.kd = 1
  · have k7 : m.kd ≠ 7 := by omega
    rw [if_pos k1]
    rcases cstFnd_in m.s x.sets 0 with ⟨e, hnf⟩ | ⟨j, hj, e, he, _⟩
    · rw [if_neg (by omega)]
      have hl := look_none hnf
      have h5 := hroom k1 hl
      rw [if_neg (by omega)]
      obtain ⟨i1, i2, i3⟩ := insF_srt c2 hnf
      rw [insF_ins] at i1 i2 i3
      refine ⟨⟨?_, i1, fun s hs => ?_⟩, fun s => ?_⟩
      · have := (insS_mem (l := x.sets) (nm := m.s)).1; simp only []; omega
      · rcases i3 s hs with h | rfl
        · exact c3 s h
        · exact ⟨(cm_set hm h0 k7).1, by simp, by simp, fun p hp => by cases hp⟩
      · rw [i2 s]
        by_cases hs : s = m.s
        · rw [if_pos hs, if_pos hs, hs, hl, sEff_1 k1]; rfl
        · rw [if_neg hs, if_neg hs]
    · rw [if_pos (by omega)]
      refine ⟨hg, fun s => ?_⟩
      by_cases hs : s = m.s
      · rw [if_pos hs, hs, ← he, look_at c2 hj, sEff_1 k1]; rfl
      · rw [if_neg hs]
  rw [if_neg k1]
  by_cases k7 : m.kd = 7
  · rw [if_pos k7]
    exact ⟨hg, fun s => by split; (rw [sEff_7 k7]); (rfl)⟩
  rw [if_neg k7]
  rcases cstFnd_in m.s x.sets 0 with ⟨e, hnf⟩ | ⟨j, hj, e, he, _⟩
  · rw [if_pos (by omega)]
    refine ⟨hg, fun s => ?_⟩
    by_cases hs : s = m.s
    · rw [if_pos hs, hs, look_none hnf, sEff_none k7 k1]
    · rw [if_neg hs]
  · rw [if_neg (by omega)]
    have ej : (cstFnd x.sets 0 m.s).toNat = j := by omega
    rw [ej]
    by_cases k2 : m.kd = 2
    · rw [if_pos k2]
      refine ⟨⟨by simp only [List.length_append, List.length_take, List.length_drop]; omega, ?_, fun s hs => ?_⟩, fun s => ?_⟩
      · have hsub : (x.sets.take j ++ x.sets.drop (j + 1)).Sublist x.sets := by
          have h5 : (x.sets.take j ++ x.sets.drop (j + 1)).Sublist (x.sets.take j ++ x.sets.drop j) := List.Sublist.append (List.Sublist.refl _) (List.drop_sublist_drop_left _ (by omega))
          rwa [List.take_append_drop] at h5
        exact List.Pairwise.sublist hsub c2
      · rcases List.mem_append.1 hs with h | h
        · exact c3 s (List.mem_of_mem_take h)
        · exact c3 s (List.mem_of_mem_drop h)
      · rw [look_del c2 hj s, he]
        by_cases hs : s = m.s
        · rw [if_pos hs, if_pos hs, sEff_2 k2]
        · rw [if_neg hs, if_neg hs]
    rw [if_neg k2]
    have hkd := cm_set hm h0 k7
    have hsg := c3 (cstAt x.sets j) (by rw [cstAt_get hj]; exact List.getElem_mem hj)
    have hng := setDo_g hsg hm (by omega)
    have hnn := setDo_nm (cstAt x.sets j) m
    refine ⟨⟨by simp only [List.length_set]; exact c1, srt_set c2 hj hnn, fun s hs => ?_⟩, fun s => ?_⟩
    · rcases List.mem_or_eq_of_mem_set hs with h | rfl
      · exact c3 s h
      · exact hng
    · rw [look_set c2 hj hnn s, he]
      by_cases hs : s = m.s
      · rw [if_pos hs, if_pos hs, sEff_o k7 k1 k2, hs, ← he, look_at c2 hj, Option.map_some, setDo_nmfree]
      · rw [if_neg hs, if_neg hs]
end Go.Proofs.Ytdphdnllhmnelaa
/- Plain laws: commands in another order, those of one name in the same, lead to the same catalog. -/
namespace Go.Proofs.Ytdphdnllhmnelaa
open Go.RowKit
/-- commands one by one upon a catalog -/
def catPlay (x : Ctl) : List Cm → Ctl
  | [] => x
  | m :: l => catPlay (catDo x m).1 l
theorem nodup_len {α : Type} [DecidableEq α] : ∀ {a b : List α}, a.Nodup → (∀ x ∈ a, x ∈ b) → a.length ≤ b.length
  | [], _, _, _ => Nat.zero_le _
  | x :: a, b, hn, h => by
    have hx := h x List.mem_cons_self
    have hc := List.nodup_cons.1 hn
    have := nodup_len (a := a) (b := b.erase x) hc.2 (fun y hy => (List.mem_erase_of_ne (fun e => hc.1 (by rw [← e]; exact hy))).2 (h y (List.mem_cons_of_mem _ hy)))
    rw [List.length_erase_of_mem hx] at this
    have := List.length_pos_of_mem hx
    simp only [List.length_cons]
    omega
theorem srt_nodup {l : List Cst} (h : Srt l) : (l.map Cst.nm).Nodup := by
  rw [List.nodup_iff_pairwise_ne, List.pairwise_map]
  exact h.imp (fun h => sLt_ne h)
theorem look_mem {l : List Cst} (h : Srt l) {s : Cst} (hs : s ∈ l) : look l s.nm = some s.snaps := by
  obtain ⟨k, hk, rfl⟩ := List.getElem_of_mem hs
  have := look_at h hk
  rwa [cstAt_get hk] at this
/-- the room: the names of the sets lie within few -/
theorem room {x : Ctl} {N : List ByteArray} {nm : ByteArray} (h : CatG x) (hN : N.length ≤ 5) (hx : ∀ s v, look x.sets s = some v → s ∈ N) (hm : nm ∈ N) (hl : look x.sets nm = none) : x.sets.length < 5 := by
  have hnot : ¬ nm ∈ x.sets.map Cst.nm := fun hmem => by
    obtain ⟨s, hs, e⟩ := List.mem_map.1 hmem
    have := look_mem h.2.1 hs
    rw [e, hl] at this
    cases this
  have hnd : (nm :: x.sets.map Cst.nm).Nodup := List.nodup_cons.2 ⟨hnot, srt_nodup h.2.1⟩
  have := nodup_len hnd (fun y hy => by
    rcases List.mem_cons.1 hy with rfl | hy
    · exact hm
    · obtain ⟨s, hs, rfl⟩ := List.mem_map.1 hy
      exact hx _ _ (look_mem h.2.1 hs))
  simp only [List.length_cons, List.length_map] at this
  omega
theorem sEff_some {m : Cm} {v : Option (List Snp)} {w : List Snp} (h : sEff m v = some w) : m.kd = 1 ∨ ∃ u, v = some u := by
  by_cases h1 : m.kd = 1
  · exact .inl h1
  · by_cases h7 : m.kd = 7
    · rw [sEff_7 h7] at h; exact .inr ⟨_, h⟩
    · cases v with
      | none => rw [sEff_none h7 h1] at h; cases h
      | some u => exact .inr ⟨u, rfl⟩
theorem play_look {N : List ByteArray} (hN : N.length ≤ 5) : ∀ (l : List Cm) (x : Ctl), CatG x → (∀ s v, look x.sets s = some v → s ∈ N) → (∀ m ∈ l, cmOkB m = true ∧ m.kd ≠ 0 ∧ (m.kd = 1 → m.s ∈ N)) →
    CatG (catPlay x l) ∧ ∀ s, look (catPlay x l).sets s = (l.filter (fun m => decide (m.s = s))).foldl (fun v m => sEff m v) (look x.sets s)
  | [], x, hg, _, _ => ⟨hg, fun s => rfl⟩
  | m :: l, x, hg, hx, hl => by
    obtain ⟨h1, h2, h3⟩ := hl m List.mem_cons_self
    obtain ⟨g1, g2⟩ := cat_step hg h1 h2 (fun hk hn => room hg hN hx (h3 hk) hn)
    have hx' : ∀ s v, look (catDo x m).1.sets s = some v → s ∈ N := fun s v hv => by
      rw [g2 s] at hv
      by_cases hs : s = m.s
      · rw [if_pos hs] at hv
        rcases sEff_some hv with h | ⟨u, hu⟩
        · rw [hs]; exact h3 h
        · exact hx s u hu
      · rw [if_neg hs] at hv; exact hx s v hv
    obtain ⟨k1, k2⟩ := play_look hN l (catDo x m).1 g1 hx' (fun m' hm' => hl m' (List.mem_cons_of_mem _ hm'))
    refine ⟨k1, fun s => ?_⟩
    show look (catPlay (catDo x m).1 l).sets s = _
    rw [k2 s, g2 s, List.filter_cons]
    by_cases hs : s = m.s
    · rw [if_pos hs, if_pos (by simpa using hs.symm), List.foldl_cons]
    · rw [if_neg hs, if_neg (by simpa using fun e => hs e.symm)]
/-- two sequences that agree name by name -/
theorem play_same {N : List ByteArray} (hN : N.length ≤ 5) {a b : List Cm} (ha : ∀ m ∈ a, cmOkB m = true ∧ m.kd ≠ 0 ∧ (m.kd = 1 → m.s ∈ N)) (hb : ∀ m ∈ b, cmOkB m = true ∧ m.kd ≠ 0 ∧ (m.kd = 1 → m.s ∈ N))
    (h : ∀ s, a.filter (fun m => decide (m.s = s)) = b.filter (fun m => decide (m.s = s))) : catPlay ⟨[]⟩ a = catPlay ⟨[]⟩ b := by
  have hg : CatG ⟨[]⟩ := ⟨by simp, List.Pairwise.nil, fun s hs => by cases hs⟩
  have h0 : ∀ s v, look (⟨[]⟩ : Ctl).sets s = some v → s ∈ N := fun s v hv => by cases hv
  obtain ⟨a1, a2⟩ := play_look hN a ⟨[]⟩ hg h0 ha
  obtain ⟨b1, b2⟩ := play_look hN b ⟨[]⟩ hg h0 hb
  have he := look_ext a1.2.1 b1.2.1 (fun s => by rw [a2 s, b2 s, h s])
  cases h1 : catPlay ⟨[]⟩ a
  cases h2 : catPlay ⟨[]⟩ b
  rw [h1, h2] at he
  simp only at he
  rw [he]
theorem sorted_perm {a b : List Nat} (ha : a.Pairwise (fun x y => x < y)) (hb : b.Pairwise (fun x y => x < y)) (h : a.Perm b) : a = b :=
  List.Perm.eq_of_pairwise (le := fun x y : Nat => x < y) (fun x y _ _ h1 h2 => by omega) ha hb h
/-- the order of those of one name -/
theorem same_filter (l : List Cm) (lv : Nat → Nat) (hlv : ∀ i j, i < j → j < l.length → (cmAt l i).s = (cmAt l j).s → lv i < lv j) (o : List Nat) (hp : o.Perm (List.range l.length)) (ho : o.Pairwise (fun a b => lv a ≤ lv b)) (s : ByteArray) :
    (o.map (cmAt l)).filter (fun m => decide (m.s = s)) = l.filter (fun m => decide (m.s = s)) := by
  have hl : (List.range l.length).map (cmAt l) = l := by
    apply List.ext_getElem?
    intro i
    by_cases hi : i < l.length
    · simp [cmAt, hi]
    · rw [List.getElem?_eq_none (by simpa using hi), List.getElem?_eq_none (by omega)]
  have hnd : o.Nodup := hp.nodup_iff.2 List.nodup_range
  have hmem : ∀ a ∈ o, a < l.length := fun a ha => List.mem_range.1 (hp.mem_iff.1 ha)
  have key : o.filter (fun a => decide ((cmAt l a).s = s)) = (List.range l.length).filter (fun a => decide ((cmAt l a).s = s)) := by
    have h1 : (o.filter (fun a => decide ((cmAt l a).s = s))).Pairwise (fun a b => a < b) := by
      have h2 : (o.filter (fun a => decide ((cmAt l a).s = s))).Pairwise (fun a b => lv a ≤ lv b ∧ a ≠ b) := ((ho.and (List.nodup_iff_pairwise_ne.1 hnd))).filter _
      refine h2.imp_of_mem ?_
      intro a b ha hb ⟨h3, h4⟩
      rw [List.mem_filter] at ha hb
      have ea : (cmAt l a).s = s := by simpa using ha.2
      have eb : (cmAt l b).s = s := by simpa using hb.2
      rcases Nat.lt_trichotomy a b with h | h | h
      · exact h
      · exact absurd h h4
      · have := hlv b a h (hmem a ha.1) (by rw [ea, eb]); omega
    have h2 : ((List.range l.length).filter (fun a => decide ((cmAt l a).s = s))).Pairwise (fun a b => a < b) := List.pairwise_lt_range.filter _
    exact sorted_perm h1 h2 (hp.filter _)
  have h3 := List.filter_map (f := cmAt l) (p := fun m => decide (m.s = s)) (l := List.range l.length)
  rw [hl] at h3
  rw [List.filter_map, h3]
  exact congrArg (List.map (cmAt l)) key
end Go.Proofs.Ytdphdnllhmnelaa
/- Plain laws: a run of commands of different clients, in whatever order, leads to one catalog. -/
namespace Go.Proofs.Ytdphdnllhmnelaa
open Go.RowKit
theorem saisG_iff (l : List Sai) : saisOkB l = true ↔ Rising l ∧ ∀ y ∈ l, inB y.cl 1 9 = true ∧ inB y.no 1 1000 = true := by
  constructor
  · intro h
    refine ⟨saisOk_rise h, fun y hy => ?_⟩
    obtain ⟨k, hk, rfl⟩ := List.getElem_of_mem hy
    have h1 := all_at h hk
    unfold saiAtB at h1
    simp only [Bool.and_eq_true] at h1
    rw [saiAt_get hk] at h1
    exact h1.1
  · rintro ⟨h1, h2⟩
    refine saisOk_yes fun k hk => ?_
    unfold saiAtB
    rw [saiAt_get hk]
    have h3 := h2 _ (List.getElem_mem hk)
    rw [h3.1, h3.2]
    simp only [Bool.true_and, Bool.or_eq_true, beq_iff_eq, decide_eq_true_eq]
    by_cases h0 : k = 0
    · exact .inl h0
    · unfold Rising at h1
      rw [List.pairwise_iff_getElem] at h1
      rw [saiAt_get (show k - 1 < l.length by omega)]
      exact .inr (h1 (k - 1) k (by omega) hk (by omega))
theorem putS_rise {x : Sai} : ∀ {l : List Sai}, Rising l → Rising (putS l x)
  | [], _ => by simp [putS, Rising]
  | y :: l, h => by
    unfold Rising at h
    have hc := List.pairwise_cons.1 h
    unfold putS
    split
    · rename_i h1
      refine List.pairwise_cons.2 ⟨fun z hz => ?_, putS_rise hc.2⟩
      rcases putS_mem.2 z hz with h2 | rfl
      · exact hc.1 z h2
      · exact h1
    · split
      · rename_i h1 h2
        exact List.pairwise_cons.2 ⟨fun z hz => by have := hc.1 z hz; omega, hc.2⟩
      · rename_i h1 h2
        refine List.pairwise_cons.2 ⟨fun z hz => ?_, h⟩
        rcases List.mem_cons.1 hz with rfl | hz
        · omega
        · have := hc.1 z hz; omega
theorem cm_nums {m : Cm} (hm : cmOkB m = true) (h0 : m.kd ≠ 0) : inB m.cl 1 9 = true ∧ inB m.no 1 1000 = true := by
  unfold cmOkB at hm
  rw [if_neg h0] at hm
  simp only [Bool.and_eq_true] at hm
  obtain ⟨⟨⟨⟨⟨⟨⟨h1, h2⟩, h3⟩, h4⟩, h5⟩, h6⟩, _⟩, h8⟩ := hm
  exact ⟨h2, h3⟩
theorem st_step {x : Sta} {m : Cm} (h : staOkB x = true) (hm : cmOkB m = true) (h0 : m.kd ≠ 0) (hn : ∀ y ∈ x.said, y.cl ≠ m.cl) (hg : CatG (catDo x.cat m).1) :
    staOkB (stDo x m).1 = true ∧ (stDo x m).1.cat = (catDo x.cat m).1 ∧ ∀ y ∈ (stDo x m).1.said, y ∈ x.said ∨ y.cl = m.cl := by
  have hr : repS x.said m = none := repS_none hn
  have e : stDo x m = (⟨(catDo x.cat m).1, putS x.said (saiNew x m)⟩, (catDo x.cat m).2) := by
    unfold stDo
    rw [if_neg (by rw [h]; simp), if_neg (by rw [hm]; simp), if_neg h0, stGo_none hr]
  rw [e]
  have hs : saisOkB x.said = true := by unfold staOkB at h; rw [Bool.and_eq_true] at h; exact h.1
  obtain ⟨r1, r2⟩ := (saisG_iff _).1 hs
  refine ⟨?_, rfl, fun y hy => ?_⟩
  · unfold staOkB
    rw [Bool.and_eq_true]
    refine ⟨(saisG_iff _).2 ⟨putS_rise r1, fun y hy => ?_⟩, (catG_iff _).2 hg⟩
    rcases putS_mem.2 y hy with h1 | rfl
    · exact r2 y h1
    · exact cm_nums hm h0
  · rcases putS_mem.2 y hy with h1 | rfl
    · exact .inl h1
    · exact .inr rfl
theorem st_play {N : List ByteArray} (hN : N.length ≤ 5) : ∀ (l : List Cm) (x : Sta), staOkB x = true → (∀ s v, look x.cat.sets s = some v → s ∈ N) → (∀ m ∈ l, cmOkB m = true ∧ m.kd ≠ 0 ∧ (m.kd = 1 → m.s ∈ N)) → (l.map Cm.cl).Nodup →
    (∀ y ∈ x.said, ∀ m ∈ l, y.cl ≠ m.cl) → (stPlay x l).cat = catPlay x.cat l ∧ staOkB (stPlay x l) = true
  | [], x, h, _, _, _, _ => ⟨rfl, h⟩
  | m :: l, x, h, hx, hl, hc, hs => by
    obtain ⟨h1, h2, h3⟩ := hl m List.mem_cons_self
    have hcat : CatG x.cat := (catG_iff _).1 (by unfold staOkB at h; rw [Bool.and_eq_true] at h; exact h.2)
    obtain ⟨g1, g2⟩ := cat_step hcat h1 h2 (fun hk hn => room hcat hN hx (h3 hk) hn)
    obtain ⟨s1, s2, s3⟩ := st_step h h1 h2 (fun y hy => hs y hy m List.mem_cons_self) g1
    have hx' : ∀ s v, look (stDo x m).1.cat.sets s = some v → s ∈ N := fun s v hv => by
      rw [s2, g2 s] at hv
      by_cases he : s = m.s
      · rw [if_pos he] at hv
        rcases sEff_some hv with h | ⟨u, hu⟩
        · rw [he]; exact h3 h
        · exact hx s u hu
      · rw [if_neg he] at hv; exact hx s v hv
    have hcc := List.nodup_cons.1 (show (m.cl :: l.map Cm.cl).Nodup from hc)
    have hs' : ∀ y ∈ (stDo x m).1.said, ∀ m' ∈ l, y.cl ≠ m'.cl := fun y hy m' hm' => by
      rcases s3 y hy with h | h
      · exact hs y h m' (List.mem_cons_of_mem _ hm')
      · rw [h]; exact fun e => hcc.1 (by rw [e]; exact List.mem_map.2 ⟨m', hm', rfl⟩)
    obtain ⟨k1, k2⟩ := st_play hN l (stDo x m).1 s1 hx' (fun m' hm' => hl m' (List.mem_cons_of_mem _ hm')) hcc.2 hs'
    refine ⟨?_, k2⟩
    show (stPlay (stDo x m).1 l).cat = catPlay (catDo x.cat m).1 l
    rw [k1, s2]
theorem staNew_ok : staOkB staNew = true := by
  unfold staOkB
  rw [Bool.and_eq_true]
  exact ⟨rfl, (catG_iff _).2 ⟨by simp [staNew], List.Pairwise.nil, fun s hs => by cases hs⟩⟩
theorem pick_map (l : List Cm) : ∀ {o : List Nat}, (∀ a ∈ o, a < l.length) → pickL l (o.map (fun j : Nat => (j : Int))) = o.map (cmAt l)
  | [], _ => rfl
  | a :: o, h => by
    have ha := h a List.mem_cons_self
    rw [List.map_cons, pickL, if_pos ⟨by omega, by omega⟩, pick_map l (fun b hb => h b (List.mem_cons_of_mem _ hb)), List.map_cons, Int.toNat_natCast]
/-- a run in an order that keeps the order of those of one name -/
theorem run_cat {N : List ByteArray} (hN : N.length ≤ 5) (l : List Cm) (hl : ∀ m ∈ l, cmOkB m = true ∧ m.kd ≠ 0 ∧ (m.kd = 1 → m.s ∈ N)) (hc : (l.map Cm.cl).Nodup) (lv : Nat → Nat) (hlv : ∀ i j, i < j → j < l.length → (cmAt l i).s = (cmAt l j).s → lv i < lv j)
    (o : List Nat) (hp : o.Perm (List.range l.length)) (ho : o.Pairwise (fun a b => lv a ≤ lv b)) : (runL l (o.map (fun j : Nat => (j : Int)))).cat = catPlay ⟨[]⟩ l ∧ staOkB (runL l (o.map (fun j : Nat => (j : Int)))) = true := by
  have hmem : ∀ a ∈ o, a < l.length := fun a ha => List.mem_range.1 (hp.mem_iff.1 ha)
  have hperm : (o.map (cmAt l)).Perm l := by
    have h1 := hp.map (cmAt l)
    have h2 : (List.range l.length).map (cmAt l) = l := by
      apply List.ext_getElem?
      intro i
      by_cases hi : i < l.length
      · simp [cmAt, hi]
      · rw [List.getElem?_eq_none (by simpa using hi), List.getElem?_eq_none (by omega)]
    rwa [h2] at h1
  have hl' : ∀ m ∈ o.map (cmAt l), cmOkB m = true ∧ m.kd ≠ 0 ∧ (m.kd = 1 → m.s ∈ N) := fun m hm => hl m (hperm.mem_iff.1 hm)
  have hc' : ((o.map (cmAt l)).map Cm.cl).Nodup := (hperm.map Cm.cl).nodup_iff.2 hc
  unfold runL
  rw [pick_map l hmem]
  obtain ⟨k1, k2⟩ := st_play hN (o.map (cmAt l)) staNew staNew_ok (fun s v hv => by cases hv) hl' hc' (fun y hy => by cases hy)
  refine ⟨?_, k2⟩
  rw [k1]
  exact play_same hN hl' hl (same_filter l lv hlv o hp ho)
end Go.Proofs.Ytdphdnllhmnelaa
/- Plain laws: the batches of commands, one behind the other, are an order that keeps the order of those of one name; they fit. -/
namespace Go.Proofs.Ytdphdnllhmnelaa
open Go.RowKit
theorem lvTo_ge (l : List Cm) (f : Nat → Nat) (i : Nat) : ∀ k j, j < k → clashB (cmAt l j) (cmAt l i) = true → f j + 1 ≤ lvTo l f i k
  | 0, j, h, _ => absurd h (by omega)
  | k + 1, j, h, hc => by
    unfold lvTo
    by_cases e : j = k
    · subst e
      rw [if_pos hc]
      omega
    · have := lvTo_ge l f i k j (by omega) hc
      split <;> omega
theorem lv_clash (l : List Cm) {i j : Nat} (h : i < j) (hc : clashB (cmAt l i) (cmAt l j) = true) : lv l i < lv l j := by
  have := lvTo_ge l (lv l) j j i h hc
  rw [← lv_eq] at this
  omega
theorem clash_same {x y : Cm} (hx : cmOkB x = true) (hy : cmOkB y = true) (h1 : x.kd ≠ 0) (h2 : y.kd ≠ 0) (hs : x.s = y.s) : clashB x y = true := by
  unfold clashB
  rw [hx, hy, show (x.kd == 0) = false from by simpa using h1, show (y.kd == 0) = false from by simpa using h2]
  simp [hs]
/-- the numbers of level b -/
def rowN (l : List Cm) (b : Nat) : List Nat := (List.range l.length).filter (fun j => lv l j == b)
theorem rowN_int (l : List Cm) (b : Nat) : rowOf l l.length b = (rowN l b).map (fun j : Nat => (j : Int)) := rfl
/-- the numbers, level by level, each level turned by g -/
def byLv (g : List Nat → List Nat) (l : List Cm) (m : Nat) : List Nat := ((List.range m).map (fun b => g (rowN l b))).flatten
theorem byLv_succ (g : List Nat → List Nat) (l : List Cm) (m : Nat) : byLv g l (m + 1) = byLv g l m ++ g (rowN l m) := by
  unfold byLv
  rw [List.range_succ, List.map_append, List.flatten_append]
  simp
theorem rowN_mem {l : List Cm} {b a : Nat} : a ∈ rowN l b ↔ a < l.length ∧ lv l a = b := by
  unfold rowN
  rw [List.mem_filter, List.mem_range]
  simp
theorem byLv_lv (g : List Nat → List Nat) (hg : ∀ r, (g r).Perm r) (l : List Cm) : ∀ m, (∀ a ∈ byLv g l m, lv l a < m) ∧ (byLv g l m).Pairwise (fun a b => lv l a ≤ lv l b)
  | 0 => ⟨fun a h => by simp [byLv] at h, by simp [byLv]⟩
  | m + 1 => by
    obtain ⟨h1, h2⟩ := byLv_lv g hg l m
    rw [byLv_succ]
    have hm : ∀ a ∈ g (rowN l m), lv l a = m := fun a ha => (rowN_mem.1 ((hg _).mem_iff.1 ha)).2
    refine ⟨fun a ha => ?_, List.pairwise_append.2 ⟨h2, ?_, fun a ha b hb => by rw [hm b hb]; exact Nat.le_of_lt (h1 a ha)⟩⟩
    · rcases List.mem_append.1 ha with h | h
      · have := h1 a h; omega
      · rw [hm a h]; omega
    · refine List.Pairwise.imp_of_mem (R := fun _ _ => True) ?_ (List.pairwise_iff_getElem.2 fun _ _ _ _ _ => trivial)
      intro a b ha hb _
      rw [hm a ha, hm b hb]
      exact Nat.le_refl _
theorem byLv_perm (g : List Nat → List Nat) (hg : ∀ r, (g r).Perm r) (l : List Cm) : ∀ m, (byLv g l m).Perm ((List.range l.length).filter (fun j => decide (lv l j < m)))
  | 0 => by simp [byLv]
  | m + 1 => by
    rw [byLv_succ]
    refine ((byLv_perm g hg l m).append (hg (rowN l m))).trans ?_
    have h := List.filter_append_perm (fun j => decide (lv l j < m)) ((List.range l.length).filter (fun j => decide (lv l j < m + 1)))
    rw [List.filter_filter, List.filter_filter] at h
    refine List.Perm.trans ?_ h
    refine List.Perm.append ?_ ?_
    · refine List.Perm.of_eq (List.filter_congr fun a _ => ?_)
      by_cases h1 : lv l a < m
      · simp [h1]; omega
      · simp [h1]
    · unfold rowN
      refine List.Perm.of_eq (List.filter_congr fun a _ => ?_)
      by_cases h1 : lv l a = m
      · simp [h1]
      · by_cases h2 : lv l a < m
        · simp [h1, h2]
        · have : ¬ lv l a < m + 1 := by omega
          simp [h1, this]
theorem byLv_all (g : List Nat → List Nat) (hg : ∀ r, (g r).Perm r) (l : List Cm) : (byLv g l (mxL l l.length)).Perm (List.range l.length) := by
  have h := byLv_perm g hg l (mxL l l.length)
  have e : (List.range l.length).filter (fun j => decide (lv l j < mxL l l.length)) = List.range l.length := by
    rw [List.filter_eq_self]
    intro a ha
    simpa using lv_lt l (List.mem_range.1 ha)
  rwa [e] at h
theorem batch_rows {l : List Cm} (h : cmsOkB l = true) : batchL l = rowsOf l l.length := by unfold batchL; rw [if_pos h]
theorem map_flat (l : List Cm) (g : List Nat → List Nat) (m : Nat) : ((List.range m).map (fun b => (g (rowN l b)).map (fun j : Nat => (j : Int)))).flatten = (byLv g l m).map (fun j : Nat => (j : Int)) := by
  unfold byLv
  rw [List.map_flatten, List.map_map]
  rfl
theorem batch_flat {l : List Cm} (h : cmsOkB l = true) : (batchL l).flatten = (byLv id l (mxL l l.length)).map (fun j : Nat => (j : Int)) := by
  rw [batch_rows h, ← map_flat]
  rfl
theorem batch_turned {l : List Cm} (h : cmsOkB l = true) : ((batchL l).map List.reverse).flatten = (byLv List.reverse l (mxL l l.length)).map (fun j : Nat => (j : Int)) := by
  rw [batch_rows h, ← map_flat]
  unfold rowsOf
  rw [List.map_map]
  congr 1
  apply List.map_congr_left
  intro b _
  show (rowOf l l.length b).reverse = _
  rw [rowN_int, List.map_reverse]
/-- the run in an order of the batches -/
theorem run_batches {N : List ByteArray} (hN : N.length ≤ 5) {l : List Cm} (h : cmsOkB l = true) (hl : ∀ m ∈ l, m.kd = 1 → m.s ∈ N) (hc : (l.map Cm.cl).Nodup) (g : List Nat → List Nat) (hg : ∀ r, (g r).Perm r) :
    (runL l ((byLv g l (mxL l l.length)).map (fun j : Nat => (j : Int)))).cat = catPlay ⟨[]⟩ l ∧ staOkB (runL l ((byLv g l (mxL l l.length)).map (fun j : Nat => (j : Int)))) = true := by
  have hok : ∀ m ∈ l, cmOkB m = true ∧ m.kd ≠ 0 := fun m hm => by
    unfold cmsOkB at h
    simp only [Bool.and_eq_true, List.all_eq_true] at h
    have := h.2 m hm
    simpa using this
  refine run_cat hN l (fun m hm => ⟨(hok m hm).1, (hok m hm).2, hl m hm⟩) hc (lv l) (fun i j hij hj hs => ?_) _ (byLv_all g hg l) (byLv_lv g hg l _).2
  have hi : i < l.length := by omega
  have mi : cmAt l i ∈ l := by rw [show cmAt l i = l[i] by simp [cmAt, hi]]; exact List.getElem_mem hi
  have mj : cmAt l j ∈ l := by rw [show cmAt l j = l[j] by simp [cmAt, hj]]; exact List.getElem_mem hj
  exact lv_clash l hij (clash_same (hok _ mi).1 (hok _ mj).1 (hok _ mi).2 (hok _ mj).2 hs)
/-- the run in the order of the commands -/
theorem run_all {N : List ByteArray} (hN : N.length ≤ 5) {l : List Cm} (h : cmsOkB l = true) (hl : ∀ m ∈ l, m.kd = 1 → m.s ∈ N) (hc : (l.map Cm.cl).Nodup) :
    (runL l ((List.range l.length).map (fun j : Nat => (j : Int)))).cat = catPlay ⟨[]⟩ l ∧ staOkB (runL l ((List.range l.length).map (fun j : Nat => (j : Int)))) = true := by
  have hok : ∀ m ∈ l, cmOkB m = true ∧ m.kd ≠ 0 := fun m hm => by
    unfold cmsOkB at h
    simp only [Bool.and_eq_true, List.all_eq_true] at h
    have := h.2 m hm
    simpa using this
  exact run_cat hN l (fun m hm => ⟨(hok m hm).1, (hok m hm).2, hl m hm⟩) hc id (fun i j hij _ _ => hij) _ (List.Perm.refl _) (List.pairwise_le_range)
theorem mem_rowOf {l : List Cm} {b j : Nat} : ((j : Nat) : Int) ∈ rowOf l l.length b ↔ j < l.length ∧ lv l j = b := by
  rw [rowN_int, List.mem_map]
  constructor
  · rintro ⟨a, ha, e⟩
    have : a = j := by omega
    subst this
    exact rowN_mem.1 ha
  · intro h
    exact ⟨j, rowN_mem.2 h, rfl⟩
theorem pos_lv {l : List Cm} {j : Nat} (hj : j < l.length) : ∀ d k, k + d = lv l j → posI ((rowsOf l l.length).drop k) k (j : Int) = ((lv l j : Nat) : Int)
  | d, k, h => by
    have hlt := lv_lt l hj
    have hk : k < (rowsOf l l.length).length := by rw [rowsOf_len]; omega
    have he : lAt (rowsOf l l.length) k = rowOf l l.length k := by
      rw [lAt_get hk]
      have := rowsOf_at l l.length k (by rw [rowsOf_len] at hk; exact hk)
      rw [List.getElem?_eq_getElem hk] at this
      exact Option.some.inj this
    rw [posI_drop _ hk, he]
    cases d with
    | zero =>
      have e : lv l j = k := by omega
      rw [if_pos (by unfold hasI; exact decide_eq_true (mem_rowOf.2 ⟨hj, e⟩)), e]
    | succ d =>
      rw [if_neg (by unfold hasI; simp only [decide_eq_true_eq]; exact fun hm => by have := (mem_rowOf.1 hm).2; omega)]
      exact pos_lv hj d (k + 1) (by omega)
theorem pos_row {l : List Cm} {j : Nat} (hj : j < l.length) : posI (rowsOf l l.length) 0 (j : Int) = ((lv l j : Nat) : Int) := by
  have := pos_lv hj (lv l j) 0 (by omega)
  simpa using this
/-- the batches fit -/
theorem batch_fits {l : List Cm} (h : cmsOkB l = true) : fitsB l (batchL l) = true := by
  refine fits_yes ⟨h, ⟨⟨?_, fun x hx => ?_⟩, fun j hj => ?_⟩, fun i k hki hi hc => ?_⟩
  · rw [batch_flat h]
    have hnd : (byLv id l (mxL l l.length)).Nodup := (byLv_all id (fun r => List.Perm.refl _) l).nodup_iff.2 List.nodup_range
    exact (List.nodup_iff_pairwise_ne.2 (List.pairwise_map.2 ((List.nodup_iff_pairwise_ne.1 hnd).imp (fun hne e => hne (by omega)))))
  · rw [batch_flat h] at hx
    obtain ⟨a, ha, rfl⟩ := List.mem_map.1 hx
    have := List.mem_range.1 ((byLv_all id (fun r => List.Perm.refl _) l).mem_iff.1 ha)
    omega
  · rw [batch_rows h, pos_row hj]; omega
  · rw [batch_rows h, pos_row hi, pos_row (by omega)]
    rw [sameBA_symm] at hc
    have := lv_clash l hki hc
    omega
end Go.Proofs.Ytdphdnllhmnelaa
