/- Contracts and lemmas: CatW, StateL, StateI, CopySta, InsSaid, SaiRow. -/
import Derived.Test.YtdphdnllhmnelaaGreatJ26
import Derived.Test.YtdphdnllhmnelaaGreatJ21
import Derived.Test.YtdphdnllhmnelaaGreatJ23
import Derived.Test.YtdphdnllhmnelaaGreatJ16
import Derived.Test.YtdphdnllhmnelaaGreatJ4
import Derived.Test.YtdphdnllhmnelaaGreatJ14
import Derived.Test.YtdphdnllhmnelaaGreatJ19
/- Plain laws on a catalog: the bounds that a command keeps. -/
namespace Go.Proofs.YtdphdnllhmnelaaGreat
open Go.RowKit
/-- the bounds of a snapshot, a set, a catalog -/
def SnpBd (p : Snp) : Prop := p.nm.size ≤ 8 ∧ p.tg.size ≤ 8 ∧ p.ch.length ≤ 4 ∧ ∀ t ∈ p.ch, t.size ≤ 8
def CstBd (s : Cst) : Prop := s.nm.size ≤ 8 ∧ s.snaps.length ≤ 6 ∧ ∀ p ∈ s.snaps, SnpBd p
def CatBd (x : Ctl) : Prop := x.sets.length ≤ 6 ∧ ∀ s ∈ x.sets, CstBd s
theorem ok8_mem {l : List ByteArray} (h : ok8 l = true) : ∀ t ∈ l, t.size ≤ 8 := by
  intro t ht
  obtain ⟨j, hj, rfl⟩ := List.getElem_of_mem ht
  have := ok8_at h hj
  rw [show sAt l j = l[j] by simp [sAt, hj]] at this
  omega
theorem snpOk_bd8 {p : Snp} (h : snpOkB p = true) : SnpBd p := by
  obtain ⟨h1, h2, h3⟩ := snpOk_bd h
  unfold snpOkB at h
  simp only [Bool.and_eq_true] at h
  exact ⟨h1, h2, h3, ok8_mem h.2⟩
theorem cstOk_bd8 {s : Cst} (h : cstOkB s = true) : CstBd s := by
  obtain ⟨h1, h2, h3⟩ := cstOk_bd h
  refine ⟨h1, by omega, fun p hp => ?_⟩
  unfold cstOkB at h
  simp only [Bool.and_eq_true, decide_eq_true_eq] at h
  obtain ⟨⟨h4, _⟩, _⟩ := h
  obtain ⟨k, hk, rfl⟩ := List.getElem_of_mem hp
  unfold snpsOkB at h4
  have := all_at h4 hk
  unfold snpAtB at this
  rw [Bool.and_eq_true, snpAt_of (List.getElem?_eq_getElem hk)] at this
  exact snpOk_bd8 this.1
theorem catOk_bd8 {x : Ctl} (h : catOkB x = true) : x.sets.length ≤ 5 ∧ ∀ s ∈ x.sets, CstBd s ∧ s.snaps.length ≤ 5 := by
  obtain ⟨h1, h2⟩ := catOk_bd h
  refine ⟨h1, fun s hs => ⟨?_, (h2 s hs).2.1⟩⟩
  unfold catOkB at h
  rw [Bool.and_eq_true, decide_eq_true_eq] at h
  obtain ⟨k, hk, rfl⟩ := List.getElem_of_mem hs
  have := all_at h.1 hk
  unfold cstAtB at this
  rw [Bool.and_eq_true, cstAt_of (List.getElem?_eq_getElem hk)] at this
  exact cstOk_bd8 this.1
theorem catBd_W {x : Ctl} (h : CatBd x) : ctlW x := ⟨by have := h.1; omega, fun s hs => ⟨by have := (h.2 s hs).2.1; omega, fun p hp => by have := ((h.2 s hs).2.2 p hp).2.2.1; omega⟩⟩
theorem catBd_B {x : Ctl} (h : CatBd x) : ctlB x := ⟨by have := h.1; omega, fun s hs => ⟨by have := (h.2 s hs).1; omega, ⟨by have := (h.2 s hs).2.1; omega, fun p hp => by
  have k := (h.2 s hs).2.2 p hp
  exact ⟨by have := k.1; omega, by have := k.2.1; omega, ⟨by have := k.2.2.1; omega, fun t ht => by have := k.2.2.2 t ht; omega⟩⟩⟩⟩⟩
theorem sum_le {α : Type} {f : α → Nat} {m : Nat} : ∀ {l : List α}, (∀ x ∈ l, f x ≤ m) → (l.map f).sum ≤ l.length * m
  | [], _ => by simp
  | x :: l, h => by
    have h1 := sum_le (l := l) (f := f) (m := m) (fun y hy => h y (List.mem_cons_of_mem _ hy))
    have h2 := h x List.mem_cons_self
    simp only [List.map_cons, List.sum_cons, List.length_cons, Nat.add_mul]
    omega
theorem snpBd_sz {p : Snp} (h : SnpBd p) : snpSz p ≤ 100 := by
  have h1 := sum_le (l := p.ch) (f := ByteArray.size) (m := 8) h.2.2.2
  have := h.1; have := h.2.1; have := h.2.2.1
  unfold snpSz strsSz
  omega
theorem cstBd_sz {s : Cst} (h : CstBd s) : cstSz s ≤ 1000 := by
  have h1 := sum_le (l := s.snaps) (f := snpSz) (m := 100) (fun p hp => snpBd_sz (h.2.2 p hp))
  have := h.1; have := h.2.1
  unfold cstSz snpsSz
  omega
theorem catBd_sz {x : Ctl} (h : CatBd x) : ctlSz x ≤ 10000 := by
  have h1 := sum_le (l := x.sets) (f := cstSz) (m := 1000) (fun p hp => cstBd_sz (h.2 p hp))
  have := h.1
  unfold ctlSz cstsSz
  omega
theorem catBd_nil : CatBd ⟨[]⟩ := ⟨by simp, fun s hs => by cases hs⟩
theorem pruL_mem : ∀ (l : List Snp) (g : Nat), (pruL l g).length ≤ l.length ∧ ∀ p ∈ pruL l g, p ∈ l
  | [], g => ⟨by simp [pruL], fun p hp => by simp [pruL] at hp⟩
  | x :: l, g => by
    unfold pruL
    split
    · obtain ⟨h1, h2⟩ := pruL_mem l (g - 1)
      exact ⟨by simp only [List.length_cons]; omega, fun p hp => List.mem_cons_of_mem _ (h2 p hp)⟩
    · obtain ⟨h1, h2⟩ := pruL_mem l g
      exact ⟨by simp only [List.length_cons]; omega, fun p hp => by
        rcases List.mem_cons.1 hp with h | h
        · exact h ▸ List.mem_cons_self
        · exact List.mem_cons_of_mem _ (h2 p h)⟩
theorem ch_bd {m : Cm} (hm : CmBd m) : ∀ t ∈ m.ch, t.size ≤ 8 := fun t ht => by
  obtain ⟨j, hj, rfl⟩ := List.getElem_of_mem ht
  have := hm.c8 j hj
  rw [show sAt m.ch j = m.ch[j] by simp [sAt, hj]] at this
  omega
theorem snpNil_bd : SnpBd snpNil := ⟨Nat.zero_le _, Nat.zero_le _, by simp [snpNil], fun t ht => by cases ht⟩
theorem snpAt_bd {l : List Snp} (h : ∀ p ∈ l, SnpBd p) (k : Nat) : SnpBd (snpAt l k) := by
  by_cases hk : k < l.length
  · rw [snpAt_of (List.getElem?_eq_getElem hk)]; exact h _ (List.getElem_mem hk)
  · rw [show snpAt l k = snpNil by unfold snpAt; simp [List.getElem?_eq_none (Nat.not_lt.1 hk)]]; exact snpNil_bd
theorem setDo_bd {s : Cst} {m : Cm} (h : CstBd s) (h5 : s.snaps.length ≤ 5) (hm : CmBd m) : CstBd (setDo s m).1 ∧ (setDo s m).2.size ≤ 600 := by
  have hs2 : (spTo (s.snaps.map tdT) s.snaps.length).size ≤ 600 := by
    have := spTo_size (l := s.snaps.map tdT) (fun j => sAt_size (m := 100) (fun x hx => tdT_size (by have := (h.2.2 x hx).1; omega) (by have := (h.2.2 x hx).2.1; omega)) j) s.snaps.length
    omega
  unfold setDo
  split
  · split
    · exact ⟨h, by simp [exT, ByteArray.size]⟩
    · split
      · exact ⟨h, by simp [fuT, ByteArray.size]⟩
      · refine ⟨⟨h.1, by simp only [comS, List.length_append, List.length_singleton]; omega, fun p hp => ?_⟩, by simp [okT, ByteArray.size]⟩
        simp only [comS, List.mem_append, List.mem_singleton] at hp
        rcases hp with hp | rfl
        · exact h.2.2 p hp
        · exact ⟨hm.nm, Nat.zero_le _, hm.ch, ch_bd hm⟩
  · split
    · split
      · exact ⟨h, by simp [noT, ByteArray.size]⟩
      · refine ⟨⟨h.1, by simp only [tagS, List.length_set]; omega, fun p hp => ?_⟩, by simp [okT, ByteArray.size]⟩
        simp only [tagS] at hp
        rcases List.mem_or_eq_of_mem_set hp with hp | rfl
        · exact h.2.2 p hp
        · have k := snpAt_bd h.2.2 (snpFnd s.snaps 0 m.nm).toNat
          exact ⟨k.1, hm.tg, k.2.2⟩
    · split
      · have k := pruL_mem s.snaps (goneN s.snaps m.n.toNat)
        exact ⟨⟨h.1, by have := k.1; simp only []; omega, fun p hp => h.2.2 p (k.2 p hp)⟩, by simp [dgT, ByteArray.size]⟩
      · exact ⟨h, hs2⟩
theorem insS_mem {l : List Cst} {nm : ByteArray} : (insS l nm).length = l.length + 1 ∧ ∀ s ∈ insS l nm, s ∈ l ∨ s = ⟨nm, []⟩ := by
  unfold insS
  have ha := atS_le nm l
  refine ⟨by simp only [List.length_append, List.length_take, List.length_cons, List.length_drop]; omega, fun s hs => ?_⟩
  rcases List.mem_append.1 hs with h | h
  · exact .inl (List.mem_of_mem_take h)
  · rcases List.mem_cons.1 h with h | h
    · exact .inr h
    · exact .inl (List.mem_of_mem_drop h)
/-- a command keeps the bounds, and its answer is short -/
theorem catDo_bd {x : Ctl} {m : Cm} : CatBd x → CatBd (catDo x m).1 ∧ (catDo x m).2.size ≤ 700 := by
  intro hx
  unfold catDo
  split
  · exact ⟨catBd_nil, Nat.zero_le _⟩
  rename_i h1
  have hc := catOk_bd8 (by simpa using h1)
  split
  · exact ⟨hx, Nat.zero_le _⟩
  rename_i h2
  have hm := cmOk_bd (by simpa using h2)
  split
  · exact ⟨hx, Nat.zero_le _⟩
  split
  · split
    · exact ⟨hx, by simp [exT, ByteArray.size]⟩
    · split
      · exact ⟨hx, by simp [fuT, ByteArray.size]⟩
      · have k := insS_mem (l := x.sets) (nm := m.s)
        refine ⟨⟨by have := k.1; simp only []; omega, fun s hs => ?_⟩, by simp [okT, ByteArray.size]⟩
        rcases k.2 s hs with h | rfl
        · exact (hc.2 s h).1
        · exact ⟨hm.s, by simp, fun p hp => by cases hp⟩
  split
  · refine ⟨hx, ?_⟩
    have := spTo_size (l := x.sets.map Cst.nm) (fun j => sAt_size (m := 100) (fun s hs => by have := (hx.2 s hs).1; omega) j) x.sets.length
    have := hc.1
    simp only []
    omega
  split
  · exact ⟨hx, by simp [noT, ByteArray.size]⟩
  split
  · refine ⟨⟨by have := hc.1; simp only [List.length_append, List.length_take, List.length_drop]; omega, fun s hs => ?_⟩, by simp [okT, ByteArray.size]⟩
    rcases List.mem_append.1 hs with h | h
    · exact hx.2 s (List.mem_of_mem_take h)
    · exact hx.2 s (List.mem_of_mem_drop h)
  rename_i hf _
  have hin : ∃ k, k < x.sets.length ∧ (cstFnd x.sets 0 m.s).toNat = k := by
    rcases cstFnd_in m.s x.sets 0 with ⟨h, _⟩ | ⟨j, hj, h, _⟩
    · omega
    · exact ⟨j, hj, by omega⟩
  obtain ⟨k, hk, e⟩ := hin
  rw [e, cstAt_of (List.getElem?_eq_getElem hk)]
  have hs := hc.2 _ (List.getElem_mem hk)
  obtain ⟨k1, k2⟩ := setDo_bd hs.1 hs.2 hm
  refine ⟨⟨by have := hc.1; simp only [List.length_set]; omega, fun s hs => ?_⟩, by simp only []; omega⟩
  rcases List.mem_or_eq_of_mem_set hs with h | rfl
  · exact hx.2 s h
  · exact k1
end Go.Proofs.YtdphdnllhmnelaaGreat
/- Plain laws on a state: what a command makes of it. -/
namespace Go.Proofs.YtdphdnllhmnelaaGreat
open Go.RowKit
/-- the first place with a client not below c -/
def saiFnd : List Sai → Nat → Int → Int
  | [], _, _ => -1
  | x :: l, k, c => if c ≤ x.cl then (k : Int) else saiFnd l (k + 1) c
theorem saiFnd_drop {l : List Sai} {k : Nat} (c : Int) (hk : k < l.length) : saiFnd (l.drop k) k c = if c ≤ (saiAt l k).cl then (k : Int) else saiFnd (l.drop (k + 1)) (k + 1) c := by
  rw [List.drop_eq_getElem_cons hk, saiFnd, saiAt_get hk]
theorem saiFnd_in (c : Int) : ∀ (l : List Sai) (k : Nat), saiFnd l k c = -1 ∧ (∀ x ∈ l, x.cl < c) ∨ ∃ j : Nat, j < l.length ∧ saiFnd l k c = ((k + j : Nat) : Int) ∧ c ≤ (saiAt l j).cl ∧ ∀ i, i < j → (saiAt l i).cl < c
  | [], k => .inl ⟨rfl, fun x hx => by cases hx⟩
  | x :: l, k => by
    unfold saiFnd
    by_cases h : c ≤ x.cl
    · rw [if_pos h]
      exact .inr ⟨0, by simp, by simp, by simpa [saiAt] using h, fun i hi => absurd hi (by omega)⟩
    · rw [if_neg h]
      rcases saiFnd_in c l (k + 1) with ⟨h1, h2⟩ | ⟨j, hj, h1, h2, h3⟩
      · exact .inl ⟨h1, fun y hy => by
          rcases List.mem_cons.1 hy with rfl | hy
          · omega
          · exact h2 y hy⟩
      · refine .inr ⟨j + 1, by simpa using hj, by rw [h1]; congr 1; omega, by simpa [saiAt] using h2, fun i hi => ?_⟩
        rcases i with _ | i
        · simp only [saiAt, List.getD_cons_zero]; omega
        · have := h3 i (by omega)
          simpa [saiAt] using this
def saiAtB (l : List Sai) (k : Nat) : Bool := inB (saiAt l k).cl 1 9 && inB (saiAt l k).no 1 1000 && (k == 0 || decide ((saiAt l (k - 1)).cl < (saiAt l k).cl))
def saisOkB (l : List Sai) : Bool := (List.range l.length).all (fun k => saiAtB l k)
theorem saisOk_yes {l : List Sai} (h : ∀ k, k < l.length → saiAtB l k = true) : saisOkB l = true := all_yes h
theorem saisOk_no {l : List Sai} {k : Nat} (hk : k < l.length) (h : saiAtB l k = false) : saisOkB l = false := all_no hk h
/-- a right state -/
def staOkB (x : Sta) : Bool := saisOkB x.said && catOkB x.cat
/-- the clients rise -/
def Rising (l : List Sai) : Prop := l.Pairwise (fun a b => a.cl < b.cl)
theorem saisOk_lt {l : List Sai} (h : saisOkB l = true) : ∀ j i, i < j → j < l.length → (saiAt l i).cl < (saiAt l j).cl
  | 0, i, hi, _ => absurd hi (by omega)
  | j + 1, i, hi, hj => by
    have h1 := all_at h hj
    unfold saiAtB at h1
    simp only [Bool.and_eq_true, Bool.or_eq_true, decide_eq_true_eq, Nat.add_sub_cancel] at h1
    have h2 : (saiAt l j).cl < (saiAt l (j + 1)).cl := by
      rcases h1.2 with h | h
      · simp at h
      · exact h
    by_cases e : i = j
    · subst e; exact h2
    · have := saisOk_lt h j i (by omega) (by omega)
      omega
theorem saisOk_rise {l : List Sai} (h : saisOkB l = true) : Rising l := by
  unfold Rising
  rw [List.pairwise_iff_getElem]
  intro i j hi hj hij
  have := saisOk_lt h j i hij hj
  rwa [saiAt_get hi, saiAt_get hj] at this
theorem saisOk_cl {l : List Sai} (h : saisOkB l = true) : ∀ k, k < l.length → (k : Int) + 1 ≤ (saiAt l k).cl ∧ (saiAt l k).cl ≤ 9
  | 0, hk => by
    have h1 := all_at h hk
    unfold saiAtB at h1
    simp only [Bool.and_eq_true] at h1
    have := inB_le h1.1.1
    omega
  | k + 1, hk => by
    have h1 := all_at h hk
    unfold saiAtB at h1
    simp only [Bool.and_eq_true] at h1
    have := inB_le h1.1.1
    have h2 := saisOk_lt h (k + 1) k (by omega) hk
    have h3 := saisOk_cl h k (by omega)
    omega
theorem saisOk_len {l : List Sai} (h : saisOkB l = true) : l.length ≤ 9 := by
  by_cases h0 : l.length = 0
  · omega
  · have := saisOk_cl h (l.length - 1) (by omega)
    omega
def oldT : ByteArray := ⟨#[111, 108, 100]⟩
/-- the answer that lies ready -/
def repS : List Sai → Cm → Option ByteArray
  | [], _ => none
  | s :: l, m => if s.cl ≠ m.cl then repS l m else if s.no = m.no then some s.tx else if m.no < s.no then some oldT else repS l m
theorem repS_drop {l : List Sai} {k : Nat} {x : Sai} (m : Cm) (hx : l[k]? = some x) : repS (l.drop k) m = if x.cl ≠ m.cl then repS (l.drop (k + 1)) m else if x.no = m.no then some x.tx else if m.no < x.no then some oldT else repS (l.drop (k + 1)) m := by
  obtain ⟨hk, rfl⟩ := List.getElem?_eq_some_iff.1 hx
  rw [List.drop_eq_getElem_cons hk, repS]
/-- what was said, with one more, in the place of its client -/
def putS : List Sai → Sai → List Sai
  | [], x => [x]
  | y :: l, x => if y.cl < x.cl then y :: putS l x else if y.cl = x.cl then x :: l else x :: y :: l
/-- the same, as the reference goes -/
def putF : List Sai → Sai → Bool → List Sai
  | [], x, put => if put then [] else [x]
  | y :: l, x, put => (if put = false ∧ x.cl ≤ y.cl then [x] else []) ++ ((if y.cl = x.cl then [] else [y]) ++ putF l x (put || decide (x.cl ≤ y.cl)))
theorem putF_drop {l : List Sai} {k : Nat} {y : Sai} (x : Sai) (put : Bool) (hy : l[k]? = some y) :
    putF (l.drop k) x put = (if put = false ∧ x.cl ≤ y.cl then [x] else []) ++ ((if y.cl = x.cl then [] else [y]) ++ putF (l.drop (k + 1)) x (put || decide (x.cl ≤ y.cl))) := by
  obtain ⟨hk, rfl⟩ := List.getElem?_eq_some_iff.1 hy
  rw [List.drop_eq_getElem_cons hk, putF]
theorem putF_end {l : List Sai} {k : Nat} (x : Sai) (put : Bool) (hk : l.length ≤ k) : putF (l.drop k) x put = if put then [] else [x] := by
  rw [List.drop_eq_nil_of_le hk, putF]
theorem putF_true (x : Sai) : ∀ {l : List Sai}, (∀ y ∈ l, x.cl < y.cl) → putF l x true = l
  | [], _ => rfl
  | y :: l, h => by
    have h1 := h y List.mem_cons_self
    unfold putF
    rw [if_neg (by simp), if_neg (by omega), Bool.true_or, putF_true x (fun z hz => h z (List.mem_cons_of_mem _ hz))]
    rfl
theorem putF_put (x : Sai) : ∀ {l : List Sai}, Rising l → putF l x false = putS l x
  | [], _ => rfl
  | y :: l, h => by
    unfold Rising at h
    rw [List.pairwise_cons] at h
    unfold putF putS
    by_cases h1 : y.cl < x.cl
    · rw [if_neg (by omega), if_neg (by omega), if_pos h1, decide_eq_false (by omega), Bool.or_self, putF_put x h.2]
      rfl
    · have h2 : x.cl ≤ y.cl := by omega
      rw [if_pos ⟨rfl, h2⟩, if_neg h1, decide_eq_true h2, Bool.false_or, putF_true x (fun z hz => by have := h.1 z hz; omega)]
      by_cases h3 : y.cl = x.cl
      · rw [if_pos h3, if_pos h3]; rfl
      · rw [if_neg h3, if_neg h3]; rfl
theorem putS_end (x : Sai) : ∀ {l : List Sai}, (∀ y ∈ l, y.cl < x.cl) → putS l x = l ++ [x]
  | [], _ => rfl
  | y :: l, h => by
    unfold putS
    rw [if_pos (h y List.mem_cons_self), putS_end x (fun z hz => h z (List.mem_cons_of_mem _ hz))]
    rfl
theorem putS_at (x : Sai) : ∀ {l : List Sai} {k : Nat}, k < l.length → x.cl ≤ (saiAt l k).cl → (∀ i, i < k → (saiAt l i).cl < x.cl) → putS l x = if (saiAt l k).cl = x.cl then l.set k x else l.take k ++ x :: l.drop k
  | [], k, hk, _, _ => absurd hk (by simp)
  | y :: l, 0, _, h, _ => by
    simp only [saiAt, List.getD_cons_zero] at h ⊢
    unfold putS
    rw [if_neg (by omega)]
    split <;> simp
  | y :: l, k + 1, hk, h, hi => by
    have h0 := hi 0 (by omega)
    simp only [saiAt, List.getD_cons_zero, List.getD_cons_succ] at h h0 ⊢
    have ih := putS_at x (l := l) (k := k) (by simpa using hk) h (fun i hik => by have := hi (i + 1) (by omega); simpa [saiAt] using this)
    unfold putS
    rw [if_pos h0, ih]
    unfold saiAt
    split <;> simp
theorem repS_none {m : Cm} : ∀ {l : List Sai}, (∀ y ∈ l, y.cl ≠ m.cl) → repS l m = none
  | [], _ => rfl
  | y :: l, h => by
    unfold repS
    rw [if_pos (h y List.mem_cons_self), repS_none (fun z hz => h z (List.mem_cons_of_mem _ hz))]
theorem repS_at {m : Cm} : ∀ {l : List Sai} {k : Nat}, Rising l → k < l.length → m.cl ≤ (saiAt l k).cl → (∀ i, i < k → (saiAt l i).cl < m.cl) →
    repS l m = if (saiAt l k).cl ≠ m.cl then none else if (saiAt l k).no = m.no then some (saiAt l k).tx else if m.no < (saiAt l k).no then some oldT else none
  | [], k, _, hk, _, _ => absurd hk (by simp)
  | y :: l, 0, hr, _, h, _ => by
    unfold Rising at hr
    rw [List.pairwise_cons] at hr
    simp only [saiAt, List.getD_cons_zero] at h ⊢
    have hn : repS l m = none := repS_none (fun z hz => by have := hr.1 z hz; omega)
    unfold repS
    rw [hn]
  | y :: l, k + 1, hr, hk, h, hi => by
    unfold Rising at hr
    rw [List.pairwise_cons] at hr
    have h0 := hi 0 (by omega)
    simp only [saiAt, List.getD_cons_zero, List.getD_cons_succ] at h h0 ⊢
    have ih := repS_at (m := m) (l := l) (k := k) hr.2 (by simpa using hk) h (fun i hik => by have := hi (i + 1) (by omega); simpa [saiAt] using this)
    unfold repS
    rw [if_pos (by omega), ih]
    rfl
def saiNew (x : Sta) (m : Cm) : Sai := ⟨m.cl, m.no, (catDo x.cat m).2⟩
/-- what a command makes of a state, behind the answers that lie ready -/
def stGo (x : Sta) (m : Cm) : Sta × ByteArray :=
  match repS x.said m with
  | some t => (x, t)
  | none => (⟨(catDo x.cat m).1, putS x.said (saiNew x m)⟩, (catDo x.cat m).2)
/-- what a command makes of a state -/
def stDo (x : Sta) (m : Cm) : Sta × ByteArray :=
  if staOkB x = false then (⟨⟨[]⟩, []⟩, ByteArray.empty) else if cmOkB m = false then (x, ByteArray.empty) else if m.kd = 0 then (x, ByteArray.empty) else stGo x m
theorem stGo_some {x : Sta} {m : Cm} {t : ByteArray} (h : repS x.said m = some t) : stGo x m = (x, t) := by unfold stGo; rw [h]
theorem stGo_none {x : Sta} {m : Cm} (h : repS x.said m = none) : stGo x m = (⟨(catDo x.cat m).1, putS x.said (saiNew x m)⟩, (catDo x.cat m).2) := by unfold stGo; rw [h]
/-- commands one by one -/
def stPlay (x : Sta) : List Cm → Sta
  | [] => x
  | m :: l => stPlay (stDo x m).1 l
def staNew : Sta := ⟨⟨[]⟩, []⟩
theorem stPlay_snoc (x : Sta) (l : List Cm) (m : Cm) : stPlay x (l ++ [m]) = (stDo (stPlay x l) m).1 := by
  induction l generalizing x with
  | nil => rfl
  | cons a l ih => exact ih _
/-- the commands at the places of an order -/
def pickL (l : List Cm) : List Int → List Cm
  | [] => []
  | i :: o => if 0 ≤ i ∧ i < (l.length : Int) then cmAt l i.toNat :: pickL l o else pickL l o
def runL (l : List Cm) (o : List Int) : Sta := stPlay staNew (pickL l o)
/-- the bounds of a state -/
def StaBd (x : Sta) : Prop := CatBd x.cat ∧ x.said.length ≤ 10 ∧ ∀ y ∈ x.said, y.tx.size ≤ 700
theorem staBd_nil : StaBd staNew := ⟨catBd_nil, by simp [staNew], fun y hy => by cases hy⟩
theorem putS_mem {x : Sai} : ∀ {l : List Sai}, (putS l x).length ≤ l.length + 1 ∧ ∀ y ∈ putS l x, y ∈ l ∨ y = x
  | [] => ⟨by simp [putS], fun y hy => by simpa [putS] using hy⟩
  | z :: l => by
    unfold putS
    split
    · obtain ⟨h1, h2⟩ := putS_mem (x := x) (l := l)
      refine ⟨by simp only [List.length_cons]; omega, fun y hy => ?_⟩
      rcases List.mem_cons.1 hy with h | h
      · exact .inl (h ▸ List.mem_cons_self)
      · rcases h2 y h with h | h
        · exact .inl (List.mem_cons_of_mem _ h)
        · exact .inr h
    · split
      · refine ⟨by simp only [List.length_cons]; omega, fun y hy => ?_⟩
        rcases List.mem_cons.1 hy with h | h
        · exact .inr h
        · exact .inl (List.mem_cons_of_mem _ h)
      · refine ⟨by simp only [List.length_cons]; omega, fun y hy => ?_⟩
        rcases List.mem_cons.1 hy with h | h
        · exact .inr h
        · exact .inl h
theorem stDo_bd {x : Sta} {m : Cm} (h : StaBd x) : StaBd (stDo x m).1 := by
  unfold stDo
  split
  · exact staBd_nil
  rename_i h1
  have h2 : saisOkB x.said = true := by
    have : staOkB x = true := by simpa using h1
    unfold staOkB at this
    rw [Bool.and_eq_true] at this
    exact this.1
  have h3 := saisOk_len h2
  split
  · exact h
  split
  · exact h
  unfold stGo
  split
  · exact h
  · have k := catDo_bd (m := m) h.1
    have p := putS_mem (x := saiNew x m) (l := x.said)
    refine ⟨k.1, by have := p.1; simp only []; omega, fun y hy => ?_⟩
    rcases p.2 y hy with h5 | rfl
    · exact h.2.2 y h5
    · exact k.2
theorem stPlay_bd : ∀ (l : List Cm) {x : Sta}, StaBd x → StaBd (stPlay x l)
  | [], _, h => h
  | m :: l, _, h => stPlay_bd l (stDo_bd h)
theorem staBd_sz {x : Sta} (h : StaBd x) : staSz x ≤ 100000 := by
  have h1 := catBd_sz h.1
  have h2 := sum_le (l := x.said) (f := saiSz) (m := 700) h.2.2
  have := h.2.1
  unfold staSz saisSz
  omega
end Go.Proofs.YtdphdnllhmnelaaGreat
/- A state: the place of a client, is it right (both sides). -/
namespace Go.Proofs.YtdphdnllhmnelaaGreat
open Go.RowKit
attribute [local go_sem] Grow.cell Grow.frozen
theorem sizeSaid0 : (Tryz.prog.info? 114).map (·.size) = some 3 := by kernel_rfl
theorem sai_el {l : List Sai} {w : World} {n c b off i : Nat} (h : RowR saiR 3 w (some ⟨b, off, none⟩) n c l) (hi : i < n) : b < w.heap.size ∧ ∃ x, l[i]? = some x ∧ w.rangeAt b (off + i * 3) [.int .i64 x.cl, .int .i64 x.no, .string x.tx] := by
  obtain ⟨bl, x, cs, hx, rfl, hcell⟩ := h.elem_at hi
  exact ⟨bl, x, hx, hcell⟩
attribute [local irreducible] RowR saiFnd
set_option maxRecDepth 8000 in
theorem sai_fn (x : Sai) (cl : Int) (B : Nat) (w : World) (h0 : w.cell? ⟨B, 1, none⟩ = some (.int .i64 cl)) :
    Calls Tryz.prog 133 #[saiV x, .pointer (some ⟨B, 0, none⟩)] w fun r w' => r = .returned (.bool (decide (cl ≤ x.cl))) ∧ Below w.heap.size w w' := by
  have hlt := cell_lt h0
  unfold saiV
  by_cases hx : cl ≤ x.cl
  · have HX := Lib.hid hx
    have gd : decide (x.cl ≥ cl) = true := decide_eq_true hx
    clear hx
    go_enter Tryz.func133, Tryz.ntmps133
    go_wp2
    go_returns
    exact ⟨ret_bool (by simp [HX.out]), by go_grown⟩
  · have HX := Lib.hid hx
    have gd : decide (x.cl ≥ cl) = false := decide_eq_false hx
    clear hx
    go_enter Tryz.func133, Tryz.ntmps133
    go_wp2
    go_returns
    exact ⟨ret_bool (by simp [HX.out]), by go_grown⟩
set_option maxRecDepth 8000 in
theorem sai_idx (A : Option Addr) (n c : Nat) (l : List Sai) (cl : Int) (B : Nat) (w : World) (h : RowR saiR 3 w A n c l) (hn : n ≤ 9223372036854775807) (h0 : w.cell? ⟨B, 1, none⟩ = some (.int .i64 cl)) :
    Calls Tryz.prog 132 #[.slice A n c, .func (.func 133) #[] #[.pointer (some ⟨B, 0, none⟩)]] w fun r w' => r = .returned (.int .i64 (saiFnd l 0 cl)) ∧ Below w.heap.size w w' := by
  have HL := Lib.hid h.len.symm
  go_enter Tryz.func132, Tryz.ntmps132
  go_wp2
  go_loopw [8] (fun i wr => ∃ k : Nat, k ≤ n ∧ i = .int .i64 k ∧ saiFnd l 0 cl = saiFnd (l.drop k) k cl ∧ Below w.heap.size w wr) (fun i _ => n - (intOf i).toNat)
  case atStart => exact ⟨0, Nat.zero_le _, rfl, rfl, Below.refl _ _⟩
  case round =>
    obtain ⟨k, hk, rfl, hx, hbr⟩ := hrel
    have HX := Lib.hid hx; clear hx
    by_cases hlt : k < n
    · have hR := h.keep saiK hbr
      obtain ⟨b, off, rfl⟩ := hR.head (by omega)
      obtain ⟨bl, x, hx, hcr⟩ := sai_el hR hlt
      have HP := Lib.hid (saiFnd_drop cl (show k < l.length by have := HL.out; omega))
      have HA := Lib.hid (saiAt_of hx)
      have g0 := keep_cell hbr h0
      clear hx
      repeat (first | ((with_reducible refine wpList_load_o 114 (.tmp 14) b (off + k * 3) _ _ hcr Tryz.underlying114 sizeSaid0 ?_ ?_ ?_ ?_ ?_ ?_); (rfl); (rfl); (rfl); (rfl); (rfl)) | go_values | go_skip | go_guarded | go_step | go_upon | (simp only []; go_at_K))
      refine (sai_fn x cl B _ g0).mono ?_
      rintro r w1 ⟨rfl, hb1⟩
      by_cases hq : cl ≤ x.cl
      · rw [decide_eq_true hq]
        have HQ := Lib.hid hq
        clear hq
        go_wp2
        go_returns
        exact ⟨by rw [HX.out, HP.out, HA.out, if_pos HQ.out]; rfl, bthen hbr hb1⟩
      · rw [decide_eq_false hq]
        have HQ := Lib.hid hq
        clear hq
        go_wp2
        exact ⟨⟨k + 1, by omega, by go_num, by rw [HX.out, HP.out, HA.out, if_neg (by have := HQ.out; omega)], bthen hbr hb1⟩, by simp [intOf]; omega⟩
    · go_wp2
      go_returns
      obtain rfl : k = n := by omega
      exact ⟨by rw [HX.out, List.drop_eq_nil_of_le (by have := HL.out; omega), saiFnd]; rfl, hbr⟩
attribute [local irreducible] saiAtB saisOkB catOkB
set_option maxRecDepth 8000 in
set_option maxHeartbeats 4000000 in
theorem staOk_impl (x : Sta) (A1 : Option Addr) (n1 c1 : Nat) (A2 : Option Addr) (n2 c2 : Nat) (w : World) (h1 : RowR cstR 2 w A1 n1 c1 x.cat.sets) (h2 : RowR saiR 3 w A2 n2 c2 x.said) (hb : ctlB x.cat) (hn : n2 ≤ 1000) :
    Calls Tryz.prog 131 #[staV x (.slice A1 n1 c1) (.slice A2 n2 c2)] w fun e w' => e = .returned (.bool (staOkB x)) ∧ Below w.heap.size w w' := by
  have HL := Lib.hid h2.len
  have al := (Below.refl w.heap.size w).alloc (Nat.le_refl _) (.cells #[.slice A1 n1 c1, .slice A2 n2 c2] 30)
  have BX := BoxL.new w [.slice A1 n1 c1, .slice A2 n2 c2] 30
  unfold staV
  go_enter Tryz.func131, Tryz.ntmps131
  go_wp2_with fail
  obtain ⟨W, hW⟩ : ∃ W, W = w.alloc (.cells #[.slice A1 n1 c1, .slice A2 n2 c2] 30) := ⟨_, rfl⟩
  obtain ⟨g, hg⟩ : ∃ g, w.heap.size = g := ⟨_, rfl⟩
  have HG := Lib.hid hg
  rw [← hW] at BX al ⊢
  simp only [hg] at BX ⊢
  clear hW hg
  go_loopw [8] (fun i wr => ∃ (k : Nat), k ≤ n2 ∧ i = .int .i64 k ∧ (∀ j : Nat, j < k → saiAtB x.said j = true) ∧ Below W.heap.size W wr) (fun i _ => n2 - (intOf i).toNat)
  case atStart => exact ⟨0, Nat.zero_le _, rfl, fun j h => absurd h (by omega), Below.refl _ _⟩
  case round =>
    obtain ⟨k, hk, rfl, hcl, hbr⟩ := hrel
    have HCL := Lib.hid hcl; clear hcl
    have BR := BX.keep hbr
    have e0 := BR.cell 0 _ rfl
    have e1 := BR.cell 1 _ rfl
    have hgl := BR.lt
    have hB := bthen al hbr
    by_cases hlt : k < n2
    · have k1 := h2.keep saiK hB
      obtain ⟨b, off, rfl⟩ := k1.head (by omega)
      obtain ⟨bl, y, hy, hcr⟩ := sai_el k1 hlt
      have f0 : wr.cell? ⟨b, off + k * 3, none⟩ = some (.int .i64 y.cl) := hcr 0 _ rfl
      have f1 : wr.cell? ⟨b, off + k * 3 + 1, none⟩ = some (.int .i64 y.no) := hcr 1 _ rfl
      have f2 : wr.cell? ⟨b, off + k * 3 + 2, none⟩ = some (.string y.tx) := hcr 2 _ rfl
      have HAX := Lib.hid (saiAt_of hy)
      clear hy hcr
      have aly := (Below.refl wr.heap.size wr).alloc (Nat.le_refl _) (.cells #[.int .i64 y.cl, .int .i64 y.no, .string y.tx] 114)
      have BY := BoxL.new wr [.int .i64 y.cl, .int .i64 y.no, .string y.tx] 114
      go_wp2_with fail
      obtain ⟨V, hV⟩ : ∃ V, V = wr.alloc (.cells #[.int .i64 y.cl, .int .i64 y.no, .string y.tx] 114) := ⟨_, rfl⟩
      obtain ⟨gy, hgy⟩ : ∃ g, wr.heap.size = g := ⟨_, rfl⟩
      rw [← hV] at BY aly ⊢
      simp only [hgy] at BY ⊢
      have HGY := Lib.hid hgy
      clear hV hgy
      have z0 := BY.cell 0 _ rfl; have z1 := BY.cell 1 _ rfl; have zl := BY.lt
      have BR2 := BR.keep aly
      have f0' := keep_cell aly f0
      clear e0 e1 hgl f0 f1 f2
      have e0 := BR2.cell 0 _ rfl
      have e1 := BR2.cell 1 _ rfl
      have hgl := BR2.lt
      have hbl := cell_lt f0'
      have hB2 := bthen hB aly
      have hbr2 := bthen hbr aly
      have k2 := h2.keep saiK hB2
      have HV := Lib.hid (show saiAtB x.said k = (inB y.cl 1 9 && inB y.no 1 1000 && (k == 0 || decide ((saiAt x.said (k - 1)).cl < y.cl))) by unfold saiAtB; rw [HAX.out])
      obtain ⟨q0, hq0⟩ : ∃ q, inB y.cl 1 9 = q := ⟨_, rfl⟩
      obtain ⟨q1, hq1⟩ : ∃ q, inB y.no 1 1000 = q := ⟨_, rfl⟩
      have Q0 := Lib.hid hq0; have Q1 := Lib.hid hq1
      cases q0
      · have HB := Lib.hid (show staOkB x = false by unfold staOkB; rw [saisOk_no (l := x.said) (k := k) (by have := HL.out; omega) (by rw [HV.out, Q0.out]; rfl)]; rfl)
        clear hq1
        refine wp_region_grow (by kernel_rfl) (by kernel_rfl) ?_
        repeat (first | go_big_quiet_step ((go_at_call 36; exact grow_same (within_any _ _ _ _))))
        refine wpQuiet_nil ?_
        intro _ hw'
        obtain ⟨⟨w4, hb4⟩, hw''⟩ := hw'
        change _ = w4 at hw''
        subst hw''
        go_wp2
        go_returns
        exact ⟨ret_bool HB.out.symm, bthen hB2 hb4⟩
      cases q1
      · have HB := Lib.hid (show staOkB x = false by unfold staOkB; rw [saisOk_no (l := x.said) (k := k) (by have := HL.out; omega) (by rw [HV.out, Q0.out, Q1.out]; rfl)]; rfl)
        refine wp_region_grow (by kernel_rfl) (by kernel_rfl) ?_
        repeat (first | go_big_quiet_step ((go_at_call 36; exact grow_same (within_any _ _ _ _))))
        refine wpQuiet_nil ?_
        intro _ hw'
        obtain ⟨⟨w4, hb4⟩, hw''⟩ := hw'
        change _ = w4 at hw''
        subst hw''
        go_wp2
        go_returns
        exact ⟨ret_bool HB.out.symm, bthen hB2 hb4⟩
      by_cases hk0 : k = 0
      · have HK := Lib.hid (show saiAtB x.said k = true by rw [HV.out, Q0.out, Q1.out, hk0]; rfl)
        have gd0 : decide ((k : Int) > 0) = false := by rw [decide_eq_false_iff_not]; omega
        have gd00 : decide (0 < k) = false := by rw [decide_eq_false_iff_not]; omega
        have gd000 : ¬ 0 < k := by omega
        clear hk0
        refine wp_region_grow (by kernel_rfl) (by kernel_rfl) ?_
        repeat (first | go_big_quiet_step ((go_at_call 36; exact grow_same (within_any _ _ _ _))))
        refine wpQuiet_nil ?_
        intro _ hw'
        obtain ⟨⟨w4, hb4⟩, hw''⟩ := hw'
        change _ = w4 at hw''
        subst hw''
        go_wp2
        exact ⟨⟨k + 1, by omega, by go_num, upto_succ HCL.out HK.out, bthen hbr2 hb4⟩, by simp [intOf]; omega⟩
      · skip
        obtain ⟨k', rfl⟩ : ∃ k', k = k' + 1 := ⟨k - 1, by omega⟩
        clear hk0
        obtain ⟨_, u, hu, hcru⟩ := sai_el k2 (show k' < n2 by omega)
        have u0 : V.cell? ⟨b, off + k' * 3, none⟩ = some (.int .i64 u.cl) := hcru 0 _ rfl
        have HAU := Lib.hid (saiAt_of hu)
        clear hcru hu
        have gd0 : decide (((k' + 1 : Nat) : Int) > 0) = true := by rw [decide_eq_true_eq]; omega
        have gd1 : (((k' + 1 : Nat) : Int)) - 1 = (k' : Int) := by omega
        have HV2 := Lib.hid (show saiAtB x.said (k' + 1) = decide (u.cl < y.cl) by rw [HV.out, Nat.add_sub_cancel, HAU.out, Q0.out, Q1.out]; simp)
        by_cases hlu : u.cl < y.cl
        · have gd2 : decide (u.cl ≥ y.cl) = false := decide_eq_false (by omega)
          have HU := Lib.hid hlu; clear hlu
          refine wp_region_grow (by kernel_rfl) (by kernel_rfl) ?_
          repeat (first | go_big_quiet_step ((go_at_call 36; exact grow_same (within_any _ _ _ _))))
          refine wpQuiet_nil ?_
          intro _ hw'
          obtain ⟨⟨w4, hb4⟩, hw''⟩ := hw'
          change _ = w4 at hw''
          subst hw''
          go_wp2
          exact ⟨⟨k' + 1 + 1, by omega, by go_num, upto_succ HCL.out (by rw [HV2.out]; exact decide_eq_true HU.out), bthen hbr2 hb4⟩, by simp [intOf]; omega⟩
        · have gd2 : decide (u.cl ≥ y.cl) = true := decide_eq_true (by omega)
          have HB := Lib.hid (show staOkB x = false by unfold staOkB; rw [saisOk_no (l := x.said) (k := k' + 1) (by have := HL.out; omega) (by rw [HV2.out]; exact decide_eq_false hlu)]; rfl)
          clear hlu
          refine wp_region_grow (by kernel_rfl) (by kernel_rfl) ?_
          repeat (first | go_big_quiet_step ((go_at_call 36; exact grow_same (within_any _ _ _ _))))
          refine wpQuiet_nil ?_
          intro _ hw'
          obtain ⟨⟨w4, hb4⟩, hw''⟩ := hw'
          change _ = w4 at hw''
          subst hw''
          go_wp2
          go_returns
          exact ⟨ret_bool HB.out.symm, bthen hB2 hb4⟩
    · have HK := Lib.hid (saisOk_yes (l := x.said) (fun j hj => HCL.out j (by have := HL.out; omega)))
      go_wp2_with fail
      have hco := catOk_impl x.cat A1 n1 c1 wr (h1.keep cstK hB) hb
      unfold ctlV at hco
      refine hco.mono ?_
      rintro e w5 ⟨rfl, hb5⟩
      clear hco
      go_wp2
      go_returns
      exact ⟨ret_bool (by unfold staOkB; rw [HK.out, Bool.true_and]), bthen hB hb5⟩
set_option maxRecDepth 8000 in
set_option maxHeartbeats 4000000 in
theorem staOk_spec (x : Sta) (A1 : Option Addr) (n1 c1 : Nat) (A2 : Option Addr) (n2 c2 : Nat) (w : World) (h1 : RowR cstR 2 w A1 n1 c1 x.cat.sets) (h2 : RowR saiR 3 w A2 n2 c2 x.said) (hb : ctlB x.cat) (hn : n2 ≤ 1000) :
    Calls Tryz.prog 126 #[staV x (.slice A1 n1 c1) (.slice A2 n2 c2)] w fun e w' => e = .returned (.bool (staOkB x)) ∧ Below w.heap.size w w' := by
  have HL := Lib.hid h2.len
  have al := (Below.refl w.heap.size w).alloc (Nat.le_refl _) (.cells #[.slice A1 n1 c1, .slice A2 n2 c2] 30)
  have BX := BoxL.new w [.slice A1 n1 c1, .slice A2 n2 c2] 30
  unfold staV
  go_enter Tryz.func126, Tryz.ntmps126
  go_wp2_with fail
  obtain ⟨W, hW⟩ : ∃ W, W = w.alloc (.cells #[.slice A1 n1 c1, .slice A2 n2 c2] 30) := ⟨_, rfl⟩
  obtain ⟨g, hg⟩ : ∃ g, w.heap.size = g := ⟨_, rfl⟩
  have HG := Lib.hid hg
  rw [← hW] at BX al ⊢
  simp only [hg] at BX ⊢
  clear hW hg
  have hco := catOk_spec x.cat A1 n1 c1 W (h1.keep cstK al) hb
  unfold ctlV at hco
  refine hco.mono ?_
  rintro e w1 ⟨rfl, hb1⟩
  clear hco
  obtain ⟨qc, hqc⟩ : ∃ q, catOkB x.cat = q := ⟨_, rfl⟩
  have QC := Lib.hid hqc
  rw [hqc]
  clear hqc
  have BX1 := BX.keep hb1
  have al1 := bthen al hb1
  clear BX al
  have BX := BX1
  have al := al1
  clear BX1 al1
  cases qc
  · have HB := Lib.hid (show staOkB x = false by unfold staOkB; rw [QC.out, Bool.and_false])
    go_wp2
    go_returns
    exact ⟨ret_bool HB.out.symm, al⟩
  go_wp2_with fail
  clear hb1
  obtain ⟨U, hU⟩ : ∃ U, U = w1 := ⟨_, rfl⟩
  subst hU
  go_loopw [3] (fun i wr => ∃ (k : Nat), k ≤ n2 ∧ i = .int .i64 k ∧ (∀ j : Nat, j < k → saiAtB x.said j = true) ∧ Below U.heap.size U wr) (fun i _ => n2 - (intOf i).toNat)
  case atStart => exact ⟨0, Nat.zero_le _, rfl, fun j h => absurd h (by omega), Below.refl _ _⟩
  case round =>
    obtain ⟨k, hk, rfl, hcl, hbr⟩ := hrel
    have HCL := Lib.hid hcl; clear hcl
    have BR := BX.keep hbr
    have e0 := BR.cell 0 _ rfl
    have e1 := BR.cell 1 _ rfl
    have hgl := BR.lt
    have hB := bthen al hbr
    by_cases hlt : k < n2
    · have k1 := h2.keep saiK hB
      obtain ⟨b, off, rfl⟩ := k1.head (by omega)
      obtain ⟨bl, y, hy, hcr⟩ := sai_el k1 hlt
      have f0 : wr.cell? ⟨b, off + k * 3, none⟩ = some (.int .i64 y.cl) := hcr 0 _ rfl
      have f1 : wr.cell? ⟨b, off + k * 3 + 1, none⟩ = some (.int .i64 y.no) := hcr 1 _ rfl
      have f2 : wr.cell? ⟨b, off + k * 3 + 2, none⟩ = some (.string y.tx) := hcr 2 _ rfl
      have HAX := Lib.hid (saiAt_of hy)
      clear hy hcr
      have aly := (Below.refl wr.heap.size wr).alloc (Nat.le_refl _) (.cells #[.int .i64 y.cl, .int .i64 y.no, .string y.tx] 114)
      have BY := BoxL.new wr [.int .i64 y.cl, .int .i64 y.no, .string y.tx] 114
      go_wp2_with fail
      obtain ⟨V, hV⟩ : ∃ V, V = wr.alloc (.cells #[.int .i64 y.cl, .int .i64 y.no, .string y.tx] 114) := ⟨_, rfl⟩
      obtain ⟨gy, hgy⟩ : ∃ g, wr.heap.size = g := ⟨_, rfl⟩
      rw [← hV] at BY aly ⊢
      simp only [hgy] at BY ⊢
      have HGY := Lib.hid hgy
      clear hV hgy
      have z0 := BY.cell 0 _ rfl; have z1 := BY.cell 1 _ rfl; have zl := BY.lt
      have BR2 := BR.keep aly
      have f0' := keep_cell aly f0
      clear e0 e1 hgl f0 f1 f2
      have e0 := BR2.cell 0 _ rfl
      have e1 := BR2.cell 1 _ rfl
      have hgl := BR2.lt
      have hbl := cell_lt f0'
      have hB2 := bthen hB aly
      have hbr2 := bthen hbr aly
      have k2 := h2.keep saiK hB2
      have HV := Lib.hid (show saiAtB x.said k = (inB y.cl 1 9 && inB y.no 1 1000 && (k == 0 || decide ((saiAt x.said (k - 1)).cl < y.cl))) by unfold saiAtB; rw [HAX.out])
      obtain ⟨q0, hq0⟩ : ∃ q, inB y.cl 1 9 = q := ⟨_, rfl⟩
      obtain ⟨q1, hq1⟩ : ∃ q, inB y.no 1 1000 = q := ⟨_, rfl⟩
      have Q0 := Lib.hid hq0; have Q1 := Lib.hid hq1
      cases q0
      · have HB := Lib.hid (show staOkB x = false by unfold staOkB; rw [saisOk_no (l := x.said) (k := k) (by have := HL.out; omega) (by rw [HV.out, Q0.out]; rfl)]; rfl)
        clear hq1
        refine wp_region_grow (by kernel_rfl) (by kernel_rfl) ?_
        repeat (first | go_big_quiet_step ((go_at_call 99; exact grow_same (l1In_any _ _ _ _))))
        refine wpQuiet_nil ?_
        intro _ hw'
        obtain ⟨⟨w4, hb4⟩, hw''⟩ := hw'
        change _ = w4 at hw''
        subst hw''
        go_wp2
        go_returns
        exact ⟨ret_bool HB.out.symm, bthen hB2 hb4⟩
      cases q1
      · have HB := Lib.hid (show staOkB x = false by unfold staOkB; rw [saisOk_no (l := x.said) (k := k) (by have := HL.out; omega) (by rw [HV.out, Q0.out, Q1.out]; rfl)]; rfl)
        refine wp_region_grow (by kernel_rfl) (by kernel_rfl) ?_
        repeat (first | go_big_quiet_step ((go_at_call 99; exact grow_same (l1In_any _ _ _ _))))
        refine wpQuiet_nil ?_
        intro _ hw'
        obtain ⟨⟨w4, hb4⟩, hw''⟩ := hw'
        change _ = w4 at hw''
        subst hw''
        go_wp2
        go_returns
        exact ⟨ret_bool HB.out.symm, bthen hB2 hb4⟩
      by_cases hk0 : k = 0
      · have HK := Lib.hid (show saiAtB x.said k = true by rw [HV.out, Q0.out, Q1.out, hk0]; rfl)
        have gd0 : decide ((k : Int) > 0) = false := by rw [decide_eq_false_iff_not]; omega
        have gd00 : decide (0 < k) = false := by rw [decide_eq_false_iff_not]; omega
        have gd000 : ¬ 0 < k := by omega
        clear hk0
        refine wp_region_grow (by kernel_rfl) (by kernel_rfl) ?_
        repeat (first | go_big_quiet_step ((go_at_call 99; exact grow_same (l1In_any _ _ _ _))))
        refine wpQuiet_nil ?_
        intro _ hw'
        obtain ⟨⟨w4, hb4⟩, hw''⟩ := hw'
        change _ = w4 at hw''
        subst hw''
        go_wp2
        exact ⟨⟨k + 1, by omega, by go_num, upto_succ HCL.out HK.out, bthen hbr2 hb4⟩, by simp [intOf]; omega⟩
      · skip
        obtain ⟨k', rfl⟩ : ∃ k', k = k' + 1 := ⟨k - 1, by omega⟩
        clear hk0
        obtain ⟨_, u, hu, hcru⟩ := sai_el k2 (show k' < n2 by omega)
        have u0 : V.cell? ⟨b, off + k' * 3, none⟩ = some (.int .i64 u.cl) := hcru 0 _ rfl
        have HAU := Lib.hid (saiAt_of hu)
        clear hcru hu
        have gd0 : decide (((k' + 1 : Nat) : Int) > 0) = true := by rw [decide_eq_true_eq]; omega
        have gd1 : (((k' + 1 : Nat) : Int)) - 1 = (k' : Int) := by omega
        have HV2 := Lib.hid (show saiAtB x.said (k' + 1) = decide (u.cl < y.cl) by rw [HV.out, Nat.add_sub_cancel, HAU.out, Q0.out, Q1.out]; simp)
        by_cases hlu : u.cl < y.cl
        · have gd2 : decide (u.cl ≥ y.cl) = false := decide_eq_false (by omega)
          have HU := Lib.hid hlu; clear hlu
          refine wp_region_grow (by kernel_rfl) (by kernel_rfl) ?_
          repeat (first | go_big_quiet_step ((go_at_call 99; exact grow_same (l1In_any _ _ _ _))))
          refine wpQuiet_nil ?_
          intro _ hw'
          obtain ⟨⟨w4, hb4⟩, hw''⟩ := hw'
          change _ = w4 at hw''
          subst hw''
          go_wp2
          exact ⟨⟨k' + 1 + 1, by omega, by go_num, upto_succ HCL.out (by rw [HV2.out]; exact decide_eq_true HU.out), bthen hbr2 hb4⟩, by simp [intOf]; omega⟩
        · have gd2 : decide (u.cl ≥ y.cl) = true := decide_eq_true (by omega)
          have HB := Lib.hid (show staOkB x = false by unfold staOkB; rw [saisOk_no (l := x.said) (k := k' + 1) (by have := HL.out; omega) (by rw [HV2.out]; exact decide_eq_false hlu)]; rfl)
          clear hlu
          refine wp_region_grow (by kernel_rfl) (by kernel_rfl) ?_
          repeat (first | go_big_quiet_step ((go_at_call 99; exact grow_same (l1In_any _ _ _ _))))
          refine wpQuiet_nil ?_
          intro _ hw'
          obtain ⟨⟨w4, hb4⟩, hw''⟩ := hw'
          change _ = w4 at hw''
          subst hw''
          go_wp2
          go_returns
          exact ⟨ret_bool HB.out.symm, bthen hB2 hb4⟩
    · have HK := Lib.hid (saisOk_yes (l := x.said) (fun j hj => HCL.out j (by have := HL.out; omega)))
      go_wp2
      go_returns
      exact ⟨ret_bool (by unfold staOkB; rw [HK.out, QC.out]; rfl), hB⟩
end Go.Proofs.YtdphdnllhmnelaaGreat
/- The copies of a state: both sides. -/
namespace Go.Proofs.YtdphdnllhmnelaaGreat
open Go.RowKit
attribute [local go_sem] Grow.cell Grow.frozen
theorem saidInfo : (Tryz.prog.info? 114).map (fun i => (i.zero, i.size, i.bytes)) = some (some (.agg #[.int .i64 0, .int .i64 0, .string ByteArray.empty]), 3, 32) := by kernel_rfl
theorem sizeState0 : (Tryz.prog.info? 30).map (·.size) = some 2 := by kernel_rfl
/-- said, owned -/
theorem saiO_of {w : World} {n c : Nat} {A : Option Addr} {css : List (List Value)} {l : List Sai} (ho : w.ownsRow 0 114 3 (.slice A n c) n css.flatten) (hl : n = l.length) (hE : ElsR saiR w css l) : RowO saiF 114 3 (blkL A) w A n c l := by
  have h := RowO.intro (F := saiF) (sz := 3) ho hl (hE.els (fun cs x h => ⟨h, rfl⟩))
  rw [flat_nils, List.append_nil] at h
  exact h
theorem sai_still {w w' : World} {css : List (List Value)} {l : List Sai} (h : ElsR saiR w css l) : ElsR saiR w' css l := h
theorem RowR.nc {α : Type} {R : World → List Value → α → Prop} {sz n c : Nat} {w : World} {A : Option Addr} {l : List α} (h : RowR R sz w A n c l) : A = none → c = 0 := h.2
theorem blk_at {A : Option Addr} {n c m : Nat} (h : (Value.slice A n c).ownBlock = none ∨ (Value.slice A n c).ownBlock = some m) : ∀ b ∈ blkL A, b = m := fun b hb => by
  have h1 := blk_own (n := n) (c := c) (mem_blkL.1 hb)
  rcases h with h | h
  · rw [h] at h1; cases h1
  · rw [h] at h1; exact (Option.some.inj h1).symm
theorem blk_at2 {A : Option Addr} {n c m g : Nat} (h : (Value.slice A n c).ownBlock = some g ∨ (Value.slice A n c).ownBlock = some m) : ∀ b ∈ blkL A, b = g ∨ b = m := fun b hb => by
  have h1 := blk_own (n := n) (c := c) (mem_blkL.1 hb)
  rcases h with h | h
  · rw [h] at h1; exact .inl (Option.some.inj h1).symm
  · rw [h] at h1; exact .inr (Option.some.inj h1).symm
theorem below_nil {w w' : World} (h : w.grownBy w' (Value.slice none 0 0).ownBlock) : Below w.heap.size w w' := (Below.refl _ _).grown h (Nat.le_refl _) (fun k hk => by cases hk)
attribute [local irreducible] RowR RowO ElsR
set_option maxRecDepth 8000 in
set_option maxHeartbeats 8000000 in
theorem copySta_impl (x : Sta) (A1 : Option Addr) (n1 c1 : Nat) (A2 : Option Addr) (n2 c2 : Nat) (w : World) (h1 : RowR cstR 2 w A1 n1 c1 x.cat.sets) (h2 : RowR saiR 3 w A2 n2 c2 x.said) (hW : ctlW x.cat) (hn : n2 ≤ 1000) :
    Calls Tryz.prog 130 #[staV x (.slice A1 n1 c1) (.slice A2 n2 c2)] w fun e w' => ∃ B1 m1 d1 B2 m2 d2 f1 f2, e = .returned (staV x (.slice B1 m1 d1) (.slice B2 m2 d2)) ∧ RowO cstF 165 2 f1 w' B1 m1 d1 x.cat.sets ∧ RowO saiF 114 3 f2 w' B2 m2 d2 x.said ∧ (f1 ++ f2).Nodup ∧ (∀ b ∈ f1 ++ f2, w.heap.size ≤ b ∧ b < w'.heap.size) ∧ Below w.heap.size w w' := by
  have HL := Lib.hid h2.len
  have al1 := (Below.refl w.heap.size w).alloc (Nat.le_refl _) (.cells #[.slice A1 n1 c1, .slice A2 n2 c2] 30)
  have al2 := al1.alloc al1.size (.cells #[.slice none 0 0, .slice none 0 0] 30)
  have BX := (BoxL.new w [.slice A1 n1 c1, .slice A2 n2 c2] 30).keep ((Below.refl _ _).alloc (Nat.le_refl _) (.cells #[.slice none 0 0, .slice none 0 0] 30))
  have BO := BoxL.new (w.alloc (.cells #[.slice A1 n1 c1, .slice A2 n2 c2] 30)) [.slice none 0 0, .slice none 0 0] 30
  have hz1 : (w.alloc (.cells #[.slice A1 n1 c1, .slice A2 n2 c2] 30)).heap.size = w.heap.size + 1 := Array.size_push _
  unfold staV
  go_enter Tryz.func130, Tryz.ntmps130
  go_wp2_with fail
  obtain ⟨W, hWW⟩ : ∃ W, W = (w.alloc (.cells #[.slice A1 n1 c1, .slice A2 n2 c2] 30)).alloc (.cells #[.slice none 0 0, .slice none 0 0] 30) := ⟨_, rfl⟩
  obtain ⟨g, hg⟩ : ∃ g, w.heap.size = g := ⟨_, rfl⟩
  rw [hz1] at BO
  have HG := Lib.hid hg
  rw [← hWW] at al2 BX BO ⊢
  simp only [hg] at BX BO ⊢
  clear hWW hg al1 hz1
  have hR := h1.keep cstK al2
  have hS := h2.keep saiK al2
  obtain ⟨css, hCA, hEA⟩ := hS.cells saiK (by omega)
  have hnil : A2 = none → c2 = 0 := hS.nc
  have hgl := BX.lt
  have hgo := BO.lt
  refine wp_region_dagb [3, 4, 5, 6, 7, 8, 9] (by kernel_rfl) (by kernel_rfl) (fun D vs w' => ∃ v3 v4 v5 v6 v7 v8 v9 : Value, vs = [v3, v4, v5, v6, v7, v8, v9] ∧ (D 7 = false → Below W.heap.size W w') ∧ (D 7 = false → BoxL w' g [.slice A1 n1 c1, .slice A2 n2 c2]) ∧ (D 7 = false → BoxL w' (g + 1) [.slice none 0 0, .slice none 0 0]) ∧ (D 6 = false → ∃ s1 s2 : List Nat, (∀ b ∈ s1, b ∈ s2 → False) ∧ (∀ b ∈ s1 ++ s2, W.heap.size ≤ b ∧ b < w'.heap.size) ∧ (D 2 = true → D 6 = false → ∃ (B1 : Option Addr) (m1 d1 : Nat), v5 = .agg #[.slice B1 m1 d1] ∧ RowO cstF 165 2 s1 w' B1 m1 d1 x.cat.sets ∧ s1.Nodup) ∧ (D 5 = true → D 6 = false → ∃ (B2 : Option Addr) (d2 : Nat), v8 = .slice B2 n2 d2 ∧ w'.ownsRow 0 114 3 (.slice B2 n2 d2) n2 css.flatten ∧ s2 = blkL B2)) ∧ (D 0 = true → v3 = .pointer (some ⟨g, 0, none⟩)) ∧ (D 1 = true → v4 = .agg #[.slice A1 n1 c1]) ∧ (D 2 = true → True) ∧ (D 3 = true → v6 = .pointer (some ⟨g, 1, none⟩)) ∧ (D 4 = true → v7 = .slice A2 n2 c2) ∧ (D 5 = true → True) ∧ (D 6 = true → (D 7 = false → ∃ (B1 : Option Addr) (m1 d1 : Nat) (B2 : Option Addr) (d2 : Nat) (f1 f2 : List Nat), v9 = .agg #[.slice B1 m1 d1, .slice B2 n2 d2] ∧ RowO cstF 165 2 f1 w' B1 m1 d1 x.cat.sets ∧ RowO saiF 114 3 f2 w' B2 n2 d2 x.said ∧ (f1 ++ f2).Nodup ∧ (∀ b ∈ f1 ++ f2, W.heap.size ≤ b ∧ b < w'.heap.size))) ∧ (D 7 = true → ∃ (w1 : World) (B1 : Option Addr) (m1 d1 : Nat) (B2 : Option Addr) (d2 : Nat) (f1 f2 : List Nat), Below W.heap.size W w1 ∧ BoxL w1 (g + 1) [.slice none 0 0, .slice none 0 0] ∧ w' = w1.setCells (g + 1) 0 [.slice B1 m1 d1, .slice B2 n2 d2] ∧ RowO cstF 165 2 f1 w1 B1 m1 d1 x.cat.sets ∧ RowO saiF 114 3 f2 w1 B2 n2 d2 x.said ∧ (f1 ++ f2).Nodup ∧ (∀ b ∈ f1 ++ f2, W.heap.size ≤ b ∧ b < w1.heap.size)))
    ⟨_, _, _, _, _, _, _, rfl, (fun _ => (Below.refl _ _).drew), (fun _ => BX.keep (Below.refl _ _).drew), (fun _ => BO.keep (Below.refl _ _).drew), (fun _ => ⟨[], [], (fun _ h => by cases h), (fun _ h => by cases h), (fun h => by cases h), (fun h => by cases h)⟩), (fun h => by cases h), (fun h => by cases h), (fun h => by cases h), (fun h => by cases h), (fun h => by cases h), (fun h => by cases h), (fun h => by cases h), (fun h => by cases h)⟩ ?_ ?_
  · intro i D vs w' hi hD hdep hcl hI
    have hi' : i < 8 := hi
    obtain ⟨v3, v4, v5, v6, v7, v8, v9, rfl, hb, hX, hO, hJ, k0, k1, k2, k3, k4, k5, k6, k7⟩ := hI
    simp only [putAll, List.setIfInBounds_toArray, List.set_cons_succ, List.set_cons_zero]
    rcases (show i = 0 ∨ i = 1 ∨ i = 2 ∨ i = 3 ∨ i = 4 ∨ i = 5 ∨ i = 6 ∨ i = 7 by omega) with rfl | rfl | rfl | rfl | rfl | rfl | rfl | rfl
    · refine wpOp_step (by simp only [List.getElem?_toArray, List.getElem?_cons_zero]; rfl) (fun K hK => ?_)
      go_simp
      refine hK _ _ ⟨[.pointer (some ⟨g, 0, none⟩), v4, v5, v6, v7, v8, v9], ?_, _, _, _, _, _, _, _, rfl, hb, hX, hO, hJ, (fun _ => rfl), k1, k2, k3, k4, k5, k6, k7⟩
      simp only [putAll, List.setIfInBounds_toArray, List.set_cons_succ, List.set_cons_zero] <;> rfl
    · have e0 := k0 (hdep 0 (by kernel_rfl))
      subst e0
      have n7 : D 7 = false := Bool.eq_false_iff.2 (fun h => absurd (hcl 2 1 (hcl 6 2 (hcl 7 6 h (by kernel_rfl)) (by kernel_rfl)) (by kernel_rfl)) (by rw [hD]; simp))
      have q7 := (hX n7).cell 0 _ rfl
      refine wpOp_step (by simp only [List.getElem?_toArray, List.getElem?_cons_succ, List.getElem?_cons_zero]; rfl) (fun K hK => ?_)
      go_simp
      refine hK _ _ ⟨[.pointer (some ⟨g, 0, none⟩), .agg #[.slice A1 n1 c1], v5, v6, v7, v8, v9], ?_, _, _, _, _, _, _, _, rfl, hb, hX, hO, hJ, (fun _ => rfl), (fun _ => rfl), k2, k3, k4, k5, k6, k7⟩
      simp only [putAll, List.setIfInBounds_toArray, List.set_cons_succ, List.set_cons_zero] <;> rfl
    · have e1 := k1 (hdep 1 (by kernel_rfl))
      subst e1
      have n6 : D 6 = false := Bool.eq_false_iff.2 (fun h => absurd (hcl 6 2 h (by kernel_rfl)) (by rw [hD]; simp))
      have n7 : D 7 = false := Bool.eq_false_iff.2 (fun h => absurd (hcl 6 2 (hcl 7 6 h (by kernel_rfl)) (by kernel_rfl)) (by rw [hD]; simp))
      obtain ⟨s1, s2, hdj, hlt, hc, ha⟩ := hJ n6
      have hcc := copyCat_impl x.cat A1 n1 c1 w' (hR.keep cstK (hb n7)) hW
      unfold ctlV at hcc
      refine wpOp_step (by simp only [List.getElem?_toArray, List.getElem?_cons_succ, List.getElem?_cons_zero]; rfl) (fun K hK => ?_)
      go_simp
      refine hcc.mono ?_
      rintro e w4_ ⟨⟨B1, m1, d1, f1, rfl, R1, N1, F1⟩, hb4⟩
      refine hK _ _ ⟨[v3, .agg #[.slice A1 n1 c1], .agg #[.slice B1 m1 d1], v6, v7, v8, v9], ?_, _, _, _, _, _, _, _, rfl, (fun h' => bthen (hb h') hb4), (fun h' => (hX h').keep hb4), (fun h' => (hO h').keep hb4), (fun _ => ⟨f1, s2, (fun b a1 a2 => by have h3 := F1 b a1; have h4 := hlt b (List.mem_append_right _ a2); omega), (fun b hb' => by rcases List.mem_append.1 hb' with h | h; (have h3 := F1 b h; have h4 := (hb n7).size; exact ⟨by omega, h3.2⟩); (exact (by have h3 := hlt b (List.mem_append_right _ h); exact ⟨h3.1, Nat.lt_of_lt_of_le h3.2 hb4.size⟩))), (fun _ _ => ⟨B1, m1, d1, rfl, R1, N1⟩), (fun a1 a2 => by obtain ⟨B2, d2, e2, O2, E2⟩ := ha a1 a2; exact ⟨B2, d2, e2, own_chL O2 (Ch.of_below (S := fun _ => False) hb4) (fun _ _ h => h), E2⟩)⟩), k0, (fun _ => rfl), (fun _ => trivial), k3, k4, k5, (fun h => by rw [show D 6 = true from by simpa using h] at n6; cases n6), (fun h => by rw [show D 7 = true from by simpa using h] at n7; cases n7)⟩
      simp only [putAll, List.setIfInBounds_toArray, List.set_cons_succ, List.set_cons_zero] <;> rfl
    · refine wpOp_step (by simp only [List.getElem?_toArray, List.getElem?_cons_succ, List.getElem?_cons_zero]; rfl) (fun K hK => ?_)
      go_simp
      refine hK _ _ ⟨[v3, v4, v5, .pointer (some ⟨g, 1, none⟩), v7, v8, v9], ?_, _, _, _, _, _, _, _, rfl, hb, hX, hO, hJ, k0, k1, k2, (fun _ => rfl), k4, k5, k6, k7⟩
      simp only [putAll, List.setIfInBounds_toArray, List.set_cons_succ, List.set_cons_zero] <;> rfl
    · have e3 := k3 (hdep 3 (by kernel_rfl))
      subst e3
      have n7 : D 7 = false := Bool.eq_false_iff.2 (fun h => absurd (hcl 5 4 (hcl 6 5 (hcl 7 6 h (by kernel_rfl)) (by kernel_rfl)) (by kernel_rfl)) (by rw [hD]; simp))
      have q7 := (hX n7).cell 1 _ rfl
      refine wpOp_step (by simp only [List.getElem?_toArray, List.getElem?_cons_succ, List.getElem?_cons_zero]; rfl) (fun K hK => ?_)
      go_simp
      refine hK _ _ ⟨[v3, v4, v5, .pointer (some ⟨g, 1, none⟩), .slice A2 n2 c2, v8, v9], ?_, _, _, _, _, _, _, _, rfl, hb, hX, hO, hJ, k0, k1, k2, (fun _ => rfl), (fun _ => rfl), k5, k6, k7⟩
      simp only [putAll, List.setIfInBounds_toArray, List.set_cons_succ, List.set_cons_zero] <;> rfl
    · have e4 := k4 (hdep 4 (by kernel_rfl))
      subst e4
      have n6 : D 6 = false := Bool.eq_false_iff.2 (fun h => absurd (hcl 6 5 h (by kernel_rfl)) (by rw [hD]; simp))
      have n7 : D 7 = false := Bool.eq_false_iff.2 (fun h => absurd (hcl 6 5 (hcl 7 6 h (by kernel_rfl)) (by kernel_rfl)) (by rw [hD]; simp))
      obtain ⟨s1, s2, hdj, hlt, hc, ha⟩ := hJ n6
      refine wpOp_step (by simp only [List.getElem?_toArray, List.getElem?_cons_succ, List.getElem?_cons_zero]; rfl) (fun K hK => ?_)
      refine step_app (by rfl) (.const (.slice none 0 0)) (.tmp 7) 28 (by rfl) 0 114 _ 3 32 Tryz.underlying28 saidInfo rfl (by omega) (.slice none 0 0) 0 [] (by rfl) (World.ownsRow_nil _ 0 _ 3) A2 n2 c2 css.flatten (by rfl) (hCA.keep (hb n7)) (hEA.ones saiK) hnil (by unfold maxLen; omega) (by omega) (Nat.zero_le _) ?_
      intro B2 d2 wq2 own5 hg5 hb5 hob5
      rw [List.nil_append] at own5
      simp only [Nat.zero_add] at own5 hob5 ⊢
      have hch5 : Below w'.heap.size w' wq2 := below_nil hg5
      have hbk := blk_at hob5
      refine hK _ _ ⟨[v3, v4, v5, v6, .slice A2 n2 c2, .slice B2 n2 d2, v9], ?_, _, _, _, _, _, _, _, rfl, (fun h' => bthen (hb h') hch5), (fun h' => (hX h').keep hch5), (fun h' => (hO h').keep hch5), (fun _ => ⟨s1, blkL B2, (fun b a1 a2 => by have h3 := hlt b (List.mem_append_left _ a1); have h4 := hbk b a2; omega), (fun b hb' => by rcases List.mem_append.1 hb' with h | h; (exact (by have h3 := hlt b (List.mem_append_left _ h); exact ⟨h3.1, Nat.lt_of_lt_of_le h3.2 hch5.size⟩)); (have h3 := hbk b h; have h4 := (own_lo own5 b h).2; have h5 := (hb n7).size; exact ⟨by omega, h4⟩)), (fun a1 a2 => by obtain ⟨B1, m1, d1, e1, R1, N1⟩ := hc a1 a2; exact ⟨B1, m1, d1, e1, R1.keep cstK hch5, N1⟩), (fun _ _ => ⟨B2, d2, rfl, own5, rfl⟩)⟩), k0, k1, k2, k3, (fun _ => rfl), (fun _ => trivial), (fun h => by rw [show D 6 = true from by simpa using h] at n6; cases n6), (fun h => by rw [show D 7 = true from by simpa using h] at n7; cases n7)⟩
      simp only [Act.put, putAll, List.setIfInBounds_toArray, List.set_cons_succ, List.set_cons_zero] <;> rfl
    · obtain - := k2 (hdep 2 (by kernel_rfl))
      obtain - := k5 (hdep 5 (by kernel_rfl))
      obtain ⟨s1, s2, hdj, hlt, hc, ha⟩ := hJ hD
      obtain ⟨B1, m1, d1, rfl, R1, N1⟩ := hc (hdep 2 (by kernel_rfl)) hD
      obtain ⟨B2, d2, rfl, O2, rfl⟩ := ha (hdep 5 (by kernel_rfl)) hD
      refine wpOp_step (by simp only [List.getElem?_toArray, List.getElem?_cons_succ, List.getElem?_cons_zero]; rfl) (fun K hK => ?_)
      go_simp
      refine hK _ _ ⟨[v3, v4, .agg #[.slice B1 m1 d1], v6, v7, .slice B2 n2 d2, .agg #[.slice B1 m1 d1, .slice B2 n2 d2]], ?_, _, _, _, _, _, _, _, rfl, hb, hX, hO, (fun h => absurd h (by simp)), k0, k1, (fun _ => trivial), k3, k4, (fun _ => trivial), (fun _ _ => ⟨B1, m1, d1, B2, d2, s1, blkL B2, rfl, R1, saiO_of O2 HL.out (sai_still hEA), List.nodup_append.2 ⟨N1, (by cases B2 <;> simp [blkL]), fun a ha b hb e => hdj a ha (e ▸ hb)⟩, hlt⟩), k7⟩
      simp only [putAll, List.setIfInBounds_toArray, List.set_cons_succ, List.set_cons_zero] <;> rfl
    · obtain z6 := k6 (hdep 6 (by kernel_rfl))
      obtain ⟨B1, m1, d1, B2, d2, f1, f2, rfl, R1, R2, N1, F1⟩ := z6 hD
      have o7 := (hO hD).cell 0 _ rfl
      have o8 := (hO hD).cell 1 _ rfl
      have y7 := (hO hD).fz 0 (by simp)
      have y8 := (hO hD).fz 1 (by simp)
      refine wpOp_step (by simp only [List.getElem?_toArray, List.getElem?_cons_succ, List.getElem?_cons_zero]; rfl) (fun K hK => ?_)
      go_simp
      refine hK _ _ ⟨[v3, v4, v5, v6, v7, v8, .agg #[.slice B1 m1 d1, .slice B2 n2 d2]], ?_, _, _, _, _, _, _, _, rfl, (fun h => absurd h (by simp)), (fun h => absurd h (by simp)), (fun h => absurd h (by simp)), (fun h' => by have d1 := hdep 6 (by kernel_rfl); rw [show D 6 = false from by simpa using h'] at d1; cases d1), k0, k1, k2, k3, k4, k5, (fun _ h => absurd h (by simp)), (fun _ => ⟨w', B1, m1, d1, B2, d2, f1, f2, hb hD, hO hD, rfl, R1, R2, N1, F1⟩)⟩
      simp only [putAll, List.setIfInBounds_toArray, List.set_cons_succ, List.set_cons_zero] <;> rfl
  · intro D vs w' hD hI
    obtain ⟨v3, v4, v5, v6, v7, v8, v9, rfl, hb, hX, hO, hJ, k0, k1, k2, k3, k4, k5, k6, k7⟩ := hI
    simp only [putAll, List.setIfInBounds_toArray, List.set_cons_succ, List.set_cons_zero]
    obtain ⟨w1, B1, m1, d1, B2, d2, f1, f2, hbW, hBO, rfl, R1, R2, N1, F1⟩ := k7 (hD 7 (show 7 < 8 by decide))
    clear hD hb hX hO hJ
    have hBo := hBO.setCells (vs := [.slice B1 m1 d1, .slice B2 n2 d2]) rfl
    have hWr := hBo.range
    have hgs := al2.size
    have hgl2 := hbW.size
    have hB1 : Below w.heap.size w w1 := bthen al2 hbW
    have hch := ch_setCells (g := g + 1) [.slice B1 m1 d1, .slice B2 n2 d2] 0 w1
    have hne : ∀ b ∈ f1 ++ f2, ¬ (b = g + 1) := fun b hb => by have := F1 b hb; omega
    have RR1 := R1.ch cstK hch (fun b hb => hne b (List.mem_append_left _ hb))
    have RR2 := R2.ch saiK hch (fun b hb => hne b (List.mem_append_right _ hb))
    have hBF := hch.belowB hB1 hB1.size (fun k hk => by have hk : k = g + 1 := hk; have := HG.out; omega)
    have F2 : ∀ b ∈ f1 ++ f2, w.heap.size ≤ b ∧ b < (w1.setCells (g + 1) 0 [.slice B1 m1 d1, .slice B2 n2 d2]).heap.size := fun b hb => by have h3 := F1 b hb; have h4 := hch.size; exact ⟨by omega, by omega⟩
    obtain ⟨V, hV⟩ : ∃ V, V = w1.setCells (g + 1) 0 [.slice B1 m1 d1, .slice B2 n2 d2] := ⟨_, rfl⟩
    rw [← hV] at hWr RR1 RR2 hBF F2 ⊢
    clear hV hch R1 R2 F1 hne hBo
    go_wp2
    refine bodyPost_ret (results_cell1 Tryz.results130 rfl hWr Tryz.underlying30 rfl sizeState0) rfl ?_
    exact ⟨B1, m1, d1, B2, n2, d2, f1, f2, rfl, RR1, RR2, N1, F2, hBF⟩
set_option maxRecDepth 8000 in
set_option maxHeartbeats 8000000 in
theorem copySta_spec (x : Sta) (A1 : Option Addr) (n1 c1 : Nat) (A2 : Option Addr) (n2 c2 : Nat) (w : World) (h1 : RowR cstR 2 w A1 n1 c1 x.cat.sets) (h2 : RowR saiR 3 w A2 n2 c2 x.said) (hW : ctlW x.cat) (hn : n2 ≤ 1000) :
    Calls Tryz.prog 127 #[staV x (.slice A1 n1 c1) (.slice A2 n2 c2)] w fun e w' => ∃ B1 m1 d1 B2 m2 d2 f1 f2, e = .returned (staV x (.slice B1 m1 d1) (.slice B2 m2 d2)) ∧ RowO cstF 165 2 f1 w' B1 m1 d1 x.cat.sets ∧ RowO saiF 114 3 f2 w' B2 m2 d2 x.said ∧ (f1 ++ f2).Nodup ∧ (∀ b ∈ f1 ++ f2, w.heap.size ≤ b ∧ b < w'.heap.size) ∧ Below w.heap.size w w' := by
  have HL := Lib.hid h2.len
  have al1 := (Below.refl w.heap.size w).alloc (Nat.le_refl _) (.cells #[.slice A1 n1 c1, .slice A2 n2 c2] 30)
  have al2 := al1.alloc al1.size (.cells #[.slice none 0 0, .slice none 0 0] 30)
  have BX := (BoxL.new w [.slice A1 n1 c1, .slice A2 n2 c2] 30).keep ((Below.refl _ _).alloc (Nat.le_refl _) (.cells #[.slice none 0 0, .slice none 0 0] 30))
  have BO := BoxL.new (w.alloc (.cells #[.slice A1 n1 c1, .slice A2 n2 c2] 30)) [.slice none 0 0, .slice none 0 0] 30
  have hz1 : (w.alloc (.cells #[.slice A1 n1 c1, .slice A2 n2 c2] 30)).heap.size = w.heap.size + 1 := Array.size_push _
  unfold staV
  go_enter Tryz.func127, Tryz.ntmps127
  go_wp2_with fail
  obtain ⟨W, hWW⟩ : ∃ W, W = (w.alloc (.cells #[.slice A1 n1 c1, .slice A2 n2 c2] 30)).alloc (.cells #[.slice none 0 0, .slice none 0 0] 30) := ⟨_, rfl⟩
  obtain ⟨g, hg⟩ : ∃ g, w.heap.size = g := ⟨_, rfl⟩
  rw [hz1] at BO
  have HG := Lib.hid hg
  rw [← hWW] at al2 BX BO ⊢
  simp only [hg] at BX BO ⊢
  clear hWW hg al1 hz1
  have hR := h1.keep cstK al2
  have hS := h2.keep saiK al2
  obtain ⟨css, hCA, hEA⟩ := hS.cells saiK (by omega)
  have hnil : A2 = none → c2 = 0 := hS.nc
  have hgl := BX.lt
  have hgo := BO.lt
  refine wp_region_dagb [3, 4, 5, 6, 7, 8, 9, 10] (by kernel_rfl) (by kernel_rfl) (fun D vs w' => ∃ v3 v4 v5 v6 v7 v8 v9 v10 : Value, vs = [v3, v4, v5, v6, v7, v8, v9, v10] ∧ (D 8 = false → Below W.heap.size W w') ∧ (D 8 = false → BoxL w' g [.slice A1 n1 c1, .slice A2 n2 c2]) ∧ (D 8 = false → BoxL w' (g + 1) [.slice none 0 0, .slice none 0 0]) ∧ (D 7 = false → ∃ s1 s2 : List Nat, (∀ b ∈ s1, b ∈ s2 → False) ∧ (∀ b ∈ s1 ++ s2, W.heap.size ≤ b ∧ b < w'.heap.size) ∧ (D 2 = true → D 7 = false → ∃ (B1 : Option Addr) (m1 d1 : Nat), v5 = .agg #[.slice B1 m1 d1] ∧ RowO cstF 165 2 s1 w' B1 m1 d1 x.cat.sets ∧ s1.Nodup) ∧ (D 6 = true → D 7 = false → ∃ (B2 : Option Addr) (d2 : Nat), v9 = .slice B2 n2 d2 ∧ w'.ownsRow 0 114 3 (.slice B2 n2 d2) n2 css.flatten ∧ s2 = blkL B2) ∧ (D 3 = true → D 6 = false → ∃ gm : Nat, v6 = .slice (some ⟨gm, 0, none⟩) 0 0 ∧ w'.ownsRow 0 114 3 (.slice (some ⟨gm, 0, none⟩) 0 0) 0 [] ∧ s2 = [gm])) ∧ (D 0 = true → v3 = .pointer (some ⟨g, 0, none⟩)) ∧ (D 1 = true → v4 = .agg #[.slice A1 n1 c1]) ∧ (D 2 = true → True) ∧ (D 3 = true → True) ∧ (D 4 = true → v7 = .pointer (some ⟨g, 1, none⟩)) ∧ (D 5 = true → v8 = .slice A2 n2 c2) ∧ (D 6 = true → True) ∧ (D 7 = true → (D 8 = false → ∃ (B1 : Option Addr) (m1 d1 : Nat) (B2 : Option Addr) (d2 : Nat) (f1 f2 : List Nat), v10 = .agg #[.slice B1 m1 d1, .slice B2 n2 d2] ∧ RowO cstF 165 2 f1 w' B1 m1 d1 x.cat.sets ∧ RowO saiF 114 3 f2 w' B2 n2 d2 x.said ∧ (f1 ++ f2).Nodup ∧ (∀ b ∈ f1 ++ f2, W.heap.size ≤ b ∧ b < w'.heap.size))) ∧ (D 8 = true → ∃ (w1 : World) (B1 : Option Addr) (m1 d1 : Nat) (B2 : Option Addr) (d2 : Nat) (f1 f2 : List Nat), Below W.heap.size W w1 ∧ BoxL w1 (g + 1) [.slice none 0 0, .slice none 0 0] ∧ w' = w1.setCells (g + 1) 0 [.slice B1 m1 d1, .slice B2 n2 d2] ∧ RowO cstF 165 2 f1 w1 B1 m1 d1 x.cat.sets ∧ RowO saiF 114 3 f2 w1 B2 n2 d2 x.said ∧ (f1 ++ f2).Nodup ∧ (∀ b ∈ f1 ++ f2, W.heap.size ≤ b ∧ b < w1.heap.size)))
    ⟨_, _, _, _, _, _, _, _, rfl, (fun _ => (Below.refl _ _).drew), (fun _ => BX.keep (Below.refl _ _).drew), (fun _ => BO.keep (Below.refl _ _).drew), (fun _ => ⟨[], [], (fun _ h => by cases h), (fun _ h => by cases h), (fun h => by cases h), (fun h => by cases h), (fun h => by cases h)⟩), (fun h => by cases h), (fun h => by cases h), (fun h => by cases h), (fun h => by cases h), (fun h => by cases h), (fun h => by cases h), (fun h => by cases h), (fun h => by cases h), (fun h => by cases h)⟩ ?_ ?_
  · intro i D vs w' hi hD hdep hcl hI
    have hi' : i < 9 := hi
    obtain ⟨v3, v4, v5, v6, v7, v8, v9, v10, rfl, hb, hX, hO, hJ, k0, k1, k2, k3, k4, k5, k6, k7, k8⟩ := hI
    simp only [putAll, List.setIfInBounds_toArray, List.set_cons_succ, List.set_cons_zero]
    rcases (show i = 0 ∨ i = 1 ∨ i = 2 ∨ i = 3 ∨ i = 4 ∨ i = 5 ∨ i = 6 ∨ i = 7 ∨ i = 8 by omega) with rfl | rfl | rfl | rfl | rfl | rfl | rfl | rfl | rfl
    · refine wpOp_step (by simp only [List.getElem?_toArray, List.getElem?_cons_zero]; rfl) (fun K hK => ?_)
      go_simp
      refine hK _ _ ⟨[.pointer (some ⟨g, 0, none⟩), v4, v5, v6, v7, v8, v9, v10], ?_, _, _, _, _, _, _, _, _, rfl, hb, hX, hO, hJ, (fun _ => rfl), k1, k2, k3, k4, k5, k6, k7, k8⟩
      simp only [putAll, List.setIfInBounds_toArray, List.set_cons_succ, List.set_cons_zero] <;> rfl
    · have e0 := k0 (hdep 0 (by kernel_rfl))
      subst e0
      have n8 : D 8 = false := Bool.eq_false_iff.2 (fun h => absurd (hcl 2 1 (hcl 7 2 (hcl 8 7 h (by kernel_rfl)) (by kernel_rfl)) (by kernel_rfl)) (by rw [hD]; simp))
      have q7 := (hX n8).cell 0 _ rfl
      refine wpOp_step (by simp only [List.getElem?_toArray, List.getElem?_cons_succ, List.getElem?_cons_zero]; rfl) (fun K hK => ?_)
      go_simp
      refine hK _ _ ⟨[.pointer (some ⟨g, 0, none⟩), .agg #[.slice A1 n1 c1], v5, v6, v7, v8, v9, v10], ?_, _, _, _, _, _, _, _, _, rfl, hb, hX, hO, hJ, (fun _ => rfl), (fun _ => rfl), k2, k3, k4, k5, k6, k7, k8⟩
      simp only [putAll, List.setIfInBounds_toArray, List.set_cons_succ, List.set_cons_zero] <;> rfl
    · have e1 := k1 (hdep 1 (by kernel_rfl))
      subst e1
      have n7 : D 7 = false := Bool.eq_false_iff.2 (fun h => absurd (hcl 7 2 h (by kernel_rfl)) (by rw [hD]; simp))
      have n8 : D 8 = false := Bool.eq_false_iff.2 (fun h => absurd (hcl 7 2 (hcl 8 7 h (by kernel_rfl)) (by kernel_rfl)) (by rw [hD]; simp))
      obtain ⟨s1, s2, hdj, hlt, hc, ha, hm⟩ := hJ n7
      have hcc := copyCat_spec x.cat A1 n1 c1 w' (hR.keep cstK (hb n8)) hW
      unfold ctlV at hcc
      refine wpOp_step (by simp only [List.getElem?_toArray, List.getElem?_cons_succ, List.getElem?_cons_zero]; rfl) (fun K hK => ?_)
      go_simp
      refine hcc.mono ?_
      rintro e w4_ ⟨⟨B1, m1, d1, f1, rfl, R1, N1, F1⟩, hb4⟩
      refine hK _ _ ⟨[v3, .agg #[.slice A1 n1 c1], .agg #[.slice B1 m1 d1], v6, v7, v8, v9, v10], ?_, _, _, _, _, _, _, _, _, rfl, (fun h' => bthen (hb h') hb4), (fun h' => (hX h').keep hb4), (fun h' => (hO h').keep hb4), (fun _ => ⟨f1, s2, (fun b a1 a2 => by have h3 := F1 b a1; have h4 := hlt b (List.mem_append_right _ a2); omega), (fun b hb' => by rcases List.mem_append.1 hb' with h | h; (have h3 := F1 b h; have h4 := (hb n8).size; exact ⟨by omega, h3.2⟩); (exact (by have h3 := hlt b (List.mem_append_right _ h); exact ⟨h3.1, Nat.lt_of_lt_of_le h3.2 hb4.size⟩))), (fun _ _ => ⟨B1, m1, d1, rfl, R1, N1⟩), (fun a1 a2 => by obtain ⟨B2, d2, e2, O2, E2⟩ := ha a1 a2; exact ⟨B2, d2, e2, own_chL O2 (Ch.of_below (S := fun _ => False) hb4) (fun _ _ h => h), E2⟩), (fun a1 a2 => by obtain ⟨gm, e2, O2, E2⟩ := hm a1 a2; exact ⟨gm, e2, own_chL O2 (Ch.of_below (S := fun _ => False) hb4) (fun _ _ h => h), E2⟩)⟩), k0, (fun _ => rfl), (fun _ => trivial), k3, k4, k5, k6, (fun h => by rw [show D 7 = true from by simpa using h] at n7; cases n7), (fun h => by rw [show D 8 = true from by simpa using h] at n8; cases n8)⟩
      simp only [putAll, List.setIfInBounds_toArray, List.set_cons_succ, List.set_cons_zero] <;> rfl
    · have n6 : D 6 = false := Bool.eq_false_iff.2 (fun h => absurd (hcl 6 3 h (by kernel_rfl)) (by rw [hD]; simp))
      have n7 : D 7 = false := Bool.eq_false_iff.2 (fun h => absurd (hcl 6 3 (hcl 7 6 h (by kernel_rfl)) (by kernel_rfl)) (by rw [hD]; simp))
      have n8 : D 8 = false := Bool.eq_false_iff.2 (fun h => absurd (hcl 6 3 (hcl 7 6 (hcl 8 7 h (by kernel_rfl)) (by kernel_rfl)) (by kernel_rfl)) (by rw [hD]; simp))
      obtain ⟨s1, s2, hdj, hlt, hc, ha, hm⟩ := hJ n7
      have hal := (Below.refl w'.heap.size w').alloc (Nat.le_refl _) (.cells #[] 114)
      have hsz := (hb n8).size
      refine wpOp_step (by simp only [List.getElem?_toArray, List.getElem?_cons_succ, List.getElem?_cons_zero]; rfl) (fun K hK => ?_)
      go_simp
      refine hK _ _ ⟨[v3, v4, v5, .slice (some ⟨w'.heap.size, 0, none⟩) 0 0, v7, v8, v9, v10], ?_, _, _, _, _, _, _, _, _, rfl, (fun h' => bthen (hb h') hal), (fun h' => (hX h').keep hal), (fun h' => (hO h').keep hal), (fun _ => ⟨s1, [w'.heap.size], (fun b a1 a2 => by have h3 := hlt b (List.mem_append_left _ a1); have h4 := List.mem_singleton.1 a2; omega), (fun b hb' => by rcases List.mem_append.1 hb' with h | h; (exact (by have h3 := hlt b (List.mem_append_left _ h); exact ⟨h3.1, Nat.lt_of_lt_of_le h3.2 hal.size⟩)); (have h4 := List.mem_singleton.1 h; have h5 : (w'.alloc (.cells #[] 114)).heap.size = w'.heap.size + 1 := Array.size_push _; exact ⟨by omega, by omega⟩)), (fun a1 a2 => by obtain ⟨B1, m1, d1, e1, R1, N1⟩ := hc a1 a2; exact ⟨B1, m1, d1, e1, R1.keep cstK hal, N1⟩), (fun a1 _ => by rw [show D 6 = true from by simpa using a1] at n6; cases n6), (fun _ _ => ⟨_, rfl, own_empty w' _ _ (Nat.zero_le _), rfl⟩)⟩), k0, k1, k2, (fun _ => trivial), k4, k5, k6, (fun h => by rw [show D 7 = true from by simpa using h] at n7; cases n7), (fun h => by rw [show D 8 = true from by simpa using h] at n8; cases n8)⟩
      simp only [putAll, List.setIfInBounds_toArray, List.set_cons_succ, List.set_cons_zero] <;> rfl
    · refine wpOp_step (by simp only [List.getElem?_toArray, List.getElem?_cons_succ, List.getElem?_cons_zero]; rfl) (fun K hK => ?_)
      go_simp
      refine hK _ _ ⟨[v3, v4, v5, v6, .pointer (some ⟨g, 1, none⟩), v8, v9, v10], ?_, _, _, _, _, _, _, _, _, rfl, hb, hX, hO, hJ, k0, k1, k2, k3, (fun _ => rfl), k5, k6, k7, k8⟩
      simp only [putAll, List.setIfInBounds_toArray, List.set_cons_succ, List.set_cons_zero] <;> rfl
    · have e4 := k4 (hdep 4 (by kernel_rfl))
      subst e4
      have n8 : D 8 = false := Bool.eq_false_iff.2 (fun h => absurd (hcl 6 5 (hcl 7 6 (hcl 8 7 h (by kernel_rfl)) (by kernel_rfl)) (by kernel_rfl)) (by rw [hD]; simp))
      have q7 := (hX n8).cell 1 _ rfl
      refine wpOp_step (by simp only [List.getElem?_toArray, List.getElem?_cons_succ, List.getElem?_cons_zero]; rfl) (fun K hK => ?_)
      go_simp
      refine hK _ _ ⟨[v3, v4, v5, v6, .pointer (some ⟨g, 1, none⟩), .slice A2 n2 c2, v9, v10], ?_, _, _, _, _, _, _, _, _, rfl, hb, hX, hO, hJ, k0, k1, k2, k3, (fun _ => rfl), (fun _ => rfl), k6, k7, k8⟩
      simp only [putAll, List.setIfInBounds_toArray, List.set_cons_succ, List.set_cons_zero] <;> rfl
    · obtain - := k3 (hdep 3 (by kernel_rfl))
      have e5 := k5 (hdep 5 (by kernel_rfl))
      subst e5
      have n7 : D 7 = false := Bool.eq_false_iff.2 (fun h => absurd (hcl 7 6 h (by kernel_rfl)) (by rw [hD]; simp))
      have n8 : D 8 = false := Bool.eq_false_iff.2 (fun h => absurd (hcl 7 6 (hcl 8 7 h (by kernel_rfl)) (by kernel_rfl)) (by rw [hD]; simp))
      obtain ⟨s1, s2, hdj, hlt, hc, ha, hm⟩ := hJ n7
      obtain ⟨gm, rfl, hm0, rfl⟩ := hm (hdep 3 (by kernel_rfl)) hD
      have hgm := hlt gm (by simp)
      have hgm1 : gm ∉ s1 := fun h => hdj gm h (by simp)
      refine wpOp_step (by simp only [List.getElem?_toArray, List.getElem?_cons_succ, List.getElem?_cons_zero]; rfl) (fun K hK => ?_)
      refine step_app (by rfl) (.tmp 6) (.tmp 8) 28 (by rfl) 0 114 _ 3 32 Tryz.underlying28 saidInfo rfl (by omega) (.slice (some ⟨gm, 0, none⟩) 0 0) 0 [] (by rfl) hm0 A2 n2 c2 css.flatten (by rfl) (hCA.keep (hb n8)) (hEA.ones saiK) hnil (by unfold maxLen; omega) (by omega) (Nat.zero_le _) ?_
      intro B2 d2 wq2 own5 hg5 hb5 hob5
      rw [List.nil_append] at own5
      simp only [Nat.zero_add] at own5 hob5 ⊢
      have hch5 : Ch (fun b => b = gm) w' wq2 := (Ch.of_grow hg5).mono (fun b hb => by simpa [Value.ownBlock, eq_comm] using hb)
      have hbk := blk_at2 hob5
      refine hK _ _ ⟨[v3, v4, v5, .slice (some ⟨gm, 0, none⟩) 0 0, v7, .slice A2 n2 c2, .slice B2 n2 d2, v10], ?_, _, _, _, _, _, _, _, _, rfl, (fun h' => hch5.belowB (hb h') (hb h').size (fun k hk => by have hk : k = gm := hk; omega)), (fun h' => (hX h').ch hch5 (by have := hgm.1; omega)), (fun h' => (hO h').ch hch5 (by have := hgm.1; omega)), (fun _ => ⟨s1, blkL B2, (fun b a1 a2 => by have h3 := hlt b (List.mem_append_left _ a1); rcases hbk b a2 with h4 | h4; (have h4 : b = gm := h4; exact hgm1 (h4 ▸ a1)); (have h4 : b = w'.heap.size := h4; omega)), (fun b hb' => by rcases List.mem_append.1 hb' with h | h; (exact (by have h3 := hlt b (List.mem_append_left _ h); exact ⟨h3.1, Nat.lt_of_lt_of_le h3.2 hch5.size⟩)); (have h4 := (own_lo own5 b h).2; have h5 := (hb n8).size; rcases hbk b h with h3 | h3; (have h3 : b = gm := h3; exact ⟨by omega, h4⟩); (have h3 : b = w'.heap.size := h3; exact ⟨by omega, h4⟩))), (fun a1 a2 => by obtain ⟨B1, m1, d1, e1, R1, N1⟩ := hc a1 a2; exact ⟨B1, m1, d1, e1, R1.ch cstK hch5 (fun b hb e => hgm1 (by have e : b = gm := e; exact e ▸ hb)), N1⟩), (fun _ _ => ⟨B2, d2, rfl, own5, rfl⟩), (fun _ h => absurd h (by simp))⟩), k0, k1, k2, (fun _ => trivial), k4, (fun _ => rfl), (fun _ => trivial), (fun h => by rw [show D 7 = true from by simpa using h] at n7; cases n7), (fun h => by rw [show D 8 = true from by simpa using h] at n8; cases n8)⟩
      simp only [Act.put, putAll, List.setIfInBounds_toArray, List.set_cons_succ, List.set_cons_zero] <;> rfl
    · obtain - := k2 (hdep 2 (by kernel_rfl))
      obtain - := k6 (hdep 6 (by kernel_rfl))
      obtain ⟨s1, s2, hdj, hlt, hc, ha, hm⟩ := hJ hD
      obtain ⟨B1, m1, d1, rfl, R1, N1⟩ := hc (hdep 2 (by kernel_rfl)) hD
      obtain ⟨B2, d2, rfl, O2, rfl⟩ := ha (hdep 6 (by kernel_rfl)) hD
      refine wpOp_step (by simp only [List.getElem?_toArray, List.getElem?_cons_succ, List.getElem?_cons_zero]; rfl) (fun K hK => ?_)
      go_simp
      refine hK _ _ ⟨[v3, v4, .agg #[.slice B1 m1 d1], v6, v7, v8, .slice B2 n2 d2, .agg #[.slice B1 m1 d1, .slice B2 n2 d2]], ?_, _, _, _, _, _, _, _, _, rfl, hb, hX, hO, (fun h => absurd h (by simp)), k0, k1, (fun _ => trivial), k3, k4, k5, (fun _ => trivial), (fun _ _ => ⟨B1, m1, d1, B2, d2, s1, blkL B2, rfl, R1, saiO_of O2 HL.out (sai_still hEA), List.nodup_append.2 ⟨N1, (by cases B2 <;> simp [blkL]), fun a ha b hb e => hdj a ha (e ▸ hb)⟩, hlt⟩), k8⟩
      simp only [putAll, List.setIfInBounds_toArray, List.set_cons_succ, List.set_cons_zero] <;> rfl
    · obtain z7 := k7 (hdep 7 (by kernel_rfl))
      obtain ⟨B1, m1, d1, B2, d2, f1, f2, rfl, R1, R2, N1, F1⟩ := z7 hD
      have o7 := (hO hD).cell 0 _ rfl
      have o8 := (hO hD).cell 1 _ rfl
      have y7 := (hO hD).fz 0 (by simp)
      have y8 := (hO hD).fz 1 (by simp)
      refine wpOp_step (by simp only [List.getElem?_toArray, List.getElem?_cons_succ, List.getElem?_cons_zero]; rfl) (fun K hK => ?_)
      go_simp
      refine hK _ _ ⟨[v3, v4, v5, v6, v7, v8, v9, .agg #[.slice B1 m1 d1, .slice B2 n2 d2]], ?_, _, _, _, _, _, _, _, _, rfl, (fun h => absurd h (by simp)), (fun h => absurd h (by simp)), (fun h => absurd h (by simp)), (fun h' => by have d1 := hdep 7 (by kernel_rfl); rw [show D 7 = false from by simpa using h'] at d1; cases d1), k0, k1, k2, k3, k4, k5, k6, (fun _ h => absurd h (by simp)), (fun _ => ⟨w', B1, m1, d1, B2, d2, f1, f2, hb hD, hO hD, rfl, R1, R2, N1, F1⟩)⟩
      simp only [putAll, List.setIfInBounds_toArray, List.set_cons_succ, List.set_cons_zero] <;> rfl
  · intro D vs w' hD hI
    obtain ⟨v3, v4, v5, v6, v7, v8, v9, v10, rfl, hb, hX, hO, hJ, k0, k1, k2, k3, k4, k5, k6, k7, k8⟩ := hI
    simp only [putAll, List.setIfInBounds_toArray, List.set_cons_succ, List.set_cons_zero]
    obtain ⟨w1, B1, m1, d1, B2, d2, f1, f2, hbW, hBO, rfl, R1, R2, N1, F1⟩ := k8 (hD 8 (show 8 < 9 by decide))
    clear hD hb hX hO hJ
    have hBo := hBO.setCells (vs := [.slice B1 m1 d1, .slice B2 n2 d2]) rfl
    have hWr := hBo.range
    have hgs := al2.size
    have hgl2 := hbW.size
    have hB1 : Below w.heap.size w w1 := bthen al2 hbW
    have hch := ch_setCells (g := g + 1) [.slice B1 m1 d1, .slice B2 n2 d2] 0 w1
    have hne : ∀ b ∈ f1 ++ f2, ¬ (b = g + 1) := fun b hb => by have := F1 b hb; omega
    have RR1 := R1.ch cstK hch (fun b hb => hne b (List.mem_append_left _ hb))
    have RR2 := R2.ch saiK hch (fun b hb => hne b (List.mem_append_right _ hb))
    have hBF := hch.belowB hB1 hB1.size (fun k hk => by have hk : k = g + 1 := hk; have := HG.out; omega)
    have F2 : ∀ b ∈ f1 ++ f2, w.heap.size ≤ b ∧ b < (w1.setCells (g + 1) 0 [.slice B1 m1 d1, .slice B2 n2 d2]).heap.size := fun b hb => by have h3 := F1 b hb; have h4 := hch.size; exact ⟨by omega, by omega⟩
    obtain ⟨V, hV⟩ : ∃ V, V = w1.setCells (g + 1) 0 [.slice B1 m1 d1, .slice B2 n2 d2] := ⟨_, rfl⟩
    rw [← hV] at hWr RR1 RR2 hBF F2 ⊢
    clear hV hch R1 R2 F1 hne hBo
    go_wp2
    refine bodyPost_ret (results_cell1 Tryz.results127 rfl hWr Tryz.underlying30 rfl sizeState0) rfl ?_
    exact ⟨B1, m1, d1, B2, n2, d2, f1, f2, rfl, RR1, RR2, N1, F2, hBF⟩
end Go.Proofs.YtdphdnllhmnelaaGreat
/- slices.Insert of one Said into a row of the call's own (printed by inserts.py). -/
namespace Go.Proofs.YtdphdnllhmnelaaGreat
open Go.Shelf Go.RowKit Go.Lib
theorem sadInfo : (Tryz.prog.info? 114).map (fun i => (i.zero, i.size, i.bytes)) = some (some (.agg #[.int .i64 0, .int .i64 0, .string ByteArray.empty]), 3, 32) := by kernel_rfl
theorem sizeEntry_sad (w : World) : (Go.sizeOf 114).run Tryz.prog w = .ok 3 w := by
  first | (unfold Go.sizeOf; kernel_rfl) | kernel_rfl | rfl
theorem infoSize_sad : (Tryz.prog.info? 114).map (·.size) = some 3 := by kernel_rfl

set_option maxHeartbeats 4000000 in
set_option maxRecDepth 100000 in
/-- there is room, i < len(s): in place -/
theorem ins_shift_sad (b n c i vb : Nat) (cs : List Value) (v0 v1 v2 : Value) (w : World) (hi : i < n) (hroom : n + 1 ≤ c) (hc63 : c ≤ 9223372036854775807) (hvb : vb ≠ b) (hcl : cs.length = n * 3)
    (hcs : ∀ j v, cs[j]? = some v → w.cell? ⟨b, j, none⟩ = some v) (hsp : ∀ j, j < (n + 1) * 3 → (w.cell? ⟨b, j, none⟩).isSome = true) (hfz : ∀ j, w.frozen? ⟨b, j, none⟩ = false)
    (hv0 : w.cell? ⟨vb, 0, none⟩ = some v0) (hv1 : w.cell? ⟨vb, 1, none⟩ = some v1) (hv2 : w.cell? ⟨vb, 2, none⟩ = some v2) (h1c : ∀ v ∈ cs, v.oneCell' = true) (h10 : v0.oneCell' = true) (h11 : v1.oneCell' = true) (h12 : v2.oneCell' = true) (hfv : ∀ j, w.frozen? ⟨vb, j, none⟩ = false) :
    Calls Tryz.prog 135 #[.slice (some ⟨b, 0, none⟩) n c, .int .i64 i, .slice (some ⟨vb, 0, none⟩) 1 1] w fun e w' =>
      e = .returned (.slice (some ⟨b, 0, none⟩) (n + 1) c) ∧ w' = (w.drew.setCells b ((i + 1) * 3) (cs.drop (i * 3))).setCells b (i * 3) [v0, v1, v2] := by
  obtain ⟨tA, kA, hsa, _, _⟩ := World.shape?_of_cell? hv0
  obtain ⟨u, hu⟩ := Option.isSome_iff_exists.1 (hsp 0 (by omega))
  obtain ⟨tB, kB, hsb, hkB, _⟩ := World.shape?_of_cell? hu
  have hkB : kB ≠ 0 := by omega
  have hz2 : ¬ ((i : Int) = (n : Int)) := by omega
  have hov : ∀ lb cb, (callFunc 178 #[.slice (some ⟨vb, 0, none⟩) 1 1, .slice (some ⟨b, (i + 1) * 3, none⟩) lb cb]).run Tryz.prog w = .ok (.value (.bool false)) w := fun lb cb => by
    rw [run_callFunc_extern Tryz.func178 (by kernel_rfl) (by kernel_rfl) (by kernel_rfl) (e := Extern.SlicesOverlaps.overlaps #[28, 28] #[4]) (by kernel_rfl),
      Lib.run_overlaps_apart w 28 4 114 Tryz.underlying28 3 sizeEntry_sad ⟨vb, 0, none⟩ ⟨b, (i + 1) * 3, none⟩ 1 1 lb cb hvb tA tB kA kB hsa hsb hkB (hfv 0) (hfv kA)]
    rfl
  have hdl : (cs.drop (i * 3)).length = (n - i) * 3 := by rw [List.length_drop, hcl]; omega
  have mixed : Tryz.prog.follows Departure.mixedOrders = true := by kernel_rfl
  have hw1 : IntKind.i64.wrap ((i : Int) + 1) = (i : Int) + 1 := by rw [IntKind.wrap_i64]; omega
  have hb1 : (0 : Int) ≤ (i : Int) + 1 := by omega
  have htn : ((i : Int) + 1).toNat = i + 1 := by omega
  have hb3 : (i : Int) ≤ (n : Int) + 1 := by omega
  have hin : i ≤ n := by omega
  have hb2 : ¬ (c = i + 1) := by omega
  have hb4 : ¬ (c = i) := by omega
  have hcp1 : ∀ ty dc sc, (Builtin.copy_ #[28, 28] ty #[.slice (some ⟨b, (i + 1) * 3, none⟩) (n - i) dc, .slice (some ⟨b, i * 3, none⟩) (n + 1 - i) sc]).run Tryz.prog w.drew = .ok (goInt ((n - i : Nat) : Int)) (w.drew.setCells b ((i + 1) * 3) (cs.drop (i * 3))) := fun ty dc sc => by
    have hmin : Nat.min (n + 1 - i) (n - i) = n - i := by simp only [Nat.min_def]; split <;> omega
    have := run_copyN (P := Tryz.prog) w.drew 28 28 ty 114 3 b ((i + 1) * 3) (n - i) dc ⟨b, i * 3, none⟩ (n + 1 - i) sc (cs.drop (i * 3)) Tryz.underlying28 infoSize_sad (by rw [hdl, hmin])
      (fun j v hj => by rw [Addr.add_lit]; exact hcs (i * 3 + j) v (by rwa [List.getElem?_drop] at hj))
      (fun j hj => hsp _ (by omega)) (fun j hj => hfz _) (fun v hv => h1c v (List.mem_of_mem_drop hv))
    rwa [hmin] at this
  obtain ⟨W1, hW1⟩ : ∃ W1, W1 = w.drew.setCells b ((i + 1) * 3) (cs.drop (i * 3)) := ⟨_, rfl⟩
  have hsp1 : ∀ k, k < (n + 1) * 3 → (W1.cell? ⟨b, k, none⟩).isSome = true := fun k hk => by
    rw [hW1]
    exact some_setCells b (cs.drop (i * 3)) ((i + 1) * 3) w.drew (fun j hj => hsp ((i + 1) * 3 + j) (by rw [hdl] at hj; omega)) k (hsp k hk)
  have hcp2 : ∀ (W : World), (∀ x, W.cell? x = W1.cell? x) → (∀ x, W.frozen? x = W1.frozen? x) → ∀ ty dc, (Builtin.copy_ #[28, 28] ty #[.slice (some ⟨b, i * 3, none⟩) (n + 1 - i) dc, .slice (some ⟨vb, 0, none⟩) 1 1]).run Tryz.prog W = .ok (goInt 1) (W.setCells b (i * 3) [v0, v1, v2]) := fun W hWc hWf ty dc => by
    have hmin : Nat.min 1 (n + 1 - i) = 1 := by simp only [Nat.min_def]; split <;> omega
    have := run_copyN (P := Tryz.prog) W 28 28 ty 114 3 b (i * 3) (n + 1 - i) dc ⟨vb, 0, none⟩ 1 1 [v0, v1, v2] Tryz.underlying28 infoSize_sad (by rw [hmin]; rfl)
      (fun j v hj => by
        rw [Addr.add_lit, hWc, hW1, World.cell?_setCells_out b _ _ _ _ (fun h _ => absurd h hvb), Nat.zero_add]
        rcases j with _ | _ | _ | j
        · injection hj with hj; subst hj; exact hv0
        · injection hj with hj; subst hj; exact hv1
        · injection hj with hj; subst hj; exact hv2
        · cases hj)
      (fun j hj => by rw [hWc]; exact hsp1 _ (by simp at hj; omega)) (fun j hj => by rw [hWf, hW1, World.frozen?_setCells]; exact hfz _) (fun v hv => by
        simp at hv; rcases hv with rfl | rfl | rfl
        · exact h10
        · exact h11
        · exact h12)
    rwa [hmin] at this
  rw [← hW1] at hcp1
  clear hsp1
  go_enter Tryz.func135, Tryz.ntmps135
  go_wp2_with (simp only [hov])
  go_region_law_o (refine step_copyN rfl _ _ 28 28 rfl _ _ (by simp [Act.eval, Act.put]) (by simp [Act.eval, Act.put]) (hcp1 _ _ _) ?_)
  go_wp2_with (at_builtin; refine wpList_copyN _ rfl _ _ 28 28 rfl _ _ rfl rfl (hcp2 _ (fun _ => rfl) (fun _ => rfl) _ _) ?_)
  go_returns
  first | exact ⟨rfl, rfl⟩ | exact ⟨rfl, by rw [hW1]⟩

theorem zeroE_size_sad (k : Nat) : (Builtin.zeroCells (Value.agg #[.int .i64 0, .int .i64 0, .string ByteArray.empty]).cells k).size = k * 3 := by
  simp [Builtin.zeroCells, Value.cells]
set_option maxHeartbeats 4000000 in
set_option maxRecDepth 100000 in
/-- i < len(s), no room: a new row -/
theorem ins_grow_sad (b n c i vb : Nat) (cs : List Value) (v0 v1 v2 : Value) (w : World) (hi : i < n) (hnc : n ≤ c) (hroom : c < n + 1) (hbig : (n + 1) * 32 ≤ 140737488355328) (hcl : cs.length = n * 3)
    (hcs : ∀ j v, cs[j]? = some v → w.cell? ⟨b, j, none⟩ = some v)
    (hv0 : w.cell? ⟨vb, 0, none⟩ = some v0) (hv1 : w.cell? ⟨vb, 1, none⟩ = some v1) (hv2 : w.cell? ⟨vb, 2, none⟩ = some v2) (h1c : ∀ v ∈ cs, v.oneCell' = true) (h10 : v0.oneCell' = true) (h11 : v1.oneCell' = true) (h12 : v2.oneCell' = true) :
    Calls Tryz.prog 135 #[.slice (some ⟨b, 0, none⟩) n c, .int .i64 i, .slice (some ⟨vb, 0, none⟩) 1 1] w fun e w' =>
      ∃ G ROW, n + 1 ≤ G ∧ G ≤ maxLen ∧ ROW.size = G * 3 ∧ (∀ j, j < i * 3 → ROW[j]? = cs[j]?) ∧ e = .returned (.slice (some ⟨w.heap.size, 0, none⟩) (n + 1) G) ∧
      w' = (((w.alloc (.cells ROW 114)).drew.setCells w.heap.size (i * 3) [v0, v1, v2]).drew).setCells w.heap.size ((i + 1) * 3) (cs.drop (i * 3)) := by
  have mixed : Tryz.prog.follows Departure.mixedOrders = true := by kernel_rfl
  obtain ⟨i0, hi0, hz0, hzs, hzb⟩ := info_parts sadInfo
  have hz2 : ¬ ((i : Int) = (n : Int)) := by omega
  have hz3 : (c : Int) < (n : Int) + 1 := by omega
  have hbw : b < w.heap.size := cell_lt (hcs 0 _ (List.getElem?_eq_getElem (by omega)))
  have hvw : vb < w.heap.size := cell_lt hv0
  have hkk : (n : Int) + 1 - (i : Int) = ((n + 1 - i : Nat) : Int) := by omega
  have hik : i + (n + 1 - i) = n + 1 := by omega
  have hold : (Builtin.firstCells i0.size i (.slice (some ⟨b, 0, none⟩) i c)).run Tryz.prog w.drew = .ok (cs.take (i * 3)).toArray w.drew := by
    rw [hzs]
    exact run_firstCells_some w.drew 3 i ⟨b, 0, none⟩ i c (cs.take (i * 3)) (by rw [List.length_take]; omega) (fun j v hj => by
      rw [Addr.add_lit, Nat.zero_add]
      rw [List.getElem?_take] at hj
      split at hj
      · exact hcs j v hj
      · cases hj)
  obtain ⟨G, hG⟩ : ∃ G, G = grownCap w (n + 1) c 114 := ⟨_, rfl⟩
  obtain ⟨ROW, hROW⟩ : ∃ ROW : Array Value, ROW = (cs.take (i * 3)).toArray ++ Builtin.zeroCells (Value.agg #[.int .i64 0, .int .i64 0, .string ByteArray.empty]).cells (n + 1 - i) ++ Builtin.zeroCells (Value.agg #[.int .i64 0, .int .i64 0, .string ByteArray.empty]).cells (G - (n + 1)) := ⟨_, rfl⟩
  have hrz : ∀ ty, (Builtin.append_ #[28, 3] ty #[.slice (some ⟨b, 0, none⟩) i c, .int .i64 ((n : Int) + 1 - (i : Int))]).run Tryz.prog w =
      .ok (.slice (some ⟨w.heap.size, 0, none⟩) (n + 1) G) (w.drew.alloc (.cells ROW 114)) := fun ty => by
    have h := Lib.run_append_grow_zeros w 28 3 ty 114 i0 _ .i64 .i64 Tryz.underlying28 Tryz.underlying3 hi0 hz0 (some ⟨b, 0, none⟩) i c (cs.take (i * 3)) hold (n + 1 - i) (by omega) (by omega) (by omega) (by omega) (by rw [hzb]; omega) (by rw [hzb, hik]; exact growslice_fits hroom hbig)
    rw [hik, ← hG, ← hROW] at h
    rw [hkk]
    exact h
  have hGn : n + 1 ≤ G := by rw [hG]; exact grownCap_ge w _ _ _
  have hGm : G ≤ maxLen := by rw [hG]; exact grownCap_le_maxLen w (n + 1) c 114 (by unfold maxLen; omega)
  have hG63 : G ≤ 9223372036854775807 := by unfold maxLen at hGm; omega
  have hRl : ROW.size = G * 3 := by
    rw [hROW, Array.size_append, Array.size_append, zeroE_size_sad, zeroE_size_sad]
    simp [hcl]
    omega
  have hRc : ∀ j, j < i * 3 → ROW[j]? = cs[j]? := fun j hj => by
    have hl : (cs.take (i * 3)).length = i * 3 := by rw [List.length_take]; omega
    rw [hROW, Array.getElem?_append, if_pos (by simp [hcl, zeroE_size_sad]; omega), Array.getElem?_append, if_pos (by simp [hcl]; omega)]
    simp [hj]
  obtain ⟨W1, hW1⟩ : ∃ W1, W1 = w.drew.alloc (.cells ROW 114) := ⟨_, rfl⟩
  rw [← hW1] at hrz
  have hN : ∀ j, j < (n + 1) * 3 → (W1.cell? ⟨w.heap.size, j, none⟩).isSome = true := fun j hj => by
    rw [hW1, World.cell?_alloc_at (w := w.drew) ROW _ w.heap.size j rfl, Array.getElem?_eq_getElem (by omega)]; rfl
  have hNf : ∀ j, W1.frozen? ⟨w.heap.size, j, none⟩ = false := fun j => by rw [hW1]; exact World.frozen?_alloc_at (w := w.drew) ROW _ w.heap.size j rfl
  have hOb : ∀ j v, w.cell? ⟨b, j, none⟩ = some v → W1.cell? ⟨b, j, none⟩ = some v := fun j v h => by rw [hW1, World.cell?_alloc_past (w := w.drew) _ b j hbw]; exact h
  have hOv : ∀ j v, w.cell? ⟨vb, j, none⟩ = some v → W1.cell? ⟨vb, j, none⟩ = some v := fun j v h => by rw [hW1, World.cell?_alloc_past (w := w.drew) _ vb j hvw]; exact h
  have hcpA : ∀ (W : World), (∀ x, W.cell? x = W1.cell? x) → (∀ x, W.frozen? x = W1.frozen? x) → ∀ ty dc, (Builtin.copy_ #[28, 28] ty #[.slice (some ⟨w.heap.size, i * 3, none⟩) (n + 1 - i) dc, .slice (some ⟨vb, 0, none⟩) 1 1]).run Tryz.prog W = .ok (goInt 1) (W.setCells w.heap.size (i * 3) [v0, v1, v2]) := fun W hWc hWf ty dc => by
    have hmin : Nat.min 1 (n + 1 - i) = 1 := by simp only [Nat.min_def]; split <;> omega
    have := run_copyN (P := Tryz.prog) W 28 28 ty 114 3 w.heap.size (i * 3) (n + 1 - i) dc ⟨vb, 0, none⟩ 1 1 [v0, v1, v2] Tryz.underlying28 infoSize_sad (by rw [hmin]; rfl)
      (fun j v hj => by
        rw [Addr.add_lit, hWc, Nat.zero_add]
        rcases j with _ | _ | _ | j
        · injection hj with hj; subst hj; exact hOv _ _ hv0
        · injection hj with hj; subst hj; exact hOv _ _ hv1
        · injection hj with hj; subst hj; exact hOv _ _ hv2
        · cases hj)
      (fun j hj => by rw [hWc]; exact hN _ (by simp at hj; omega)) (fun j hj => by rw [hWf]; exact hNf _) (fun v hv => by
        simp at hv; rcases hv with rfl | rfl | rfl
        · exact h10
        · exact h11
        · exact h12)
    rwa [hmin] at this
  have hGi : ¬ (G = i) := by omega
  have hGim : ¬ (G = i + 1) := by omega
  have hci : ¬ (c = i) := by omega
  have hbN : b ≠ w.heap.size := by omega
  have hdl : (cs.drop (i * 3)).length = (n - i) * 3 := by rw [List.length_drop, hcl]; omega
  have hcpB : ∀ (W : World), (∀ x, W.cell? x = (W1.setCells w.heap.size (i * 3) [v0, v1, v2]).cell? x) → (∀ x, W.frozen? x = (W1.setCells w.heap.size (i * 3) [v0, v1, v2]).frozen? x) → ∀ ty dc sc, (Builtin.copy_ #[28, 28] ty #[.slice (some ⟨w.heap.size, (i + 1) * 3, none⟩) (n - i) dc, .slice (some ⟨b, i * 3, none⟩) (n - i) sc]).run Tryz.prog W = .ok (goInt ((n - i : Nat) : Int)) (W.setCells w.heap.size ((i + 1) * 3) (cs.drop (i * 3))) := fun W hWc hWf ty dc sc => by
    have hmin : Nat.min (n - i) (n - i) = n - i := by simp only [Nat.min_def]; split <;> omega
    have := run_copyN (P := Tryz.prog) W 28 28 ty 114 3 w.heap.size ((i + 1) * 3) (n - i) dc ⟨b, i * 3, none⟩ (n - i) sc (cs.drop (i * 3)) Tryz.underlying28 infoSize_sad (by rw [hdl, hmin])
      (fun j v hj => by
        rw [Addr.add_lit, hWc, World.cell?_setCells_out _ _ _ _ _ (fun h _ => absurd h hbN)]
        exact hOb _ v (hcs (i * 3 + j) v (by rwa [List.getElem?_drop] at hj)))
      (fun j hj => by rw [hWc]; exact some_setCells _ _ _ _ (fun t ht => hN _ (by simp at ht; omega)) _ (hN _ (by omega)))
      (fun j hj => by rw [hWf, World.frozen?_setCells]; exact hNf _) (fun v hv => h1c v (List.mem_of_mem_drop hv))
    rwa [hmin] at this
  subst hW1
  have hE1 : ∀ x, ((w.alloc (.cells ROW 114)).drew).cell? x = (w.drew.alloc (.cells ROW 114)).cell? x := fun x => rfl
  have hE2 : ∀ x, ((w.alloc (.cells ROW 114)).drew).frozen? x = (w.drew.alloc (.cells ROW 114)).frozen? x := fun x => rfl
  have hF1 : ∀ x, (((w.alloc (.cells ROW 114)).drew.setCells w.heap.size (i * 3) [v0, v1, v2]).drew).cell? x = ((w.drew.alloc (.cells ROW 114)).setCells w.heap.size (i * 3) [v0, v1, v2]).cell? x := fun x => rfl
  have hF2 : ∀ x, (((w.alloc (.cells ROW 114)).drew.setCells w.heap.size (i * 3) [v0, v1, v2]).drew).frozen? x = ((w.drew.alloc (.cells ROW 114)).setCells w.heap.size (i * 3) [v0, v1, v2]).frozen? x := fun x => rfl
  have hw1 : IntKind.i64.wrap ((i : Int) + 1) = (i : Int) + 1 := by rw [IntKind.wrap_i64]; omega
  have hb1 : (0 : Int) ≤ (i : Int) + 1 := by omega
  have hin : i ≤ n := by omega
  have htn : ((i : Int) + 1).toNat = i + 1 := by omega
  have hb3 : (i : Int) ≤ (n : Int) := by omega
  clear hkk hik hold hROW hG hN hNf hOb hOv
  go_enter Tryz.func135, Tryz.ntmps135
  go_wp2_with (first
    | (at_builtin; refine Lib.wpList_append_run _ rfl _ _ _ _ rfl _ _ rfl rfl _ _ (hrz _) ?_)
    | (at_builtin; refine wpList_copyN _ rfl _ _ 28 28 rfl _ _ rfl rfl (hcpA _ hE1 hE2 _ _) ?_)
    | (at_builtin; refine wpList_copyN _ rfl _ _ 28 28 rfl _ _ rfl rfl (hcpB _ (fun _ => rfl) (fun _ => rfl) _ _ _) ?_))
  go_region_law_o (refine step_copyN rfl _ _ 28 28 rfl (.slice (some ⟨w.heap.size, (i + 1) * 3, none⟩) (n - i) (G - (i + 1))) (.slice (some ⟨b, i * 3, none⟩) (n - i) (c - i)) (by simp [Act.eval, Act.put]) (by simp [Act.eval, Act.put]) (hcpB _ hF1 hF2 3 (G - (i + 1)) (c - i)) ?_)
  go_wp2
  go_returns
  exact ⟨G, ROW, hGn, hGm, hRl, hRc, rfl, rfl⟩

set_option maxRecDepth 100000 in
/-- at the end: as an append -/
theorem ins_end_sad (lo vb n c : Nat) (A : Option Addr) (xs : List Value) (v0 v1 v2 : Value) (w : World) (hown : w.ownsRow lo 114 3 (.slice A n c) n xs) (hlo : lo ≤ w.heap.size) (hn : n ≤ 1048576)
    (hv0 : w.cell? ⟨vb, 0, none⟩ = some v0) (hv1 : w.cell? ⟨vb, 1, none⟩ = some v1) (hv2 : w.cell? ⟨vb, 2, none⟩ = some v2) (h10 : v0.oneCell' = true) (h11 : v1.oneCell' = true) (h12 : v2.oneCell' = true) :
    Calls Tryz.prog 135 #[.slice A n c, .int .i64 n, .slice (some ⟨vb, 0, none⟩) 1 1] w fun e w' =>
      ∃ A' c', e = .returned (.slice A' (n + 1) c') ∧ w'.ownsRow lo 114 3 (.slice A' (n + 1) c') (n + 1) (xs ++ [v0, v1, v2]) ∧ w.grownBy w' (Value.slice A n c).ownBlock ∧
      ((Value.slice A' (n + 1) c').ownBlock = (Value.slice A n c).ownBlock ∨ (Value.slice A' (n + 1) c').ownBlock = some w.heap.size) := by
  have mixed : Tryz.prog.follows Departure.mixedOrders = true := by kernel_rfl
  have hsrc : CellsAt w (some ⟨vb, 0, none⟩) 1 3 [v0, v1, v2] := by
    refine ⟨rfl, fun _ => ⟨vb, 0, rfl, fun j u hu => ?_⟩⟩
    rcases j with _ | _ | _ | j
    · injection hu with hu; subst hu; exact hv0
    · injection hu with hu; subst hu; exact hv1
    · injection hu with hu; subst hu; exact hv2
    · cases hu
  have hle := own_le hown
  have hle1 := hle.1
  have hle2 := hle.2
  rcases own_form hown with ⟨rfl, rfl, rfl, rfl⟩ | ⟨g, rfl, _, _⟩
  · go_enter Tryz.func135, Tryz.ntmps135
    go_wp2_with (at_builtin; refine wpList_app (P := Tryz.prog) w rfl _ _ 28 rfl lo 114 _ 3 32 Tryz.underlying28 sadInfo rfl (by omega) (.slice none 0 0) 0 [] rfl hown (some ⟨vb, 0, none⟩) 1 1 [v0, v1, v2] rfl hsrc (by simp [h10, h11, h12]) (fun h => by cases h) (by unfold maxLen; omega) (by omega) hlo ?_; intro A' c' w1 hown1 hg1 hb1 hob1)
    go_returns
    exact ⟨A', c', rfl, hown1, hg1, hob1⟩
  · go_enter Tryz.func135, Tryz.ntmps135
    go_wp2_with (at_builtin; refine wpList_app (P := Tryz.prog) w rfl _ _ 28 rfl lo 114 _ 3 32 Tryz.underlying28 sadInfo rfl (by omega) (.slice (some ⟨g, 0, none⟩) n c) n xs rfl hown (some ⟨vb, 0, none⟩) 1 1 [v0, v1, v2] rfl hsrc (by simp [h10, h11, h12]) (fun h => by cases h) (by unfold maxLen; omega) (by omega) hlo ?_; intro A' c' w1 hown1 hg1 hb1 hob1)
    all_goals (go_returns; exact ⟨A', c', rfl, hown1, hg1, hob1⟩)

/-- the cells with an element inserted -/
theorem ins_ext_sad {ys xs : List Value} {v0 v1 v2 : Value} {n i : Nat} (hi : i ≤ n) (hx : xs.length = n * 3) (hy : ys.length = (n + 1) * 3) (h0 : ∀ t, t < i * 3 → ys[t]? = xs[t]?) (h1 : ∀ j, j < 3 → ys[i * 3 + j]? = [v0, v1, v2][j]?)
    (h2 : ∀ j, j < (n - i) * 3 → ys[(i + 1) * 3 + j]? = (xs.drop (i * 3))[j]?) : ys = xs.take (i * 3) ++ [v0, v1, v2] ++ xs.drop (i * 3) := by
  have hl : (xs.take (i * 3)).length = i * 3 := by rw [List.length_take]; omega
  apply List.ext_getElem?
  intro t
  rw [List.append_assoc, List.getElem?_append, hl]
  by_cases c1 : t < i * 3
  · rw [if_pos c1, h0 t c1, List.getElem?_take_of_lt c1]
  · rw [if_neg c1]
    by_cases c2 : t < (i + 1) * 3
    · rw [List.getElem?_append, if_pos (by simp; omega), ← h1 (t - i * 3) (by omega), show i * 3 + (t - i * 3) = t by omega]
    · rw [List.getElem?_append, if_neg (by simp; omega)]
      by_cases c3 : t < (n + 1) * 3
      · rw [show t - i * 3 - [v0, v1, v2].length = t - (i + 1) * 3 by simp; omega, ← h2 (t - (i + 1) * 3) (by omega), show (i + 1) * 3 + (t - (i + 1) * 3) = t by omega]
      · rw [List.getElem?_eq_none (by omega), List.getElem?_eq_none (by simp; omega)]

theorem insert_own_sad (lo vb n c i : Nat) (A : Option Addr) (xs : List Value) (v0 v1 v2 : Value) (w : World) (hown : w.ownsRow lo 114 3 (.slice A n c) n xs) (hlo : lo ≤ w.heap.size) (hn : n ≤ 1048576) (hi : i ≤ n)
    (hvb : ∀ g, BlkOf A g → vb ≠ g) (hfv : ∀ j, w.frozen? ⟨vb, j, none⟩ = false) (hv0 : w.cell? ⟨vb, 0, none⟩ = some v0) (hv1 : w.cell? ⟨vb, 1, none⟩ = some v1) (hv2 : w.cell? ⟨vb, 2, none⟩ = some v2)
    (h1c : ∀ v ∈ xs, v.oneCell' = true) (h10 : v0.oneCell' = true) (h11 : v1.oneCell' = true) (h12 : v2.oneCell' = true) :
    Calls Tryz.prog 135 #[.slice A n c, .int .i64 i, .slice (some ⟨vb, 0, none⟩) 1 1] w fun e w' =>
      ∃ A' c', e = .returned (.slice A' (n + 1) c') ∧ w'.ownsRow lo 114 3 (.slice A' (n + 1) c') (n + 1) (xs.take (i * 3) ++ [v0, v1, v2] ++ xs.drop (i * 3)) ∧ Ch (fun k => (Value.slice A n c).ownBlock = some k) w w' ∧
      ((Value.slice A' (n + 1) c').ownBlock = (Value.slice A n c).ownBlock ∨ (Value.slice A' (n + 1) c').ownBlock = some w.heap.size) := by
  have hxl := hown.1
  by_cases hin : i = n
  · subst hin
    refine (ins_end_sad lo vb i c A xs v0 v1 v2 w hown hlo hn hv0 hv1 hv2 h10 h11 h12).mono ?_
    rintro e w' ⟨A', c', rfl, h1, h2, h3⟩
    refine ⟨A', c', rfl, ?_, Ch.of_grow h2, h3⟩
    rwa [List.take_of_length_le (by omega), List.drop_eq_nil_of_le (by omega), List.append_nil]
  · have hle := own_le hown
    obtain ⟨g, rfl, hlg, hgh⟩ : ∃ g, A = some ⟨g, 0, none⟩ ∧ lo ≤ g ∧ g < w.heap.size := by
      rcases own_form hown with ⟨_, h0, _⟩ | h
      · omega
      · exact h
    have hcell : ∀ j v, xs[j]? = some v → w.cell? ⟨g, j, none⟩ = some v := fun j v hj => by
      exact (hown.cellAt j (by have := (List.getElem?_eq_some_iff.1 hj).1; omega)).trans hj
    have hdl : (xs.drop (i * 3)).length = (n - i) * 3 := by rw [List.length_drop, hxl]; omega
    by_cases hroom : n + 1 ≤ c
    · obtain ⟨ys, hy, hyx⟩ := own_more hown (Nat.le_succ n) hroom
      refine (ins_shift_sad g n c i vb xs v0 v1 v2 w (by omega) hroom hle.2 (hvb g (by simp [BlkOf])) hxl hcell (fun j hj => ?_) (fun j => hown.frozenAt j) hv0 hv1 hv2 h1c h10 h11 h12 hfv).mono ?_
      · obtain ⟨u, hu⟩ := own_cell hy (j := j) (by omega)
        rw [hu]; rfl
      rintro e w' ⟨rfl, rfl⟩
      obtain ⟨y1, a1, a2, a3, a4⟩ := own_sets (xs.drop (i * 3)) ((i + 1) * 3) w.drew ys hy
      obtain ⟨y2, b1, b2, b3, b4⟩ := own_sets [v0, v1, v2] (i * 3) _ y1 a1
      have hE : y2 = xs.take (i * 3) ++ [v0, v1, v2] ++ xs.drop (i * 3) := by
        refine ins_ext_sad (by omega) hxl b1.1 (fun t ht => ?_) (fun j hj => ?_) (fun j hj => ?_)
        · rw [b2 t (.inl ht), a2 t (.inl (by omega)), hyx t (by omega)]
        · exact b3 j hj (by omega)
        · rw [b2 _ (.inr (by simp; omega)), a3 j (by omega) (by omega)]
      rw [hE] at b1
      refine ⟨_, _, rfl, b1, ?_, .inl rfl⟩
      have h0 : Ch (fun k => k = g) w w.drew := (Ch.refl w).drew
      exact ((h0.trans a4).trans b4).mono (fun k hk => by subst hk; rfl)
    · refine (ins_grow_sad g n c i vb xs v0 v1 v2 w (by omega) hle.1 (by omega) (by omega) hxl hcell hv0 hv1 hv2 h1c h10 h11 h12).mono ?_
      rintro e w' ⟨G, ROW, hG1, hG2, hR, hRc, rfl, rfl⟩
      have h0 : Ch (fun k => k = w.heap.size) w ((w.alloc (.cells ROW 114)).drew) := ((Ch.refl w).alloc _).drew
      have ho : ((w.alloc (.cells ROW 114)).drew).ownsRow lo 114 3 (.slice (some ⟨w.heap.size, 0, none⟩) (n + 1) G) (n + 1) (ROW.toList.take ((n + 1) * 3)) :=
        ⟨by simp [hR]; omega, .inr ⟨w.heap.size, G, ROW, rfl, hlo, by show (w.heap.push _)[w.heap.size]? = _; simp, hG1, hG2, hR, rfl⟩⟩
      obtain ⟨y1, a1, a2, a3, a4⟩ := own_sets [v0, v1, v2] (i * 3) _ _ ho
      have a1' : (((w.alloc (.cells ROW 114)).drew.setCells w.heap.size (i * 3) [v0, v1, v2]).drew).ownsRow lo 114 3 (.slice (some ⟨w.heap.size, 0, none⟩) (n + 1) G) (n + 1) y1 := a1
      obtain ⟨y2, b1, b2, b3, b4⟩ := own_sets (xs.drop (i * 3)) ((i + 1) * 3) _ y1 a1'
      have hE : y2 = xs.take (i * 3) ++ [v0, v1, v2] ++ xs.drop (i * 3) := by
        refine ins_ext_sad (by omega) hxl b1.1 (fun t ht => ?_) (fun j hj => ?_) (fun j hj => ?_)
        · rw [b2 t (.inl (by omega)), a2 t (.inl ht), List.getElem?_take_of_lt (by omega), Array.getElem?_toList, hRc t ht]
        · rw [b2 _ (.inl (by omega)), a3 j hj (by omega)]
        · rw [b3 j (by omega) (by omega)]
      rw [hE] at b1
      refine ⟨_, _, rfl, b1, ?_, .inr rfl⟩
      have hC := ((h0.trans a4).drew).trans b4
      exact ⟨hC.os, hC.tape, hC.output, hC.size, fun k hk _ => hC.block k hk (by omega)⟩
end Go.Proofs.YtdphdnllhmnelaaGreat
/- Rows of what was said, of the call's own: one put in, one changed, one behind the others. -/
namespace Go.Proofs.YtdphdnllhmnelaaGreat
open Go.RowKit
theorem saiO_ins (y : Sai) (vb : Nat) (l : List Sai) (A : Option Addr) (n c i : Nat) (fp : List Nat) (w : World) (h : RowO saiF 114 3 fp w A n c l) (hN : fp.Nodup) (hn : n ≤ 1000) (hi : i ≤ n) (hvb : vb ∉ fp) (B : BoxL w vb [.int .i64 y.cl, .int .i64 y.no, .string y.tx])
    (hfv : ∀ j, w.frozen? ⟨vb, j, none⟩ = false) :
    Calls Tryz.prog 135 #[.slice A n c, .int .i64 i, .slice (some ⟨vb, 0, none⟩) 1 1] w fun e w' => ∃ A' c' fp', e = .returned (.slice A' (n + 1) c') ∧ RowO saiF 114 3 fp' w' A' (n + 1) c' (l.take i ++ y :: l.drop i) ∧ fp'.Nodup ∧
      (∀ t ∈ fp', t ∈ fp ∨ w.heap.size ≤ t) ∧ Ch (fun t => t ∈ fp) w w' := by
  obtain ⟨css, fps, rfl, own, hl, E⟩ := h.ex
  refine (insert_own_sad 0 vb n c i A css.flatten _ _ _ w own (Nat.zero_le _) (by omega) hi (fun g hg e => hvb (by rw [e]; exact List.mem_append_left _ (mem_blkL.2 hg))) hfv (B.cell 0 _ rfl) (B.cell 1 _ rfl) (B.cell 2 _ rfl) (E.ones saiK) rfl rfl rfl).mono ?_
  rintro e w4 ⟨A', c', rfl, own4, hch4, hob4⟩
  obtain ⟨fp', R4, N4, F4, C4⟩ := row_ins1 (x := y) saiK hi hl E (show saiF [] w4 [.int .i64 y.cl, .int .i64 y.no, .string y.tx] y from ⟨rfl, rfl⟩) hN own4 hch4 hob4 (Nat.le_refl _)
  exact ⟨A', c', fp', rfl, R4, N4, fun t ht => by rcases F4 t ht with h | h; (exact .inl h); (exact .inr (by omega)), C4.mono (fun t ht => List.mem_append_left _ ht)⟩
theorem saiO_set (y : Sai) {l : List Sai} {qb n c k : Nat} {fp : List Nat} {w : World} (h : RowO saiF 114 3 fp w (some ⟨qb, 0, none⟩) n c l) (hN : fp.Nodup) (hk : k < n) :
    ∃ fp', RowO saiF 114 3 fp' (w.setCells qb (k * 3) [.int .i64 y.cl, .int .i64 y.no, .string y.tx]) (some ⟨qb, 0, none⟩) n c (l.set k y) ∧ fp'.Nodup ∧ (∀ t ∈ fp', t ∈ fp) ∧ Ch (fun b => b = qb) w (w.setCells qb (k * 3) [.int .i64 y.cl, .int .i64 y.no, .string y.tx]) ∧ qb ∈ fp ∧ w.there qb (k * 3) 3 := by
  obtain ⟨css, fps, rfl, own, hl, E⟩ := h.ex
  obtain ⟨x, hx⟩ : ∃ x, l[k]? = some x := ⟨_, List.getElem?_eq_getElem (by omega)⟩
  obtain ⟨d1, d2, f1, f2, cs, f, rfl, rfl, E1, hF, E2⟩ := els_cut E hx
  obtain ⟨rfl, rfl⟩ := hF
  have hlen : (l.take k).length = k := by rw [List.length_take]; omega
  have own2 : w.ownsRow 0 114 3 (.slice (some ⟨qb, 0, none⟩) n c) n (d1.flatten ++ (saiL x ++ d2.flatten)) := by simpa using own
  have hd1 : d1.flatten.length = k * 3 := by rw [E1.flat saiK, hlen]
  have hsw : w.setCells qb (k * 3) [.int .i64 y.cl, .int .i64 y.no, .string y.tx] = setsW w qb ((l.take k).length * 3) [.int .i64 y.cl, .int .i64 y.no, .string y.tx] := by rw [hlen]; rfl
  obtain ⟨hR, hN', hC⟩ := upd_els (f := []) (f' := []) (x' := y) (cs' := [.int .i64 y.cl, .int .i64 y.no, .string y.tx]) saiK own2 E1 E2 rfl (by rw [hlen, List.length_drop]; omega) (by simpa [blkL] using hN) (Ch.refl w) (show saiF [] w _ y from ⟨rfl, rfl⟩) (fun b hb => by cases hb) List.nodup_nil hsw
  rw [← set_split hx] at hR
  refine ⟨_, hR, by simpa [blkL] using hN', fun t ht => by simpa [blkL] using ht, hC.mono (fun b hb => by rcases hb with h | h; (exact h); (cases h)), by simp [blkL], fun j hj => ⟨?_, own.frozenAt _⟩⟩
  have hxl : (saiL x).length = 3 := rfl
  have := own_mid (r := j) own2 hd1 (List.getElem?_eq_getElem (by omega))
  rw [this]; rfl
theorem saiO_app (y : Sai) {l : List Sai} {A A' : Option Addr} {n c c' m : Nat} {fp : List Nat} {css : List (List Value)} {fps : List (List Nat)} {w w' : World} (hfp : fp = blkL A ++ fps.flatten) (hl : n = l.length) (E : Els saiF w css fps l) (hN : fp.Nodup)
    (own' : w'.ownsRow 0 114 3 (.slice A' (n + 1) c') (n + 1) (css.flatten ++ [.int .i64 y.cl, .int .i64 y.no, .string y.tx])) (hg : w.grownBy w' (Value.slice A n c).ownBlock)
    (hob : (Value.slice A' (n + 1) c').ownBlock = (Value.slice A n c).ownBlock ∨ (Value.slice A' (n + 1) c').ownBlock = some m) (hm : w.heap.size ≤ m) :
    ∃ fp', RowO saiF 114 3 fp' w' A' (n + 1) c' (l ++ [y]) ∧ fp'.Nodup ∧ (∀ b ∈ fp', b ∈ fp ∨ w.heap.size ≤ b) ∧ Ch (fun b => b ∈ fp) w w' := by
  subst hfp
  obtain ⟨fp', h1, h2, h3, h4⟩ := row_app1 (x := y) (f := []) saiK hl E (show saiF [] w [.int .i64 y.cl, .int .i64 y.no, .string y.tx] y from ⟨rfl, rfl⟩) (by simpa using hN) own' hg hob hm
  exact ⟨fp', h1, h2, fun b hb => by rcases h3 b hb with h | h | h; (exact .inl h); (cases h); (exact .inr (by omega)), h4.mono (fun b hb => List.mem_append_left _ hb)⟩
end Go.Proofs.YtdphdnllhmnelaaGreat
