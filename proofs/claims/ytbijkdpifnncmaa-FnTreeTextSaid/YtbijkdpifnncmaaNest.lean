/- Rows whose elements lead to further rows, all of the call's own. -/
import Derived.Test.YtbijkdpifnncmaaRow
namespace Go.Proofs.Ytbijkdpifnncmaa
open Go.RowKit

/-- the blocks that cells lead to -/
def Leads (cs : List Value) (b : Nat) : Prop := ∃ v ∈ cs, v.ownBlock = some b
def Apart (cs cs' : List Value) : Prop := ∀ b, Leads cs b → ¬ Leads cs' b
theorem Apart.symm {cs cs' : List Value} (h : Apart cs cs') : Apart cs' cs := fun b h1 h2 => h b h2 h1
theorem blk_own {A : Option Addr} {n c b : Nat} (h : BlkOf A b) : (Value.slice A n c).ownBlock = some b := by
  rcases A with _ | a
  · exact h.no.elim
  · simpa [Value.ownBlock, BlkOf] using h

/-- how an element lies in cells of its own and in what they lead to -/
structure Elem {α : Type} (F : Nat → Nat → World → List Value → α → Prop) (sz : Nat) : Prop where
  len : ∀ {lo hi w cs x}, F lo hi w cs x → cs.length = sz
  leads : ∀ {lo hi w cs x b}, F lo hi w cs x → Leads cs b → Iv lo hi b ∧ b < w.heap.size
  ch : ∀ {lo hi w w' cs x} {S : Nat → Prop}, F lo hi w cs x → Ch S w w' → (∀ b, Leads cs b → ¬ S b) → F lo hi w' cs x
  wide : ∀ {lo hi lo' hi' w cs x}, F lo hi w cs x → lo' ≤ lo → hi ≤ hi' → F lo' hi' w cs x

structure SubsIn {α : Type} (F : Nat → Nat → World → List Value → α → Prop) (lo hi : Nat) (w : World) (css : List (List Value)) (l : List α) : Prop where
  len : css.length = l.length
  el : ∀ (i : Nat) (cs : List Value) (x : α), css[i]? = some cs → l[i]? = some x → F lo hi w cs x
  apart : css.Pairwise Apart
section
variable {α : Type} {F : Nat → Nat → World → List Value → α → Prop} {sz lo hi lo' hi' : Nat} {w w' : World} {css : List (List Value)} {l : List α}
theorem SubsIn.nil : SubsIn F lo hi w [] ([] : List α) := ⟨rfl, fun i cs x h => by simp at h, List.Pairwise.nil⟩
theorem SubsIn.ex (h : SubsIn F lo hi w css l) {i : Nat} {cs : List Value} (hc : css[i]? = some cs) : ∃ x, l[i]? = some x ∧ F lo hi w cs x := by
  have hi : i < css.length := (List.getElem?_eq_some_iff.1 hc).1
  have hl : i < l.length := by rw [← h.len]; exact hi
  exact ⟨l[i], List.getElem?_eq_getElem hl, h.el i cs _ hc (List.getElem?_eq_getElem hl)⟩
theorem SubsIn.mem (h : SubsIn F lo hi w css l) {cs : List Value} (hc : cs ∈ css) : ∃ x, F lo hi w cs x := by
  obtain ⟨i, hi⟩ := List.mem_iff_getElem?.1 hc
  obtain ⟨x, _, hx⟩ := h.ex hi
  exact ⟨x, hx⟩
theorem SubsIn.leads (E : Elem F sz) (h : SubsIn F lo hi w css l) {cs : List Value} (hc : cs ∈ css) {b : Nat} (hb : Leads cs b) : Iv lo hi b ∧ b < w.heap.size := by
  obtain ⟨x, hx⟩ := h.mem hc
  exact E.leads hx hb
theorem SubsIn.lens (E : Elem F sz) (h : SubsIn F lo hi w css l) : ∀ cs ∈ css, cs.length = sz := fun cs hc => by
  obtain ⟨x, hx⟩ := h.mem hc
  exact E.len hx
theorem SubsIn.ch (E : Elem F sz) {S : Nat → Prop} (h : SubsIn F lo hi w css l) (hc : Ch S w w') (hS : ∀ cs ∈ css, ∀ b, Leads cs b → ¬ S b) : SubsIn F lo hi w' css l :=
  ⟨h.len, fun i cs x h1 h2 => E.ch (h.el i cs x h1 h2) hc (hS cs (List.mem_of_getElem? h1)), h.apart⟩
theorem SubsIn.chi (E : Elem F sz) {S : Nat → Prop} (h : SubsIn F lo hi w css l) (hc : Ch S w w') (hS : ∀ k, Iv lo hi k → ¬ S k) : SubsIn F lo hi w' css l :=
  h.ch E hc (fun _ hm b hb => hS b (h.leads E hm hb).1)
theorem SubsIn.keep (E : Elem F sz) (h : SubsIn F lo hi w css l) (hb : Below w.heap.size w w') : SubsIn F lo hi w' css l :=
  h.chi E (S := fun _ => False) (Ch.of_below hb) (fun _ _ h => h)
theorem SubsIn.wide (E : Elem F sz) (h : SubsIn F lo hi w css l) (h1 : lo' ≤ lo) (h2 : hi ≤ hi') : SubsIn F lo' hi' w css l :=
  ⟨h.len, fun i cs x a b => E.wide (h.el i cs x a b) h1 h2, h.apart⟩
theorem SubsIn.snoc (E : Elem F sz) {cs : List Value} {x : α} (h : SubsIn F lo hi w css l) (hx : F lo hi w cs x) (hn : ∀ cs' ∈ css, Apart cs' cs) : SubsIn F lo hi w (css ++ [cs]) (l ++ [x]) := by
  refine ⟨by simp [h.len], fun i cs' x' h1 h2 => ?_, ?_⟩
  · have hl := h.len
    rcases Nat.lt_or_ge i css.length with hi | hi
    · rw [List.getElem?_append_left hi] at h1
      rw [List.getElem?_append_left (by omega)] at h2
      exact h.el i cs' x' h1 h2
    · rw [List.getElem?_append_right hi] at h1
      rw [List.getElem?_append_right (by omega)] at h2
      have h0 : i - css.length = 0 := by
        rcases Nat.eq_zero_or_pos (i - css.length) with h | h
        · exact h
        · rw [List.getElem?_eq_none (by simp; omega)] at h1; cases h1
      rw [h0] at h1
      rw [show i - l.length = 0 by omega] at h2
      simp at h1 h2
      subst h1 h2
      exact hx
  · rw [List.pairwise_append]
    exact ⟨h.apart, List.pairwise_singleton _ _, fun a ha b hb => by simp at hb; subst hb; exact hn a ha⟩
/-- new cells lead to new blocks -/
theorem SubsIn.snoc_new (E : Elem F sz) {cs : List Value} {x : α} {m : Nat} (h : SubsIn F lo hi w css l) (hx : F lo hi w cs x) (hm : ∀ cs' ∈ css, ∀ b, Leads cs' b → b < m) (hn : ∀ b, Leads cs b → m ≤ b) : SubsIn F lo hi w (css ++ [cs]) (l ++ [x]) :=
  h.snoc E hx (fun cs' h' b h1 h2 => by have := hm cs' h' b h1; have := hn b h2; omega)
/-- one element is changed -/
theorem SubsIn.set (E : Elem F sz) {S : Nat → Prop} {i : Nat} {cs cs' : List Value} {x : α} (h : SubsIn F lo hi w css l) (hci0 : css[i]? = some cs) (hc : Ch S w w') (hS : ∀ b, S b → Leads cs b ∨ ∀ cs'' ∈ css, ¬ Leads cs'' b)
    (hx : F lo hi w' cs' x) (hl : ∀ b, Leads cs' b → Leads cs b) : SubsIn F lo hi w' (css.set i cs') (l.set i x) := by
  have hlt : i < css.length := (List.getElem?_eq_some_iff.1 hci0).1
  have hci : css[i] = cs := (List.getElem?_eq_some_iff.1 hci0).2
  refine ⟨by simp [h.len], fun j d y h1 h2 => ?_, ?_⟩
  · rw [List.getElem?_set] at h1 h2
    by_cases e : i = j
    · subst e
      rw [if_pos rfl, if_pos hlt] at h1
      rw [if_pos rfl, if_pos (by rw [← h.len]; exact hlt)] at h2
      injection h1 with h1; injection h2 with h2
      subst h1 h2
      exact hx
    · rw [if_neg e] at h1 h2
      refine E.ch (h.el j d y h1 h2) hc (fun b hb hs => ?_)
      rcases hS b hs with h' | h'
      · have hj : j < css.length := (List.getElem?_eq_some_iff.1 h1).1
        have hd : css[j] = d := (List.getElem?_eq_some_iff.1 h1).2
        have hp := List.pairwise_iff_getElem.1 h.apart
        rcases Nat.lt_or_gt_of_ne e with h3 | h3
        · have := hp i j hlt hj h3; rw [hci, hd] at this; exact this b h' hb
        · have := hp j i hj hlt h3; rw [hci, hd] at this; exact this b hb h'
      · exact h' d (List.mem_of_getElem? h1) hb
  · refine List.pairwise_iff_getElem.2 fun a b ha hb hab => ?_
    have hp := List.pairwise_iff_getElem.1 h.apart
    simp at ha hb
    have hab' := hp a b ha hb hab
    rw [List.getElem_set, List.getElem_set]
    by_cases e1 : i = a
    · subst e1
      rw [if_pos rfl, if_neg (by omega)]
      intro z h1 h2
      rw [hci] at hab'
      exact hab' z (hl z h1) h2
    · rw [if_neg e1]
      by_cases e2 : i = b
      · subst e2
        rw [if_pos rfl]
        intro z h1 h2
        rw [hci] at hab'
        exact hab' z h1 (hl z h2)
      · rw [if_neg e2]; exact hab'
end

/-! ### the flat list of cells -/
theorem flat_len {css : List (List Value)} {sz : Nat} (h : ∀ cs ∈ css, cs.length = sz) : css.flatten.length = css.length * sz := by
  induction css with
  | nil => simp
  | cons a l ih =>
    rw [List.flatten_cons, List.length_append, ih (fun cs hc => h cs (List.mem_cons_of_mem _ hc)), h a (List.mem_cons_self ..), List.length_cons, Nat.add_mul, Nat.one_mul, Nat.add_comm]
theorem flat_get {css : List (List Value)} {sz : Nat} (h : ∀ cs ∈ css, cs.length = sz) : ∀ {i : Nat} {cs : List Value}, css[i]? = some cs → ∀ {j : Nat}, j < sz → css.flatten[i * sz + j]? = cs[j]? := by
  induction css with
  | nil => intro i cs hc; simp at hc
  | cons a l ih =>
    intro i cs hc j hj
    have ha := h a (List.mem_cons_self ..)
    rw [List.flatten_cons]
    rcases i with _ | i
    · simp at hc
      subst hc
      rw [Nat.zero_mul, Nat.zero_add, List.getElem?_append_left (by omega)]
    · have hc' : l[i]? = some cs := by simpa using hc
      rw [List.getElem?_append_right (by rw [ha, Nat.add_mul]; omega), show (i + 1) * sz + j - a.length = i * sz + j by rw [ha, Nat.add_mul]; omega]
      exact ih (fun cs hc => h cs (List.mem_cons_of_mem _ hc)) hc' hj
theorem flat_snoc (css : List (List Value)) (cs : List Value) : (css ++ [cs]).flatten = css.flatten ++ cs := by simp

/-- cells set within element q -/
theorem flat_set {css : List (List Value)} {sz q r : Nat} {cs : List Value} {v : Value} (h : ∀ cs ∈ css, cs.length = sz) (hq : css[q]? = some cs) (hr : r < sz) : (css.set q (cs.set r v)).flatten = css.flatten.set (q * sz + r) v := by
  have hql : q < css.length := (List.getElem?_eq_some_iff.1 hq).1
  have hcl : cs.length = sz := h cs (List.mem_of_getElem? hq)
  have h' : ∀ d ∈ css.set q (cs.set r v), d.length = sz := fun d hd => by
    rcases List.mem_or_eq_of_mem_set hd with hd | rfl
    · exact h d hd
    · simpa using hcl
  have l1 := flat_len h
  have l2 := flat_len h'
  rw [List.length_set] at l2
  apply List.ext_getElem?
  intro j
  rcases Nat.lt_or_ge j (css.length * sz) with hj | hj
  · have hi : j / sz < css.length := Nat.div_lt_of_lt_mul (by rwa [Nat.mul_comm])
    have hm : j % sz < sz := Nat.mod_lt _ (by omega)
    have hjd : j = j / sz * sz + j % sz := (Nat.div_add_mod' j sz).symm
    generalize j / sz = i at *
    generalize j % sz = m at *
    subst hjd
    rw [List.getElem?_set, l1]
    by_cases e : q = i
    · subst e
      rw [flat_get h' (i := q) (cs := cs.set r v) (by simp [hql]) hm, List.getElem?_set, hcl]
      by_cases e2 : r = m
      · subst e2; simp [hm, hj]
      · rw [if_neg e2, if_neg (by omega)]; exact (flat_get h hq hm).symm
    · have hne : q * sz + r ≠ i * sz + m := by
        intro h2
        have a1 : (q * sz + r) / sz = q := by rw [Nat.add_comm, Nat.add_mul_div_right _ _ (by omega), Nat.div_eq_of_lt hr]; omega
        have a2 : (i * sz + m) / sz = i := by rw [Nat.add_comm, Nat.add_mul_div_right _ _ (by omega), Nat.div_eq_of_lt hm]; omega
        rw [h2, a2] at a1
        exact e a1.symm
      rw [if_neg hne]
      have hci : css[i]? = some css[i] := List.getElem?_eq_getElem hi
      rw [flat_get h hci hm, flat_get h' (i := i) (cs := css[i]) (by rw [List.getElem?_set, if_neg e]; exact hci) hm]
  · rw [List.getElem?_eq_none (by omega), List.getElem?_eq_none (by rw [List.length_set, l1]; exact hj)]
/-- a row of elements of sz cells each, in blocks of [lo, hi), and what they lead to there too -/
structure RowsIn {α : Type} (F : Nat → Nat → World → List Value → α → Prop) (e sz lo hi : Nat) (w : World) (A : Option Addr) (n c : Nat) (l : List α) (css : List (List Value)) : Prop where
  row : RowIn e sz lo hi w A n c css.flatten
  subs : SubsIn F lo hi w css l
  off : ∀ cs ∈ css, ∀ b, Leads cs b → ¬ BlkOf A b
  nl : n = l.length
section
variable {α : Type} {F : Nat → Nat → World → List Value → α → Prop} {e sz lo hi lo' hi' n c : Nat} {w w' : World} {A : Option Addr} {css : List (List Value)} {l : List α}
theorem RowsIn.ch (E : Elem F sz) {S : Nat → Prop} (h : RowsIn F e sz lo hi w A n c l css) (hc : Ch S w w') (hS : ∀ k, Iv lo hi k → ¬ S k) : RowsIn F e sz lo hi w' A n c l css :=
  ⟨h.row.ch hc hS, h.subs.chi E hc hS, h.off, h.nl⟩
theorem RowsIn.keep (E : Elem F sz) (h : RowsIn F e sz lo hi w A n c l css) (hb : Below w.heap.size w w') : RowsIn F e sz lo hi w' A n c l css :=
  h.ch E (S := fun _ => False) (Ch.of_below hb) (fun _ _ h => h)
theorem RowsIn.wide (E : Elem F sz) (h : RowsIn F e sz lo hi w A n c l css) (h1 : lo' ≤ lo) (h2 : hi ≤ hi') : RowsIn F e sz lo' hi' w A n c l css :=
  ⟨h.row.wide h1 h2, h.subs.wide E h1 h2, h.off, h.nl⟩
theorem RowsIn.nil : RowsIn F e sz lo hi w none 0 0 ([] : List α) [] := ⟨RowIn.nil, SubsIn.nil, fun _ h => by simp at h, rfl⟩
/-- element i: its cells in memory -/
theorem RowsIn.elem (E : Elem F sz) (h : RowsIn F e sz lo hi w A n c l css) {i : Nat} (hi' : i < n) : ∃ g cs x, A = some ⟨g, 0, none⟩ ∧ css[i]? = some cs ∧ l[i]? = some x ∧ F lo hi w cs x ∧ ∀ j u, cs[j]? = some u → w.cell? ⟨g, i * sz + j, none⟩ = some u := by
  obtain ⟨g, rfl⟩ := h.row.head (by omega)
  have hl := h.subs.len
  have hn := h.nl
  have hci : css[i]? = some css[i] := List.getElem?_eq_getElem (by omega)
  have hxi : l[i]? = some l[i] := List.getElem?_eq_getElem (by omega)
  have hF := h.subs.el i _ _ hci hxi
  refine ⟨g, _, _, rfl, hci, hxi, hF, fun j u hu => ?_⟩
  have hj : j < sz := by rw [← E.len hF]; exact (List.getElem?_eq_some_iff.1 hu).1
  have hc := h.row.own.cells (g := g) rfl (i * sz + j) u (by rw [flat_get (h.subs.lens E) hci hj]; exact hu)
  rw [Addr.add_lit] at hc
  simpa using hc
end
end Go.Proofs.Ytbijkdpifnncmaa
