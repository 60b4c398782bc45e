/- slices.DeleteFunc on rows of entries of the call's own, by a test on the path. -/
import Derived.Test.YtbijkdpifnncmaaCopyEnts
import Derived.Laws.IdiomCopy
import Derived.Lib.SliceRun
namespace Go.Proofs.Ytbijkdpifnncmaa
open Go.RowKit
attribute [local irreducible] StrsAt

/-! ### what is kept -/
def keptC {α : Type} (p : α → Bool) : List (List Value) → List α → List (List Value)
  | cs :: css, x :: l => if p x then keptC p css l else cs :: keptC p css l
  | _, _ => []
theorem keptC_snoc {α : Type} (p : α → Bool) (css : List (List Value)) (l : List α) (cs : List Value) (x : α) (h : css.length = l.length) :
    keptC p (css ++ [cs]) (l ++ [x]) = keptC p css l ++ (if p x then [] else [cs]) := by
  induction css generalizing l with
  | nil =>
    cases l with
    | nil => simp [keptC]
    | cons _ _ => simp at h
  | cons c css ih =>
    cases l with
    | nil => simp at h
    | cons y l =>
      simp only [List.cons_append, keptC]
      rw [ih l (by simpa using h)]
      split <;> simp
theorem keptC_len {α : Type} (p : α → Bool) (css : List (List Value)) (l : List α) (h : css.length = l.length) : (keptC p css l).length = (l.filter (fun x => !p x)).length := by
  induction css generalizing l with
  | nil =>
    cases l with
    | nil => simp [keptC]
    | cons _ _ => simp at h
  | cons c css ih =>
    cases l with
    | nil => simp at h
    | cons y l =>
      have := ih l (by simpa using h)
      rw [List.filter_cons]
      cases hp : p y <;> simp [keptC, hp, this]
theorem keptC_sub {α : Type} (p : α → Bool) (css : List (List Value)) (l : List α) : (keptC p css l).Sublist css := by
  induction css generalizing l with
  | nil => cases l <;> simp [keptC]
  | cons c css ih =>
    cases l with
    | nil => simp [keptC]
    | cons y l =>
      rw [keptC]
      split
      · exact (ih l).cons _
      · exact (ih l).cons_cons _
theorem keptC_pair {α : Type} (p : α → Bool) {R : List Value → α → Prop} (css : List (List Value)) (l : List α) (hR : ∀ (i : Nat) (cs : List Value) (x : α), css[i]? = some cs → l[i]? = some x → R cs x) :
    ∀ (i : Nat) (cs : List Value) (x : α), (keptC p css l)[i]? = some cs → (l.filter (fun x => !p x))[i]? = some x → R cs x := by
  induction css generalizing l with
  | nil => intro i cs x h; cases l <;> simp [keptC] at h
  | cons c css ih =>
    cases l with
    | nil => intro i cs x h; simp [keptC] at h
    | cons y l =>
      have ih' := ih l (fun i cs x h1 h2 => hR (i + 1) cs x (by simpa using h1) (by simpa using h2))
      intro i cs x h1 h2
      cases hp : p y with
      | true =>
        rw [keptC, if_pos hp] at h1
        rw [List.filter_cons, if_neg (by simp [hp])] at h2
        exact ih' i cs x h1 h2
      | false =>
        rw [keptC, if_neg (by simp [hp])] at h1
        rw [List.filter_cons, if_pos (by simp [hp])] at h2
        cases i with
        | zero => exact hR 0 cs x (by simpa using h1) (by simpa using h2)
        | succ i => exact ih' i cs x (by simpa using h1) (by simpa using h2)
theorem SubsIn.filter {α : Type} {F : Nat → Nat → World → List Value → α → Prop} {lo hi : Nat} {w : World} {css : List (List Value)} {l : List α} (h : SubsIn F lo hi w css l) (p : α → Bool) :
    SubsIn F lo hi w (keptC p css l) (l.filter (fun x => !p x)) :=
  ⟨keptC_len p css l h.len, keptC_pair p css l h.el, h.apart.sublist (keptC_sub p css l)⟩

/-! ### a row that is cut -/
theorem own_cut {w : World} {base e sz n c g i : Nat} {xs : List Value} (h : w.ownsRow base e sz (.slice (some ⟨g, 0, none⟩) n c) n xs) (hi : i ≤ n) : w.ownsRow base e sz (.slice (some ⟨g, 0, none⟩) i c) i (xs.take (i * sz)) := by
  have hle : i * sz ≤ n * sz := Nat.mul_le_mul_right _ hi
  obtain ⟨hl, h2⟩ := h
  rcases h2 with ⟨hv, _⟩ | ⟨g', cap, cur, hv, hb, hg, hn, hm, hs, ht⟩
  · cases hv
  · injection hv with e1 e2 e3
    injection e1 with e1
    injection e1 with e1 _ _
    subst e1 e3
    refine ⟨by rw [List.length_take, hl]; omega, .inr ⟨g, c, cur, rfl, hb, hg, by omega, hm, hs, ?_⟩⟩
    rw [← ht, List.take_take, Nat.min_eq_left hle]
theorem own_clear {base e sz n c g : Nat} (zs : List Value) : ∀ (o : Nat) (w : World) (xs : List Value), w.ownsRow base e sz (.slice (some ⟨g, 0, none⟩) n c) n xs →
    ∃ ys, (w.setCells g o zs).ownsRow base e sz (.slice (some ⟨g, 0, none⟩) n c) n ys ∧ (∀ t, t < o → ys[t]? = xs[t]?) ∧ Ch (fun k => k = g) w (w.setCells g o zs) := by
  induction zs with
  | nil => intro o w xs h; exact ⟨xs, h, fun _ _ => rfl, Ch.refl _⟩
  | cons z zs ih =>
    intro o w xs h
    obtain ⟨ys, h1, h2, h3⟩ := ih (o + 1) (w.setCell ⟨g, o, none⟩ z) (xs.set o z) (h.stored o z).1
    refine ⟨ys, h1, fun t ht => ?_, ((Ch.refl (S := fun k => k = g) w).setCell (p := ⟨g, o, none⟩) rfl z).trans h3⟩
    rw [h2 t (by omega), List.getElem?_set, if_neg (by omega)]
theorem run_clear2 {P : Program} (w : World) (t e : TypeId) (z : Value) (ht : P.underlying t = some (.slice e)) (hv : ∀ w, (zeroValue e).run P w = .ok z w) (h1 : ∀ v ∈ z.cells, v.oneCell' = true) (b o n c : Nat)
    (hc : ∀ j, j < n * z.cells.size → (w.cell? ⟨b, o + j, none⟩).isSome = true) (hf : ∀ j, j < n * z.cells.size → w.frozen? ⟨b, o + j, none⟩ = false) :
    ∃ zs, ∀ ty, (Builtin.clear_ #[t] ty #[.slice (some ⟨b, o, none⟩) n c]).run P w = .ok (.tuple #[]) (w.setCells b o zs) := by
  rcases Nat.eq_zero_or_pos n with rfl | hn
  · exact ⟨[], fun ty => by simp [Builtin.clear_, run_underlying ht, World.setCells]⟩
  · refine ⟨(Builtin.zeroCells z.cells n).toList, fun ty => ?_⟩
    have hlen : (Builtin.zeroCells z.cells n).toList.length = n * z.cells.size := by simp [Builtin.zeroCells]
    have hst := run_storeCells_cells (P := P) b o (Builtin.zeroCells z.cells n).toList 0 w (by rw [hlen]; simpa using hc) (by rw [hlen]; simpa using hf) (by
      intro v hv'
      simp only [Builtin.zeroCells, Array.toList_map, List.mem_map] at hv'
      obtain ⟨i, hi, rfl⟩ := hv'
      have hsz : 0 < z.cells.size := by
        rcases Nat.eq_zero_or_pos z.cells.size with h0 | h0
        · rw [h0] at hi; simp at hi
        · exact h0
      rw [getElem!_pos z.cells _ (Nat.mod_lt _ hsz)]
      exact h1 _ (Array.getElem_mem _))
    simp only [Nat.add_zero] at hst
    obtain ⟨m, rfl⟩ : ∃ m, n = m + 1 := ⟨n - 1, by omega⟩
    simp [Builtin.clear_, run_underlying ht, hv, hst]

/-! ### the walk -/
theorem zeroEntry (w : World) : (zeroValue 33).run Try.prog w = .ok (.agg #[.string ByteArray.empty, .slice none 0 0]) w := by
  first | (unfold zeroValue; kernel_rfl) | kernel_rfl | rfl | simp [zeroValue, infoEntry]
theorem zeroEntry1 : ∀ v ∈ (Value.agg #[.string ByteArray.empty, .slice none 0 0]).cells, v.oneCell' = true := by
  intro v hv
  simp [Value.cells] at hv
  rcases hv with rfl | rfl <;> rfl
/-- a test on an entry's path by a function value with one captured text -/
def TestFn (F : FuncId) (B : Nat) (q : ByteArray) (p : ByteArray → Bool) : Prop :=
  ∀ (x : ByteArray) (A : Option Addr) (n c : Nat) (w : World), x.size ≤ 1048576 → w.cell? ⟨B, 0, none⟩ = some (.string q) →
    Calls Try.prog F #[.agg #[.string x, .slice A n c], .pointer (some ⟨B, 0, none⟩)] w fun e w' => e = .returned (.bool (p x)) ∧ Below w.heap.size w w'
/-- the first place where a test holds, or -1 -/
def FirstAt (p : ByteArray → Bool) (l : List Ent) (n : Nat) (i : Int) : Prop :=
  (i = -1 ∧ ∀ j, j < n → p (enAt l j).p = false) ∨ ∃ k : Nat, k < n ∧ i = (k : Int) ∧ p (enAt l k).p = true ∧ ∀ j, j < k → p (enAt l j).p = false

theorem first_any (F : FuncId) (B : Nat) (q : ByteArray) (p : ByteArray → Bool) (hF : TestFn F B q p) (eg : ∀ args w, (callFunc F args).run Try.prog w = .ok (.enter F args) w)
    (A : Option Addr) (n c : Nat) (l : List Ent) (w : World) (h : EntsAt w A n l) (hs : entsSz l ≤ 1048576) (hB : w.cell? ⟨B, 0, none⟩ = some (.string q)) :
    Calls Try.prog 71 #[.slice A n c, .func (.func F) #[] #[.pointer (some ⟨B, 0, none⟩)]] w fun e w' => ∃ i, e = .returned (.int .i64 i) ∧ FirstAt p l n i ∧ Below w.heap.size w w' := by
  have hn := ents_n h hs
  have hel := ents_el hs
  go_enter Try.func71, Try.ntmps71
  go_wp2
  go_loopw [8] (fun i wr => ∃ k : Nat, k ≤ n ∧ i = .int .i64 k ∧ (∀ j, j < k → p (enAt l j).p = false) ∧ Below w.heap.size w wr) (fun i _ => n - (intOf i).toNat)
  case atStart => exact ⟨0, Nat.zero_le _, rfl, fun j hj => absurd hj (by omega), Below.refl _ _⟩
  case round =>
    obtain ⟨k, hk, rfl, hx, hb⟩ := hrel
    have HX := Lib.hid hx; clear hx
    by_cases hlt : k < n
    · obtain ⟨b, off, rfl, hbl, hc⟩ := h.at_ (by omega)
      obtain ⟨hp0, A', n', c', hc0, hat, _⟩ := hc k hlt
      have hpk := (hb.cell (p := ⟨b, off + k * 2, none⟩) hbl).trans hp0
      have hck := (hb.cell (p := ⟨b, off + k * 2 + 1, none⟩) hbl).trans hc0
      clear hc hc0 hp0
      have hek := hel k
      unfold entSz at hek
      have HC := hF (enAt l k).p A' n' c' wr (by omega) (keep_cell hb hB)
      obtain ⟨y, hy⟩ : ∃ y, p (enAt l k).p = y := ⟨_, rfl⟩
      have HY := Lib.hid hy
      rw [hy] at HC
      clear hy
      have HC := Lib.hid HC
      cases y
      · go_wp2_with (refine HC.out.mono ?_; rintro r w1 ⟨rfl, hb1⟩)
        refine ⟨⟨k + 1, by omega, by go_num, ?_, bthen hb hb1⟩, by simp [intOf]; omega⟩
        intro j hj
        by_cases e1 : j = k
        · subst e1; exact HY.out
        · exact HX.out j (by omega)
      · go_wp2_with (refine HC.out.mono ?_; rintro r w1 ⟨rfl, hb1⟩)
        go_returns
        exact ⟨k, rfl, .inr ⟨k, hlt, rfl, HY.out, HX.out⟩, bthen hb hb1⟩
    · go_wp2
      go_returns
      obtain rfl : k = n := by omega
      exact ⟨-1, rfl, .inl ⟨rfl, HX.out⟩, hb⟩

theorem keptC_take {p : Ent → Bool} {css : List (List Value)} {l : List Ent} {k : Nat} (hl : css.length = l.length) (hk : k < l.length) :
    keptC p (css.take (k + 1)) (l.take (k + 1)) = keptC p (css.take k) (l.take k) ++ (if p (enAt l k) then [] else [css[k]'(by omega)]) := by
  rw [take_snoc2 css k (by omega), take_snoc2 l k hk, keptC_snoc _ _ _ _ _ (by simp; omega), enAt_get hk]
theorem keptC_all {p : Ent → Bool} {css : List (List Value)} {l : List Ent} {k : Nat} (hl : css.length = l.length) (hk : k ≤ l.length) (h : ∀ j, j < k → p (enAt l j) = false) : keptC p (css.take k) (l.take k) = css.take k := by
  induction k with
  | zero => simp [keptC]
  | succ k ih =>
    rw [keptC_take hl (by omega), ih (by omega) (fun j hj => h j (by omega)), h k (by omega), take_snoc2 css k (by omega)]
    simp
theorem filter_all {p : Ent → Bool} {l : List Ent} (h : ∀ j, j < l.length → p (enAt l j) = false) : l.filter (fun x => !p x) = l := by
  rw [List.filter_eq_self]
  intro x hx
  obtain ⟨i, hi, rfl⟩ := List.mem_iff_getElem.1 hx
  have := h i hi
  rw [enAt_get hi] at this
  simp [this]

theorem take_flat {css : List (List Value)} {k : Nat} {m : Nat} (hm : css.length = m) (h : ∀ cs ∈ css, cs.length = 2) (t : Nat) (ht : t < k * 2) : (css.take k).flatten[t]? = css.flatten[t]? := by
  rcases Nat.lt_or_ge (t / 2) css.length with hi | hi
  · have e : t = t / 2 * 2 + t % 2 := by omega
    have hr : t % 2 < 2 := by omega
    have hk : t / 2 < k := by omega
    generalize t / 2 = i at *
    generalize t % 2 = r at *
    subst e
    rw [flat_get (fun cs h' => h cs (List.mem_of_mem_take h')) (i := i) (cs := css[i]) (by rw [List.getElem?_take_of_lt hk]; exact List.getElem?_eq_getElem hi) hr, flat_get h (i := i) (cs := css[i]) (List.getElem?_eq_getElem hi) hr]
  · rw [List.take_of_length_le (by omega)]
set_option maxRecDepth 4000 in
set_option maxHeartbeats 1000000 in
theorem del_any (F : FuncId) (B : Nat) (q : ByteArray) (p : ByteArray → Bool) (hF : TestFn F B q p) (eg : ∀ args w, (callFunc F args).run Try.prog w = .ok (.enter F args) w)
    (A : Option Addr) (n c : Nat) (l : List Ent) (lo hi : Nat) (w : World) (h : EntsIn lo hi w A n c l) (hs : entsSz l ≤ 1048576) (hB : w.cell? ⟨B, 0, none⟩ = some (.string q)) (hBo : ¬ Iv lo hi B) (hhi : hi ≤ w.heap.size) :
    Calls Try.prog 43 #[.slice A n c, .func (.func F) #[] #[.pointer (some ⟨B, 0, none⟩)]] w fun e w' => ∃ n', e = .returned (.slice A n' c) ∧ EntsIn lo hi w' A n' c (l.filter (fun x => !p x.p)) ∧ Ch (Iv lo hi) w w' := by
  have hat := h.at_
  have hn := ents_n hat hs
  have hel := ents_el hs
  obtain ⟨css, h⟩ := h.ex
  have HL := Lib.hid h.nl
  have HCL := Lib.hid (show css.length = l.length from h.subs.len)
  go_enter Try.func43, Try.ntmps43
  go_wp2_with fail
  refine (first_any F B q p hF eg _ _ _ l _ hat hs hB).mono ?_
  rintro e w1 ⟨i0, rfl, hfirst, hb1⟩
  have h1 := h.keep elemEnt hb1
  have hB1 := keep_cell hb1 hB
  have hC1 : Ch (Iv lo hi) w w1 := Ch.of_below hb1
  rcases hfirst with ⟨rfl, hall⟩ | ⟨k0, hk0, rfl, hpk0, hfi⟩
  · have hfa := filter_all (p := fun x => p x.p) (l := l) (fun j hj => hall j (by have := HL.out; omega))
    go_wp2
    go_returns
    exact ⟨n, rfl, by rw [hfa]; exact ⟨css, h1⟩, hC1⟩
  · have HPK := Lib.hid hpk0
    have HFI := Lib.hid hfi
    clear hpk0 hfi
    obtain ⟨g, rfl⟩ := h1.row.head (by omega)
    have hgb := (h1.row.blk (g := g) (by simp [BlkOf]))
    have hlens := Lib.hid (h1.subs.lens elemEnt)
    have hstart : keptC (fun x => p x.p) (css.take (k0 + 1)) (l.take (k0 + 1)) = css.take k0 := by
      rw [keptC_take HCL.out (by have := HL.out; omega), keptC_all HCL.out (by have := HL.out; omega) (fun j hj => HFI.out j hj)]
      simp [HPK.out]
    have HST := Lib.hid hstart
    clear hstart
    have hne1 : ((k0 : Int) == -1) = false := beq_eq_false_iff_ne.2 (by omega)
    go_wp2
    try rw [hne1]
    go_loopw [5, 6] (fun a b wr => ∃ (i j : Nat) (xs : List Value), a = .int .i64 i ∧ b = .int .i64 j ∧ i < j ∧ j ≤ n ∧ RowIn 33 2 lo hi wr (some ⟨g, 0, none⟩) n c xs ∧ Hid ((keptC (fun x => p x.p) (css.take j) (l.take j)).length = i ∧
      (∀ t, t < i * 2 → xs[t]? = (keptC (fun x => p x.p) (css.take j) (l.take j)).flatten[t]?) ∧ (∀ t, j * 2 ≤ t → xs[t]? = css.flatten[t]?)) ∧ Ch (fun k => k = g) w1 wr) (fun _ b _ => n - (intOf b).toNat)
    case atStart =>
      refine ⟨k0, k0 + 1, css.flatten, rfl, by go_num, by omega, by omega, h1.row, Lib.hid ⟨by rw [HST.out]; simp; have := HCL.out; have := HL.out; omega, fun t ht => ?_, fun t ht => rfl⟩, Ch.refl _⟩
      rw [HST.out]
      exact (take_flat HCL.out hlens.out t ht).symm
    case round =>
      obtain ⟨i, j, xs, rfl, rfl, hij, hjn, hrow, HX, hch⟩ := hrel
      by_cases hlt : j < n
      · obtain ⟨cs, hcs⟩ : ∃ cs, css[j]? = some cs := ⟨_, List.getElem?_eq_getElem (by have := HCL.out; have := HL.out; omega)⟩
        have hel2 := h1.subs.el j cs (enAt l j) hcs (by rw [enAt_get (by have := HL.out; omega)]; exact List.getElem?_eq_getElem (by have := HL.out; omega))
        obtain ⟨A', n', c', rfl, hin⟩ := hel2
        have hx0 : xs[j * 2]? = some (.string (enAt l j).p) := by
          rw [HX.out.2.2 _ (Nat.le_refl _)]; exact flat_get (j := 0) hlens.out hcs (by omega)
        have hx1 : xs[j * 2 + 1]? = some (.slice A' n' c') := by
          rw [HX.out.2.2 _ (by omega)]; exact flat_get (j := 1) hlens.out hcs (by omega)
        have hr0 : wr.cell? ⟨g, j * 2, none⟩ = some (.string (enAt l j).p) := (hrow.own.cellAt _ (by omega)).trans hx0
        have hr1 : wr.cell? ⟨g, j * 2 + 1, none⟩ = some (.slice A' n' c') := (hrow.own.cellAt _ (by omega)).trans hx1
        have hek := hel j
        unfold entSz at hek
        have hgr := (hrow.blk (g := g) (by simp [BlkOf])).2
        have al := (Below.refl wr.heap.size wr).alloc (Nat.le_refl _) (.cells #[.string (enAt l j).p, .slice A' n' c'] 33)
        have hBg : B ≠ g := fun e => hBo (e ▸ hgb.1)
        have HC := hF (enAt l j).p A' n' c' _ (by omega) (keep_cell al (hch.cell hB1 hBg))
        have HT := Lib.hid (keptC_take (p := fun x => p x.p) (k := j) HCL.out (by have := HL.out; omega))
        obtain ⟨y, hy⟩ : ∃ y, p (enAt l j).p = y := ⟨_, rfl⟩
        have HY := Lib.hid hy
        rw [hy] at HC
        clear hy
        have HC := Lib.hid HC
        have hrow1 := hrow.keep al
        clear hx0 hx1
        cases y
        · go_wp2_with fail
          refine HC.out.mono ?_
          rintro r w2 ⟨rfl, hb2⟩
          have hrow2 := hrow1.keep hb2
          have z0 := keep_cell hb2 (show (wr.alloc (.cells #[.string (enAt l j).p, .slice A' n' c'] 33)).cell? ⟨wr.heap.size, 0, none⟩ = some (.string (enAt l j).p) by simp [go_sem])
          have z1 := keep_cell hb2 (show (wr.alloc (.cells #[.string (enAt l j).p, .slice A' n' c'] 33)).cell? ⟨wr.heap.size, 1, none⟩ = some (.slice A' n' c') by simp [go_sem])
          obtain ⟨o0, ho0⟩ := own_cell hrow2.own (j := i * 2) (by omega)
          obtain ⟨o1, ho1⟩ := own_cell hrow2.own (j := i * 2 + 1) (by omega)
          have hf0 := hrow2.own.frozenAt (i * 2)
          have hf1 := hrow2.own.frozenAt (i * 2 + 1)
          go_wp2
          obtain ⟨r3, _⟩ := hrow2.store (i * 2) (.string (enAt l j).p)
          obtain ⟨r4, _⟩ := r3.store (i * 2 + 1) (.slice A' n' c')
          refine ⟨⟨i + 1, j + 1, _, by go_num, by go_num, by omega, by omega, r4, Lib.hid ?_, (((hch.trans (Ch.of_below al)).trans (Ch.of_below hb2)).setCell (p := ⟨g, i * 2, none⟩) rfl _).setCell (p := ⟨g, i * 2 + 1, none⟩) rfl _⟩, by simp [intOf]; omega⟩
          have h0 := HX.out
          have hcj : css[j]'(by have := HCL.out; have := HL.out; omega) = [.string (enAt l j).p, .slice A' n' c'] := (List.getElem?_eq_some_iff.1 hcs).2
          rw [HT.out, HY.out, if_neg (by simp), hcj]
          have hkl : (keptC (fun x => p x.p) (css.take j) (l.take j)).flatten.length = i * 2 := by
            rw [flat_len (sz := 2) (fun cs h' => hlens.out cs (List.mem_of_mem_take ((keptC_sub _ _ _).subset h'))), h0.1]
          refine ⟨by simp [h0.1], fill2 h0.2.1 (by simpa using hrow2.len) (by omega) hkl, fun t ht => ?_⟩
          rw [List.getElem?_set, if_neg (by omega), List.getElem?_set, if_neg (by omega)]
          exact h0.2.2 t (by omega)
        · go_wp2_with fail
          refine HC.out.mono ?_
          rintro r w2 ⟨rfl, hb2⟩
          go_wp2
          refine ⟨⟨i, j + 1, xs, rfl, by go_num, by omega, by omega, hrow1.keep hb2, Lib.hid ?_, (hch.trans (Ch.of_below al)).trans (Ch.of_below hb2)⟩, by simp [intOf]; omega⟩
          have h0 := HX.out
          rw [HT.out, HY.out, if_pos rfl, List.append_nil]
          exact ⟨h0.1, h0.2.1, fun t ht => h0.2.2 t (by omega)⟩
      · have hjn' : j = n := by omega
        subst hjn'
        obtain ⟨zs, hcl⟩ := run_clear2 (P := Try.prog) wr 24 33 (.agg #[.string ByteArray.empty, .slice none 0 0]) Try.underlying24 zeroEntry zeroEntry1 g (i * 2) (j - i) (c - i) (fun t ht => by
          obtain ⟨v, hv⟩ := own_cell hrow.own (j := i * 2 + t) (by simp [Value.cells] at ht; omega)
          rw [hv]; rfl) (fun t ht => hrow.own.frozenAt _)
        have hic : (i : Int) ≤ c := by have := own_le hrow.own; omega
        have hc0 : ¬ c = 0 := by have := own_le hrow.own; omega
        have hci : ¬ c = i := by have := own_le hrow.own; omega
        go_wp2
        go_returns
        have h0 := HX.out
        obtain ⟨ys, hy1, hy2, hy3⟩ := own_clear (c := c) (g := g) zs (i * 2) wr xs hrow.own
        have hcut := own_cut hy1 (show i ≤ j by omega)
        have hjl := HL.out
        have hcl2 := HCL.out
        rw [List.take_of_length_le (show css.length ≤ j by omega), List.take_of_length_le (show l.length ≤ j by omega)] at h0
        have hkl : (keptC (fun x => p x.p) css l).flatten.length = i * 2 := by
          rw [flat_len (sz := 2) (fun cs h' => hlens.out cs ((keptC_sub _ _ _).subset h')), h0.1]
        have hys : ys.take (i * 2) = (keptC (fun x => p x.p) css l).flatten := by
          apply List.ext_getElem?
          intro t
          rcases Nat.lt_or_ge t (i * 2) with ht | ht
          · rw [List.getElem?_take_of_lt ht, hy2 t ht, h0.2.1 t ht]
          · rw [List.getElem?_eq_none (by simp; omega), List.getElem?_eq_none (by omega)]
        rw [hys] at hcut
        have hch2 := hch.trans hy3
        have hg1 : ∀ k, k = g → Iv lo hi k := fun k e => by rw [e]; exact hgb.1
        refine ⟨i, rfl, ⟨keptC (fun x => p x.p) css l, ⟨hcut, h1.row.lt⟩, ?_, fun cs hcs b hb => h1.off cs ((keptC_sub _ _ _).subset hcs) b hb, ?_⟩, hC1.trans (hch2.mono hg1)⟩
        · refine (h1.subs.filter (fun x => p x.p)).ch elemEnt hch2 (fun cs hcs b hb e => ?_)
          exact h1.off cs ((keptC_sub _ _ _).subset hcs) b hb (by subst e; simp [BlkOf])
        · rw [← keptC_len _ css l hcl2, h0.1]
end Go.Proofs.Ytbijkdpifnncmaa
