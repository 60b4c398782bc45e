/- Contracts and lemmas: DelEnts, Insert, CopyEntsS, Split, Under. -/
import Derived.Test.YtbijkdpifnncmaaJ2
import Derived.Laws.IdiomCopy
import Derived.Lib.SliceRun
import Derived.Shelf.RegionOpenPlain
import Derived.Lib.Walk
import Derived.Lib.JoinLaws
import Derived.Lib.AppendZeros
import Derived.Lib.AppendZerosOnto
import Derived.Lib.Overlaps
import Derived.Laws.Externs
import Derived.Laws.NewBlocks
import Derived.Laws.LoneSync
import Derived.WalkKit
import Derived.Test.YtbijkdpifnncmaaJ0
/- slices.DeleteFunc on rows of entries of the call's own, by a test on the path. -/
namespace Go.Proofs.Ytbijkdpifnncmaa
open Go.RowKit
attribute [local irreducible] StrsAt

/-! ### what is kept -/
def keptC {α : Type} (p : α → Bool) : List (List Value) → List α → List (List Value)
  | cs :: css, x :: l => if p x then keptC p css l else cs :: keptC p css l
  | _, _ => []
theorem keptC_snoc {α : Type} (p : α → Bool) (css : List (List Value)) (l : List α) (cs : List Value) (x : α) (h : css.length = l.length) :
    keptC p (css ++ [cs]) (l ++ [x]) = keptC p css l ++ (if p x then [] else [cs]) := by
  induction css generalizing l with
  | nil =>
    cases l with
    | nil => simp [keptC]
    | cons _ _ => simp at h
  | cons c css ih =>
    cases l with
    | nil => simp at h
    | cons y l =>
      simp only [List.cons_append, keptC]
      rw [ih l (by simpa using h)]
      split <;> simp
theorem keptC_len {α : Type} (p : α → Bool) (css : List (List Value)) (l : List α) (h : css.length = l.length) : (keptC p css l).length = (l.filter (fun x => !p x)).length := by
  induction css generalizing l with
  | nil =>
    cases l with
    | nil => simp [keptC]
    | cons _ _ => simp at h
  | cons c css ih =>
    cases l with
    | nil => simp at h
    | cons y l =>
      have := ih l (by simpa using h)
      rw [List.filter_cons]
      cases hp : p y <;> simp [keptC, hp, this]
theorem keptC_sub {α : Type} (p : α → Bool) (css : List (List Value)) (l : List α) : (keptC p css l).Sublist css := by
  induction css generalizing l with
  | nil => cases l <;> simp [keptC]
  | cons c css ih =>
    cases l with
    | nil => simp [keptC]
    | cons y l =>
      rw [keptC]
      split
      · exact (ih l).cons _
      · exact (ih l).cons_cons _
theorem keptC_pair {α : Type} (p : α → Bool) {R : List Value → α → Prop} (css : List (List Value)) (l : List α) (hR : ∀ (i : Nat) (cs : List Value) (x : α), css[i]? = some cs → l[i]? = some x → R cs x) :
    ∀ (i : Nat) (cs : List Value) (x : α), (keptC p css l)[i]? = some cs → (l.filter (fun x => !p x))[i]? = some x → R cs x := by
  induction css generalizing l with
  | nil => intro i cs x h; cases l <;> simp [keptC] at h
  | cons c css ih =>
    cases l with
    | nil => intro i cs x h; simp [keptC] at h
    | cons y l =>
      have ih' := ih l (fun i cs x h1 h2 => hR (i + 1) cs x (by simpa using h1) (by simpa using h2))
      intro i cs x h1 h2
      cases hp : p y with
      | true =>
        rw [keptC, if_pos hp] at h1
        rw [List.filter_cons, if_neg (by simp [hp])] at h2
        exact ih' i cs x h1 h2
      | false =>
        rw [keptC, if_neg (by simp [hp])] at h1
        rw [List.filter_cons, if_pos (by simp [hp])] at h2
        cases i with
        | zero => exact hR 0 cs x (by simpa using h1) (by simpa using h2)
        | succ i => exact ih' i cs x (by simpa using h1) (by simpa using h2)
theorem SubsIn.filter {α : Type} {F : Nat → Nat → World → List Value → α → Prop} {lo hi : Nat} {w : World} {css : List (List Value)} {l : List α} (h : SubsIn F lo hi w css l) (p : α → Bool) :
    SubsIn F lo hi w (keptC p css l) (l.filter (fun x => !p x)) :=
  ⟨keptC_len p css l h.len, keptC_pair p css l h.el, h.apart.sublist (keptC_sub p css l)⟩

/-! ### a row that is cut -/
theorem own_cut {w : World} {base e sz n c g i : Nat} {xs : List Value} (h : w.ownsRow base e sz (.slice (some ⟨g, 0, none⟩) n c) n xs) (hi : i ≤ n) : w.ownsRow base e sz (.slice (some ⟨g, 0, none⟩) i c) i (xs.take (i * sz)) := by
  have hle : i * sz ≤ n * sz := Nat.mul_le_mul_right _ hi
  obtain ⟨hl, h2⟩ := h
  rcases h2 with ⟨hv, _⟩ | ⟨g', cap, cur, hv, hb, hg, hn, hm, hs, ht⟩
  · cases hv
  · injection hv with e1 e2 e3
    injection e1 with e1
    injection e1 with e1 _ _
    subst e1 e3
    refine ⟨by rw [List.length_take, hl]; omega, .inr ⟨g, c, cur, rfl, hb, hg, by omega, hm, hs, ?_⟩⟩
    rw [← ht, List.take_take, Nat.min_eq_left hle]
theorem own_clear {base e sz n c g : Nat} (zs : List Value) : ∀ (o : Nat) (w : World) (xs : List Value), w.ownsRow base e sz (.slice (some ⟨g, 0, none⟩) n c) n xs →
    ∃ ys, (w.setCells g o zs).ownsRow base e sz (.slice (some ⟨g, 0, none⟩) n c) n ys ∧ (∀ t, t < o → ys[t]? = xs[t]?) ∧ Ch (fun k => k = g) w (w.setCells g o zs) := by
  induction zs with
  | nil => intro o w xs h; exact ⟨xs, h, fun _ _ => rfl, Ch.refl _⟩
  | cons z zs ih =>
    intro o w xs h
    obtain ⟨ys, h1, h2, h3⟩ := ih (o + 1) (w.setCell ⟨g, o, none⟩ z) (xs.set o z) (h.stored o z).1
    refine ⟨ys, h1, fun t ht => ?_, ((Ch.refl (S := fun k => k = g) w).setCell (p := ⟨g, o, none⟩) rfl z).trans h3⟩
    rw [h2 t (by omega), List.getElem?_set, if_neg (by omega)]
theorem run_clear2 {P : Program} (w : World) (t e : TypeId) (z : Value) (ht : P.underlying t = some (.slice e)) (hv : ∀ w, (zeroValue e).run P w = .ok z w) (h1 : ∀ v ∈ z.cells, v.oneCell' = true) (b o n c : Nat)
    (hc : ∀ j, j < n * z.cells.size → (w.cell? ⟨b, o + j, none⟩).isSome = true) (hf : ∀ j, j < n * z.cells.size → w.frozen? ⟨b, o + j, none⟩ = false) :
    ∃ zs, ∀ ty, (Builtin.clear_ #[t] ty #[.slice (some ⟨b, o, none⟩) n c]).run P w = .ok (.tuple #[]) (w.setCells b o zs) := by
  rcases Nat.eq_zero_or_pos n with rfl | hn
  · exact ⟨[], fun ty => by simp [Builtin.clear_, run_underlying ht, World.setCells]⟩
  · refine ⟨(Builtin.zeroCells z.cells n).toList, fun ty => ?_⟩
    have hlen : (Builtin.zeroCells z.cells n).toList.length = n * z.cells.size := by simp [Builtin.zeroCells]
    have hst := run_storeCells_cells (P := P) b o (Builtin.zeroCells z.cells n).toList 0 w (by rw [hlen]; simpa using hc) (by rw [hlen]; simpa using hf) (by
      intro v hv'
      simp only [Builtin.zeroCells, Array.toList_map, List.mem_map] at hv'
      obtain ⟨i, hi, rfl⟩ := hv'
      have hsz : 0 < z.cells.size := by
        rcases Nat.eq_zero_or_pos z.cells.size with h0 | h0
        · rw [h0] at hi; simp at hi
        · exact h0
      rw [getElem!_pos z.cells _ (Nat.mod_lt _ hsz)]
      exact h1 _ (Array.getElem_mem _))
    simp only [Nat.add_zero] at hst
    obtain ⟨m, rfl⟩ : ∃ m, n = m + 1 := ⟨n - 1, by omega⟩
    simp [Builtin.clear_, run_underlying ht, hv, hst]

/-! ### the walk -/
theorem zeroEntry (w : World) : (zeroValue 33).run Try.prog w = .ok (.agg #[.string ByteArray.empty, .slice none 0 0]) w := by
  first | (unfold zeroValue; kernel_rfl) | kernel_rfl | rfl | simp [zeroValue, infoEntry]
theorem zeroEntry1 : ∀ v ∈ (Value.agg #[.string ByteArray.empty, .slice none 0 0]).cells, v.oneCell' = true := by
  intro v hv
  simp [Value.cells] at hv
  rcases hv with rfl | rfl <;> rfl
/-- a test on an entry's path by a function value with one captured text -/
def TestFn (F : FuncId) (B : Nat) (q : ByteArray) (p : ByteArray → Bool) : Prop :=
  ∀ (x : ByteArray) (A : Option Addr) (n c : Nat) (w : World), x.size ≤ 1048576 → w.cell? ⟨B, 0, none⟩ = some (.string q) →
    Calls Try.prog F #[.agg #[.string x, .slice A n c], .pointer (some ⟨B, 0, none⟩)] w fun e w' => e = .returned (.bool (p x)) ∧ Below w.heap.size w w'
/-- the first place where a test holds, or -1 -/
def FirstAt (p : ByteArray → Bool) (l : List Ent) (n : Nat) (i : Int) : Prop :=
  (i = -1 ∧ ∀ j, j < n → p (enAt l j).p = false) ∨ ∃ k : Nat, k < n ∧ i = (k : Int) ∧ p (enAt l k).p = true ∧ ∀ j, j < k → p (enAt l j).p = false

theorem first_any (F : FuncId) (B : Nat) (q : ByteArray) (p : ByteArray → Bool) (hF : TestFn F B q p) (eg : ∀ args w, (callFunc F args).run Try.prog w = .ok (.enter F args) w)
    (A : Option Addr) (n c : Nat) (l : List Ent) (w : World) (h : EntsAt w A n l) (hs : entsSz l ≤ 1048576) (hB : w.cell? ⟨B, 0, none⟩ = some (.string q)) :
    Calls Try.prog 71 #[.slice A n c, .func (.func F) #[] #[.pointer (some ⟨B, 0, none⟩)]] w fun e w' => ∃ i, e = .returned (.int .i64 i) ∧ FirstAt p l n i ∧ Below w.heap.size w w' := by
  have hn := ents_n h hs
  have hel := ents_el hs
  go_enter Try.func71, Try.ntmps71
  go_wp2
  go_loopw [8] (fun i wr => ∃ k : Nat, k ≤ n ∧ i = .int .i64 k ∧ (∀ j, j < k → p (enAt l j).p = false) ∧ Below w.heap.size w wr) (fun i _ => n - (intOf i).toNat)
  case atStart => exact ⟨0, Nat.zero_le _, rfl, fun j hj => absurd hj (by omega), Below.refl _ _⟩
  case round =>
    obtain ⟨k, hk, rfl, hx, hb⟩ := hrel
    have HX := Lib.hid hx; clear hx
    by_cases hlt : k < n
    · obtain ⟨b, off, rfl, hbl, hc⟩ := h.at_ (by omega)
      obtain ⟨hp0, A', n', c', hc0, hat, _⟩ := hc k hlt
      have hpk := (hb.cell (p := ⟨b, off + k * 2, none⟩) hbl).trans hp0
      have hck := (hb.cell (p := ⟨b, off + k * 2 + 1, none⟩) hbl).trans hc0
      clear hc hc0 hp0
      have hek := hel k
      unfold entSz at hek
      have HC := hF (enAt l k).p A' n' c' wr (by omega) (keep_cell hb hB)
      obtain ⟨y, hy⟩ : ∃ y, p (enAt l k).p = y := ⟨_, rfl⟩
      have HY := Lib.hid hy
      rw [hy] at HC
      clear hy
      have HC := Lib.hid HC
      cases y
      · go_wp2_with (refine HC.out.mono ?_; rintro r w1 ⟨rfl, hb1⟩)
        refine ⟨⟨k + 1, by omega, by go_num, ?_, bthen hb hb1⟩, by simp [intOf]; omega⟩
        intro j hj
        by_cases e1 : j = k
        · subst e1; exact HY.out
        · exact HX.out j (by omega)
      · go_wp2_with (refine HC.out.mono ?_; rintro r w1 ⟨rfl, hb1⟩)
        go_returns
        exact ⟨k, rfl, .inr ⟨k, hlt, rfl, HY.out, HX.out⟩, bthen hb hb1⟩
    · go_wp2
      go_returns
      obtain rfl : k = n := by omega
      exact ⟨-1, rfl, .inl ⟨rfl, HX.out⟩, hb⟩

theorem keptC_take {p : Ent → Bool} {css : List (List Value)} {l : List Ent} {k : Nat} (hl : css.length = l.length) (hk : k < l.length) :
    keptC p (css.take (k + 1)) (l.take (k + 1)) = keptC p (css.take k) (l.take k) ++ (if p (enAt l k) then [] else [css[k]'(by omega)]) := by
  rw [take_snoc2 css k (by omega), take_snoc2 l k hk, keptC_snoc _ _ _ _ _ (by simp; omega), enAt_get hk]
theorem keptC_all {p : Ent → Bool} {css : List (List Value)} {l : List Ent} {k : Nat} (hl : css.length = l.length) (hk : k ≤ l.length) (h : ∀ j, j < k → p (enAt l j) = false) : keptC p (css.take k) (l.take k) = css.take k := by
  induction k with
  | zero => simp [keptC]
  | succ k ih =>
    rw [keptC_take hl (by omega), ih (by omega) (fun j hj => h j (by omega)), h k (by omega), take_snoc2 css k (by omega)]
    simp
theorem filter_all {p : Ent → Bool} {l : List Ent} (h : ∀ j, j < l.length → p (enAt l j) = false) : l.filter (fun x => !p x) = l := by
  rw [List.filter_eq_self]
  intro x hx
  obtain ⟨i, hi, rfl⟩ := List.mem_iff_getElem.1 hx
  have := h i hi
  rw [enAt_get hi] at this
  simp [this]

theorem take_flat {css : List (List Value)} {k : Nat} {m : Nat} (hm : css.length = m) (h : ∀ cs ∈ css, cs.length = 2) (t : Nat) (ht : t < k * 2) : (css.take k).flatten[t]? = css.flatten[t]? := by
  rcases Nat.lt_or_ge (t / 2) css.length with hi | hi
  · have e : t = t / 2 * 2 + t % 2 := by omega
    have hr : t % 2 < 2 := by omega
    have hk : t / 2 < k := by omega
    generalize t / 2 = i at *
    generalize t % 2 = r at *
    subst e
    rw [flat_get (fun cs h' => h cs (List.mem_of_mem_take h')) (i := i) (cs := css[i]) (by rw [List.getElem?_take_of_lt hk]; exact List.getElem?_eq_getElem hi) hr, flat_get h (i := i) (cs := css[i]) (List.getElem?_eq_getElem hi) hr]
  · rw [List.take_of_length_le (by omega)]
set_option maxRecDepth 4000 in
set_option maxHeartbeats 1000000 in
theorem del_any (F : FuncId) (B : Nat) (q : ByteArray) (p : ByteArray → Bool) (hF : TestFn F B q p) (eg : ∀ args w, (callFunc F args).run Try.prog w = .ok (.enter F args) w)
    (A : Option Addr) (n c : Nat) (l : List Ent) (lo hi : Nat) (w : World) (h : EntsIn lo hi w A n c l) (hs : entsSz l ≤ 1048576) (hB : w.cell? ⟨B, 0, none⟩ = some (.string q)) (hBo : ¬ Iv lo hi B) (hhi : hi ≤ w.heap.size) :
    Calls Try.prog 43 #[.slice A n c, .func (.func F) #[] #[.pointer (some ⟨B, 0, none⟩)]] w fun e w' => ∃ n', e = .returned (.slice A n' c) ∧ EntsIn lo hi w' A n' c (l.filter (fun x => !p x.p)) ∧ Ch (Iv lo hi) w w' := by
  have hat := h.at_
  have hn := ents_n hat hs
  have hel := ents_el hs
  obtain ⟨css, h⟩ := h.ex
  have HL := Lib.hid h.nl
  have HCL := Lib.hid (show css.length = l.length from h.subs.len)
  go_enter Try.func43, Try.ntmps43
  go_wp2_with fail
  refine (first_any F B q p hF eg _ _ _ l _ hat hs hB).mono ?_
  rintro e w1 ⟨i0, rfl, hfirst, hb1⟩
  have h1 := h.keep elemEnt hb1
  have hB1 := keep_cell hb1 hB
  have hC1 : Ch (Iv lo hi) w w1 := Ch.of_below hb1
  rcases hfirst with ⟨rfl, hall⟩ | ⟨k0, hk0, rfl, hpk0, hfi⟩
  · have hfa := filter_all (p := fun x => p x.p) (l := l) (fun j hj => hall j (by have := HL.out; omega))
    go_wp2
    go_returns
    exact ⟨n, rfl, by rw [hfa]; exact ⟨css, h1⟩, hC1⟩
  · have HPK := Lib.hid hpk0
    have HFI := Lib.hid hfi
    clear hpk0 hfi
    obtain ⟨g, rfl⟩ := h1.row.head (by omega)
    have hgb := (h1.row.blk (g := g) (by simp [BlkOf]))
    have hlens := Lib.hid (h1.subs.lens elemEnt)
    have hstart : keptC (fun x => p x.p) (css.take (k0 + 1)) (l.take (k0 + 1)) = css.take k0 := by
      rw [keptC_take HCL.out (by have := HL.out; omega), keptC_all HCL.out (by have := HL.out; omega) (fun j hj => HFI.out j hj)]
      simp [HPK.out]
    have HST := Lib.hid hstart
    clear hstart
    have hne1 : ((k0 : Int) == -1) = false := beq_eq_false_iff_ne.2 (by omega)
    go_wp2
    try rw [hne1]
    go_loopw [5, 6] (fun a b wr => ∃ (i j : Nat) (xs : List Value), a = .int .i64 i ∧ b = .int .i64 j ∧ i < j ∧ j ≤ n ∧ RowIn 33 2 lo hi wr (some ⟨g, 0, none⟩) n c xs ∧ Hid ((keptC (fun x => p x.p) (css.take j) (l.take j)).length = i ∧
      (∀ t, t < i * 2 → xs[t]? = (keptC (fun x => p x.p) (css.take j) (l.take j)).flatten[t]?) ∧ (∀ t, j * 2 ≤ t → xs[t]? = css.flatten[t]?)) ∧ Ch (fun k => k = g) w1 wr) (fun _ b _ => n - (intOf b).toNat)
    case atStart =>
      refine ⟨k0, k0 + 1, css.flatten, rfl, by go_num, by omega, by omega, h1.row, Lib.hid ⟨by rw [HST.out]; simp; have := HCL.out; have := HL.out; omega, fun t ht => ?_, fun t ht => rfl⟩, Ch.refl _⟩
      rw [HST.out]
      exact (take_flat HCL.out hlens.out t ht).symm
    case round =>
      obtain ⟨i, j, xs, rfl, rfl, hij, hjn, hrow, HX, hch⟩ := hrel
      by_cases hlt : j < n
      · obtain ⟨cs, hcs⟩ : ∃ cs, css[j]? = some cs := ⟨_, List.getElem?_eq_getElem (by have := HCL.out; have := HL.out; omega)⟩
        have hel2 := h1.subs.el j cs (enAt l j) hcs (by rw [enAt_get (by have := HL.out; omega)]; exact List.getElem?_eq_getElem (by have := HL.out; omega))
        obtain ⟨A', n', c', rfl, hin⟩ := hel2
        have hx0 : xs[j * 2]? = some (.string (enAt l j).p) := by
          rw [HX.out.2.2 _ (Nat.le_refl _)]; exact flat_get (j := 0) hlens.out hcs (by omega)
        have hx1 : xs[j * 2 + 1]? = some (.slice A' n' c') := by
          rw [HX.out.2.2 _ (by omega)]; exact flat_get (j := 1) hlens.out hcs (by omega)
        have hr0 : wr.cell? ⟨g, j * 2, none⟩ = some (.string (enAt l j).p) := (hrow.own.cellAt _ (by omega)).trans hx0
        have hr1 : wr.cell? ⟨g, j * 2 + 1, none⟩ = some (.slice A' n' c') := (hrow.own.cellAt _ (by omega)).trans hx1
        have hek := hel j
        unfold entSz at hek
        have hgr := (hrow.blk (g := g) (by simp [BlkOf])).2
        have al := (Below.refl wr.heap.size wr).alloc (Nat.le_refl _) (.cells #[.string (enAt l j).p, .slice A' n' c'] 33)
        have hBg : B ≠ g := fun e => hBo (e ▸ hgb.1)
        have HC := hF (enAt l j).p A' n' c' _ (by omega) (keep_cell al (hch.cell hB1 hBg))
        have HT := Lib.hid (keptC_take (p := fun x => p x.p) (k := j) HCL.out (by have := HL.out; omega))
        obtain ⟨y, hy⟩ : ∃ y, p (enAt l j).p = y := ⟨_, rfl⟩
        have HY := Lib.hid hy
        rw [hy] at HC
        clear hy
        have HC := Lib.hid HC
        have hrow1 := hrow.keep al
        clear hx0 hx1
        cases y
        · go_wp2_with fail
          refine HC.out.mono ?_
          rintro r w2 ⟨rfl, hb2⟩
          have hrow2 := hrow1.keep hb2
          have z0 := keep_cell hb2 (show (wr.alloc (.cells #[.string (enAt l j).p, .slice A' n' c'] 33)).cell? ⟨wr.heap.size, 0, none⟩ = some (.string (enAt l j).p) by simp [go_sem])
          have z1 := keep_cell hb2 (show (wr.alloc (.cells #[.string (enAt l j).p, .slice A' n' c'] 33)).cell? ⟨wr.heap.size, 1, none⟩ = some (.slice A' n' c') by simp [go_sem])
          obtain ⟨o0, ho0⟩ := own_cell hrow2.own (j := i * 2) (by omega)
          obtain ⟨o1, ho1⟩ := own_cell hrow2.own (j := i * 2 + 1) (by omega)
          have hf0 := hrow2.own.frozenAt (i * 2)
          have hf1 := hrow2.own.frozenAt (i * 2 + 1)
          go_wp2
          obtain ⟨r3, _⟩ := hrow2.store (i * 2) (.string (enAt l j).p)
          obtain ⟨r4, _⟩ := r3.store (i * 2 + 1) (.slice A' n' c')
          refine ⟨⟨i + 1, j + 1, _, by go_num, by go_num, by omega, by omega, r4, Lib.hid ?_, (((hch.trans (Ch.of_below al)).trans (Ch.of_below hb2)).setCell (p := ⟨g, i * 2, none⟩) rfl _).setCell (p := ⟨g, i * 2 + 1, none⟩) rfl _⟩, by simp [intOf]; omega⟩
          have h0 := HX.out
          have hcj : css[j]'(by have := HCL.out; have := HL.out; omega) = [.string (enAt l j).p, .slice A' n' c'] := (List.getElem?_eq_some_iff.1 hcs).2
          rw [HT.out, HY.out, if_neg (by simp), hcj]
          have hkl : (keptC (fun x => p x.p) (css.take j) (l.take j)).flatten.length = i * 2 := by
            rw [flat_len (sz := 2) (fun cs h' => hlens.out cs (List.mem_of_mem_take ((keptC_sub _ _ _).subset h'))), h0.1]
          refine ⟨by simp [h0.1], fill2 h0.2.1 (by simpa using hrow2.len) (by omega) hkl, fun t ht => ?_⟩
          rw [List.getElem?_set, if_neg (by omega), List.getElem?_set, if_neg (by omega)]
          exact h0.2.2 t (by omega)
        · go_wp2_with fail
          refine HC.out.mono ?_
          rintro r w2 ⟨rfl, hb2⟩
          go_wp2
          refine ⟨⟨i, j + 1, xs, rfl, by go_num, by omega, by omega, hrow1.keep hb2, Lib.hid ?_, (hch.trans (Ch.of_below al)).trans (Ch.of_below hb2)⟩, by simp [intOf]; omega⟩
          have h0 := HX.out
          rw [HT.out, HY.out, if_pos rfl, List.append_nil]
          exact ⟨h0.1, h0.2.1, fun t ht => h0.2.2 t (by omega)⟩
      · have hjn' : j = n := by omega
        subst hjn'
        obtain ⟨zs, hcl⟩ := run_clear2 (P := Try.prog) wr 24 33 (.agg #[.string ByteArray.empty, .slice none 0 0]) Try.underlying24 zeroEntry zeroEntry1 g (i * 2) (j - i) (c - i) (fun t ht => by
          obtain ⟨v, hv⟩ := own_cell hrow.own (j := i * 2 + t) (by simp [Value.cells] at ht; omega)
          rw [hv]; rfl) (fun t ht => hrow.own.frozenAt _)
        have hic : (i : Int) ≤ c := by have := own_le hrow.own; omega
        have hc0 : ¬ c = 0 := by have := own_le hrow.own; omega
        have hci : ¬ c = i := by have := own_le hrow.own; omega
        go_wp2
        go_returns
        have h0 := HX.out
        obtain ⟨ys, hy1, hy2, hy3⟩ := own_clear (c := c) (g := g) zs (i * 2) wr xs hrow.own
        have hcut := own_cut hy1 (show i ≤ j by omega)
        have hjl := HL.out
        have hcl2 := HCL.out
        rw [List.take_of_length_le (show css.length ≤ j by omega), List.take_of_length_le (show l.length ≤ j by omega)] at h0
        have hkl : (keptC (fun x => p x.p) css l).flatten.length = i * 2 := by
          rw [flat_len (sz := 2) (fun cs h' => hlens.out cs ((keptC_sub _ _ _).subset h')), h0.1]
        have hys : ys.take (i * 2) = (keptC (fun x => p x.p) css l).flatten := by
          apply List.ext_getElem?
          intro t
          rcases Nat.lt_or_ge t (i * 2) with ht | ht
          · rw [List.getElem?_take_of_lt ht, hy2 t ht, h0.2.1 t ht]
          · rw [List.getElem?_eq_none (by simp; omega), List.getElem?_eq_none (by omega)]
        rw [hys] at hcut
        have hch2 := hch.trans hy3
        have hg1 : ∀ k, k = g → Iv lo hi k := fun k e => by rw [e]; exact hgb.1
        refine ⟨i, rfl, ⟨keptC (fun x => p x.p) css l, ⟨hcut, h1.row.lt⟩, ?_, fun cs hcs b hb => h1.off cs ((keptC_sub _ _ _).subset hcs) b hb, ?_⟩, hC1.trans (hch2.mono hg1)⟩
        · refine (h1.subs.filter (fun x => p x.p)).ch elemEnt hch2 (fun cs hcs b hb e => ?_)
          exact h1.off cs ((keptC_sub _ _ _).subset hcs) b hb (by subst e; simp [BlkOf])
        · rw [← keptC_len _ css l hcl2, h0.1]
end Go.Proofs.Ytbijkdpifnncmaa
/- slices.Insert of one entry into a row of entries of the call's own. -/
namespace Go.Proofs.Ytbijkdpifnncmaa
open Go.Shelf Go.RowKit Go.Lib

/-! ### 'copy' at elements of any size -/
theorem run_copyN {P : Program} (w : World) (dT sT ty elem : TypeId) (sz b o dLen dCap : Nat) (a : Addr) (sLen sCap : Nat) (cs : List Value)
    (hu : P.underlying dT = some (.slice elem)) (hs : (P.info? elem).map (·.size) = some sz) (hn : cs.length = Nat.min sLen dLen * sz)
    (hsrc : ∀ j v, cs[j]? = some v → w.cell? (a.add j) = some v) (hc : ∀ j, j < cs.length → (w.cell? ⟨b, o + j, none⟩).isSome = true) (hf : ∀ j, j < cs.length → w.frozen? ⟨b, o + j, none⟩ = false) (h1 : ∀ v ∈ cs, v.oneCell' = true) :
    (Builtin.copy_ #[dT, sT] ty #[.slice (some ⟨b, o, none⟩) dLen dCap, .slice (some a) sLen sCap]).run P w = .ok (goInt (Nat.min sLen dLen)) (w.setCells b o cs) := by
  have hl := run_loadCells_list (P := P) w a cs hsrc
  have hst := run_storeCells_cells (P := P) b o cs 0 w (by simpa using hc) (by simpa using hf) h1
  cases hq : P.info? elem with
  | none => simp [hq] at hs
  | some i =>
    have hi : i.size = sz := by simpa [hq] using hs
    simp [Builtin.copy_, run_underlying hu, Builtin.lenOf, Builtin.firstCells, sizeOf, typeInfo, hq, hi, ← hn, hl, hst]
theorem wp_copyN {P : Program} (w : World) {o : Oper} {a : Act} {K : Act → World → Prop} {Q : Exit → Act → World → Prop} (d s : Operand) (t t' : TypeId)
    (ho : o.op = .call { callee := .builtin .copy, args := #[d, s], argTypes := #[t, t'] }) (v u : Value) (hd : a.eval d = v) (hs : a.eval s = u) {v' : Value} {w' : World}
    (hr : (Builtin.copy_ #[t, t'] o.type #[v, u]).run P w = .ok v' w') (h : K (a.put o.dst v') w') : o.wp P a w K Q := by
  unfold Oper.wp execOp
  simp only [ho, resolve, invoke, builtin, Sem.run_bind, Sem.run_pure, Result.andThen_ok, List.map_toArray, List.map_cons, List.map_nil, hd, hs, hr]
  exact h
theorem wpList_copyN {P : Program} (w : World) {ops : Array Oper} {rest : List Oper} {o : Oper} {a : Act} {Q : Exit → Act → World → Prop} (hgd : o.guard = none) (d s : Operand) (t t' : TypeId)
    (ho : o.op = .call { callee := .builtin .copy, args := #[d, s], argTypes := #[t, t'] }) (v u : Value) (hd : a.eval d = v) (hs : a.eval s = u) {v' : Value} {w' : World}
    (hr : (Builtin.copy_ #[t, t'] o.type #[v, u]).run P w = .ok v' w') (h : wpList P ops Q rest (a.put o.dst v') w') : wpList P ops Q (o :: rest) a w :=
  wpList_plain hgd fun _ hK => wp_copyN w d s t t' ho v u hd hs hr (hK _ _ h)
theorem step_copyN {P : Program} {ops : Array Oper} {o : Oper} {a : Act} {w : World} {K : Act → World → Prop} {Q : Exit → Act → World → Prop} {E : Prop}
    (hg : o.guard = none) (d x : Operand) (dT sT : TypeId) (hop : o.op = Op.call { callee := Callee.builtin Builtin.copy, args := #[d, x], argTypes := #[dT, sT] })
    (v u : Value) (hd : a.eval d = v) (hx : a.eval x = u) {v' : Value} {w' : World} (hr : (Builtin.copy_ #[dT, sT] o.type #[v, u]).run P w = .ok v' w') (hK : K (a.put o.dst v') w') :
    if Region.wanted o (yielded ops a.tmps) = true then Oper.wp P o a w K Q else E := by
  have hw : Region.wanted o (yielded ops a.tmps) = true := by simp [Region.wanted, hg]
  rw [if_pos hw]
  exact wp_copyN w d x dT sT hop v u hd hx hr hK
theorem some_setCells (b : Nat) (vs : List Value) (o : Nat) (w : World) (h : ∀ j, j < vs.length → (w.cell? ⟨b, o + j, none⟩).isSome = true) (k : Nat) (hk : (w.cell? ⟨b, k, none⟩).isSome = true) : ((w.setCells b o vs).cell? ⟨b, k, none⟩).isSome = true := by
  by_cases hin : o ≤ k ∧ k < o + vs.length
  · have := World.cell?_setCells_in b vs o w h (k - o) (by omega)
    rw [show o + (k - o) = k by omega] at this
    rw [this]; rfl
  · rw [World.cell?_setCells_out b vs o w ⟨b, k, none⟩ (fun _ _ => by show k < o ∨ o + vs.length ≤ k; omega)]
    exact hk

theorem sizeEntry (w : World) : (Go.sizeOf 33).run Try.prog w = .ok 2 w := by
  first | (unfold Go.sizeOf; kernel_rfl) | kernel_rfl | rfl
theorem infoSize : (Try.prog.info? 33).map (·.size) = some 2 := by kernel_rfl

set_option maxHeartbeats 4000000 in
set_option maxRecDepth 100000 in
/-- there is room, i < len(s): in place -/
theorem ins_shift (b n c i vb : Nat) (cs : List Value) (v0 v1 : Value) (w : World) (hi : i < n) (hroom : n + 1 ≤ c) (hc63 : c ≤ 9223372036854775807) (hvb : vb ≠ b) (hcl : cs.length = n * 2)
    (hcs : ∀ j v, cs[j]? = some v → w.cell? ⟨b, j, none⟩ = some v) (hsp : ∀ j, j < (n + 1) * 2 → (w.cell? ⟨b, j, none⟩).isSome = true) (hfz : ∀ j, w.frozen? ⟨b, j, none⟩ = false)
    (hv0 : w.cell? ⟨vb, 0, none⟩ = some v0) (hv1 : w.cell? ⟨vb, 1, none⟩ = some v1) (h1c : ∀ v ∈ cs, v.oneCell' = true) (h10 : v0.oneCell' = true) (h11 : v1.oneCell' = true) (hfv : ∀ j, w.frozen? ⟨vb, j, none⟩ = false) :
    Calls Try.prog 46 #[.slice (some ⟨b, 0, none⟩) n c, .int .i64 i, .slice (some ⟨vb, 0, none⟩) 1 1] w fun e w' =>
      e = .returned (.slice (some ⟨b, 0, none⟩) (n + 1) c) ∧ w' = (w.drew.setCells b ((i + 1) * 2) (cs.drop (i * 2))).setCells b (i * 2) [v0, v1] := by
  obtain ⟨tA, kA, hsa, _, _⟩ := World.shape?_of_cell? hv0
  obtain ⟨u, hu⟩ := Option.isSome_iff_exists.1 (hsp 0 (by omega))
  obtain ⟨tB, kB, hsb, hkB, _⟩ := World.shape?_of_cell? hu
  have hkB : kB ≠ 0 := by omega
  have hz2 : ¬ ((i : Int) = (n : Int)) := by omega
  have hov : ∀ lb cb, (callFunc 72 #[.slice (some ⟨vb, 0, none⟩) 1 1, .slice (some ⟨b, (i + 1) * 2, none⟩) lb cb]).run Try.prog w = .ok (.value (.bool false)) w := fun lb cb => by
    rw [run_callFunc_extern Try.func72 (by kernel_rfl) (by kernel_rfl) (by kernel_rfl) (e := Extern.SlicesOverlaps.overlaps #[24, 24] #[4]) (by kernel_rfl),
      Lib.run_overlaps_apart w 24 4 33 Try.underlying24 2 sizeEntry ⟨vb, 0, none⟩ ⟨b, (i + 1) * 2, none⟩ 1 1 lb cb hvb tA tB kA kB hsa hsb hkB (hfv 0) (hfv kA)]
    rfl
  have hdl : (cs.drop (i * 2)).length = (n - i) * 2 := by rw [List.length_drop, hcl]; omega
  have mixed : Try.prog.follows Departure.mixedOrders = true := by kernel_rfl
  have hw1 : IntKind.i64.wrap ((i : Int) + 1) = (i : Int) + 1 := by rw [IntKind.wrap_i64]; omega
  have hb1 : (0 : Int) ≤ (i : Int) + 1 := by omega
  have htn : ((i : Int) + 1).toNat = i + 1 := by omega
  have hb3 : (i : Int) ≤ (n : Int) + 1 := by omega
  have hin : i ≤ n := by omega
  have hb2 : ¬ (c = i + 1) := by omega
  have hb4 : ¬ (c = i) := by omega
  have hcp1 : ∀ ty dc sc, (Builtin.copy_ #[24, 24] ty #[.slice (some ⟨b, (i + 1) * 2, none⟩) (n - i) dc, .slice (some ⟨b, i * 2, none⟩) (n + 1 - i) sc]).run Try.prog w.drew = .ok (goInt ((n - i : Nat) : Int)) (w.drew.setCells b ((i + 1) * 2) (cs.drop (i * 2))) := fun ty dc sc => by
    have hmin : Nat.min (n + 1 - i) (n - i) = n - i := by simp only [Nat.min_def]; split <;> omega
    have := run_copyN (P := Try.prog) w.drew 24 24 ty 33 2 b ((i + 1) * 2) (n - i) dc ⟨b, i * 2, none⟩ (n + 1 - i) sc (cs.drop (i * 2)) Try.underlying24 infoSize (by rw [hdl, hmin])
      (fun j v hj => by rw [Addr.add_lit]; exact hcs (i * 2 + j) v (by rwa [List.getElem?_drop] at hj))
      (fun j hj => hsp _ (by omega)) (fun j hj => hfz _) (fun v hv => h1c v (List.mem_of_mem_drop hv))
    rwa [hmin] at this
  obtain ⟨W1, hW1⟩ : ∃ W1, W1 = w.drew.setCells b ((i + 1) * 2) (cs.drop (i * 2)) := ⟨_, rfl⟩
  have hsp1 : ∀ k, k < (n + 1) * 2 → (W1.cell? ⟨b, k, none⟩).isSome = true := fun k hk => by
    rw [hW1]
    exact some_setCells b (cs.drop (i * 2)) ((i + 1) * 2) w.drew (fun j hj => hsp ((i + 1) * 2 + j) (by rw [hdl] at hj; omega)) k (hsp k hk)
  have hcp2 : ∀ (W : World), (∀ x, W.cell? x = W1.cell? x) → (∀ x, W.frozen? x = W1.frozen? x) → ∀ ty dc, (Builtin.copy_ #[24, 24] ty #[.slice (some ⟨b, i * 2, none⟩) (n + 1 - i) dc, .slice (some ⟨vb, 0, none⟩) 1 1]).run Try.prog W = .ok (goInt 1) (W.setCells b (i * 2) [v0, v1]) := fun W hWc hWf ty dc => by
    have hmin : Nat.min 1 (n + 1 - i) = 1 := by simp only [Nat.min_def]; split <;> omega
    have := run_copyN (P := Try.prog) W 24 24 ty 33 2 b (i * 2) (n + 1 - i) dc ⟨vb, 0, none⟩ 1 1 [v0, v1] Try.underlying24 infoSize (by rw [hmin]; rfl)
      (fun j v hj => by
        rw [Addr.add_lit, hWc, hW1, World.cell?_setCells_out b _ _ _ _ (fun h _ => absurd h hvb), Nat.zero_add]
        rcases j with _ | _ | j
        · injection hj with hj; subst hj; exact hv0
        · injection hj with hj; subst hj; exact hv1
        · cases hj)
      (fun j hj => by rw [hWc]; exact hsp1 _ (by simp at hj; omega)) (fun j hj => by rw [hWf, hW1, World.frozen?_setCells]; exact hfz _) (fun v hv => by
        simp at hv; rcases hv with rfl | rfl
        · exact h10
        · exact h11)
    rwa [hmin] at this
  rw [← hW1] at hcp1
  clear hsp1
  go_enter Try.func46, Try.ntmps46
  go_wp2_with (simp only [hov])
  go_region_law_o (refine step_copyN rfl _ _ 24 24 rfl _ _ (by simp [Act.eval, Act.put]) (by simp [Act.eval, Act.put]) (hcp1 _ _ _) ?_)
  go_wp2_with (at_builtin; refine wpList_copyN _ rfl _ _ 24 24 rfl _ _ rfl rfl (hcp2 _ (fun _ => rfl) (fun _ => rfl) _ _) ?_)
  go_returns
  first | exact ⟨rfl, rfl⟩ | exact ⟨rfl, by rw [hW1]⟩

theorem zeroE_size (k : Nat) : (Builtin.zeroCells (Value.agg #[.string ByteArray.empty, .slice none 0 0]).cells k).size = k * 2 := by
  simp [Builtin.zeroCells, Value.cells]
set_option maxHeartbeats 4000000 in
set_option maxRecDepth 100000 in
/-- i < len(s), no room: a new row -/
theorem ins_grow (b n c i vb : Nat) (cs : List Value) (v0 v1 : Value) (w : World) (hi : i < n) (hnc : n ≤ c) (hroom : c < n + 1) (hbig : (n + 1) * 40 ≤ 140737488355328) (hcl : cs.length = n * 2)
    (hcs : ∀ j v, cs[j]? = some v → w.cell? ⟨b, j, none⟩ = some v)
    (hv0 : w.cell? ⟨vb, 0, none⟩ = some v0) (hv1 : w.cell? ⟨vb, 1, none⟩ = some v1) (h1c : ∀ v ∈ cs, v.oneCell' = true) (h10 : v0.oneCell' = true) (h11 : v1.oneCell' = true) :
    Calls Try.prog 46 #[.slice (some ⟨b, 0, none⟩) n c, .int .i64 i, .slice (some ⟨vb, 0, none⟩) 1 1] w fun e w' =>
      ∃ G ROW, n + 1 ≤ G ∧ G ≤ maxLen ∧ ROW.size = G * 2 ∧ (∀ j, j < i * 2 → ROW[j]? = cs[j]?) ∧ e = .returned (.slice (some ⟨w.heap.size, 0, none⟩) (n + 1) G) ∧
      w' = (((w.alloc (.cells ROW 33)).drew.setCells w.heap.size (i * 2) [v0, v1]).drew).setCells w.heap.size ((i + 1) * 2) (cs.drop (i * 2)) := by
  have mixed : Try.prog.follows Departure.mixedOrders = true := by kernel_rfl
  obtain ⟨i0, hi0, hz0, hzs, hzb⟩ := info_parts infoEntry
  have hz2 : ¬ ((i : Int) = (n : Int)) := by omega
  have hz3 : (c : Int) < (n : Int) + 1 := by omega
  have hbw : b < w.heap.size := cell_lt (hcs 0 _ (List.getElem?_eq_getElem (by omega)))
  have hvw : vb < w.heap.size := cell_lt hv0
  have hkk : (n : Int) + 1 - (i : Int) = ((n + 1 - i : Nat) : Int) := by omega
  have hik : i + (n + 1 - i) = n + 1 := by omega
  have hold : (Builtin.firstCells i0.size i (.slice (some ⟨b, 0, none⟩) i c)).run Try.prog w.drew = .ok (cs.take (i * 2)).toArray w.drew := by
    rw [hzs]
    exact run_firstCells_some w.drew 2 i ⟨b, 0, none⟩ i c (cs.take (i * 2)) (by rw [List.length_take]; omega) (fun j v hj => by
      rw [Addr.add_lit, Nat.zero_add]
      rw [List.getElem?_take] at hj
      split at hj
      · exact hcs j v hj
      · cases hj)
  obtain ⟨G, hG⟩ : ∃ G, G = grownCap w (n + 1) c 33 := ⟨_, rfl⟩
  obtain ⟨ROW, hROW⟩ : ∃ ROW : Array Value, ROW = (cs.take (i * 2)).toArray ++ Builtin.zeroCells (Value.agg #[.string ByteArray.empty, .slice none 0 0]).cells (n + 1 - i) ++ Builtin.zeroCells (Value.agg #[.string ByteArray.empty, .slice none 0 0]).cells (G - (n + 1)) := ⟨_, rfl⟩
  have hrz : ∀ ty, (Builtin.append_ #[24, 3] ty #[.slice (some ⟨b, 0, none⟩) i c, .int .i64 ((n : Int) + 1 - (i : Int))]).run Try.prog w =
      .ok (.slice (some ⟨w.heap.size, 0, none⟩) (n + 1) G) (w.drew.alloc (.cells ROW 33)) := fun ty => by
    have h := Lib.run_append_grow_zeros w 24 3 ty 33 i0 _ .i64 .i64 Try.underlying24 Try.underlying3 hi0 hz0 (some ⟨b, 0, none⟩) i c (cs.take (i * 2)) hold (n + 1 - i) (by omega) (by omega) (by omega) (by omega) (by rw [hzb]; omega) (by rw [hzb, hik]; exact growslice_fits hroom hbig)
    rw [hik, ← hG, ← hROW] at h
    rw [hkk]
    exact h
  have hGn : n + 1 ≤ G := by rw [hG]; exact grownCap_ge w _ _ _
  have hGm : G ≤ maxLen := by rw [hG]; exact grownCap_le_maxLen w (n + 1) c 33 (by unfold maxLen; omega)
  have hG63 : G ≤ 9223372036854775807 := by unfold maxLen at hGm; omega
  have hRl : ROW.size = G * 2 := by
    rw [hROW, Array.size_append, Array.size_append, zeroE_size, zeroE_size]
    simp [hcl]
    omega
  have hRc : ∀ j, j < i * 2 → ROW[j]? = cs[j]? := fun j hj => by
    have hl : (cs.take (i * 2)).length = i * 2 := by rw [List.length_take]; omega
    rw [hROW, Array.getElem?_append, if_pos (by simp [hcl, zeroE_size]; omega), Array.getElem?_append, if_pos (by simp [hcl]; omega)]
    simp [hj]
  obtain ⟨W1, hW1⟩ : ∃ W1, W1 = w.drew.alloc (.cells ROW 33) := ⟨_, rfl⟩
  rw [← hW1] at hrz
  have hN : ∀ j, j < (n + 1) * 2 → (W1.cell? ⟨w.heap.size, j, none⟩).isSome = true := fun j hj => by
    rw [hW1, World.cell?_alloc_at (w := w.drew) ROW _ w.heap.size j rfl, Array.getElem?_eq_getElem (by omega)]; rfl
  have hNf : ∀ j, W1.frozen? ⟨w.heap.size, j, none⟩ = false := fun j => by rw [hW1]; exact World.frozen?_alloc_at (w := w.drew) ROW _ w.heap.size j rfl
  have hOb : ∀ j v, w.cell? ⟨b, j, none⟩ = some v → W1.cell? ⟨b, j, none⟩ = some v := fun j v h => by rw [hW1, World.cell?_alloc_past (w := w.drew) _ b j hbw]; exact h
  have hOv : ∀ j v, w.cell? ⟨vb, j, none⟩ = some v → W1.cell? ⟨vb, j, none⟩ = some v := fun j v h => by rw [hW1, World.cell?_alloc_past (w := w.drew) _ vb j hvw]; exact h
  have hcpA : ∀ (W : World), (∀ x, W.cell? x = W1.cell? x) → (∀ x, W.frozen? x = W1.frozen? x) → ∀ ty dc, (Builtin.copy_ #[24, 24] ty #[.slice (some ⟨w.heap.size, i * 2, none⟩) (n + 1 - i) dc, .slice (some ⟨vb, 0, none⟩) 1 1]).run Try.prog W = .ok (goInt 1) (W.setCells w.heap.size (i * 2) [v0, v1]) := fun W hWc hWf ty dc => by
    have hmin : Nat.min 1 (n + 1 - i) = 1 := by simp only [Nat.min_def]; split <;> omega
    have := run_copyN (P := Try.prog) W 24 24 ty 33 2 w.heap.size (i * 2) (n + 1 - i) dc ⟨vb, 0, none⟩ 1 1 [v0, v1] Try.underlying24 infoSize (by rw [hmin]; rfl)
      (fun j v hj => by
        rw [Addr.add_lit, hWc, Nat.zero_add]
        rcases j with _ | _ | j
        · injection hj with hj; subst hj; exact hOv _ _ hv0
        · injection hj with hj; subst hj; exact hOv _ _ hv1
        · cases hj)
      (fun j hj => by rw [hWc]; exact hN _ (by simp at hj; omega)) (fun j hj => by rw [hWf]; exact hNf _) (fun v hv => by
        simp at hv; rcases hv with rfl | rfl
        · exact h10
        · exact h11)
    rwa [hmin] at this
  have hGi : ¬ (G = i) := by omega
  have hGim : ¬ (G = i + 1) := by omega
  have hci : ¬ (c = i) := by omega
  have hbN : b ≠ w.heap.size := by omega
  have hdl : (cs.drop (i * 2)).length = (n - i) * 2 := by rw [List.length_drop, hcl]; omega
  have hcpB : ∀ (W : World), (∀ x, W.cell? x = (W1.setCells w.heap.size (i * 2) [v0, v1]).cell? x) → (∀ x, W.frozen? x = (W1.setCells w.heap.size (i * 2) [v0, v1]).frozen? x) → ∀ ty dc sc, (Builtin.copy_ #[24, 24] ty #[.slice (some ⟨w.heap.size, (i + 1) * 2, none⟩) (n - i) dc, .slice (some ⟨b, i * 2, none⟩) (n - i) sc]).run Try.prog W = .ok (goInt ((n - i : Nat) : Int)) (W.setCells w.heap.size ((i + 1) * 2) (cs.drop (i * 2))) := fun W hWc hWf ty dc sc => by
    have hmin : Nat.min (n - i) (n - i) = n - i := by simp only [Nat.min_def]; split <;> omega
    have := run_copyN (P := Try.prog) W 24 24 ty 33 2 w.heap.size ((i + 1) * 2) (n - i) dc ⟨b, i * 2, none⟩ (n - i) sc (cs.drop (i * 2)) Try.underlying24 infoSize (by rw [hdl, hmin])
      (fun j v hj => by
        rw [Addr.add_lit, hWc, World.cell?_setCells_out _ _ _ _ _ (fun h _ => absurd h hbN)]
        exact hOb _ v (hcs (i * 2 + j) v (by rwa [List.getElem?_drop] at hj)))
      (fun j hj => by rw [hWc]; exact some_setCells _ _ _ _ (fun t ht => hN _ (by simp at ht; omega)) _ (hN _ (by omega)))
      (fun j hj => by rw [hWf, World.frozen?_setCells]; exact hNf _) (fun v hv => h1c v (List.mem_of_mem_drop hv))
    rwa [hmin] at this
  subst hW1
  have hE1 : ∀ x, ((w.alloc (.cells ROW 33)).drew).cell? x = (w.drew.alloc (.cells ROW 33)).cell? x := fun x => rfl
  have hE2 : ∀ x, ((w.alloc (.cells ROW 33)).drew).frozen? x = (w.drew.alloc (.cells ROW 33)).frozen? x := fun x => rfl
  have hF1 : ∀ x, (((w.alloc (.cells ROW 33)).drew.setCells w.heap.size (i * 2) [v0, v1]).drew).cell? x = ((w.drew.alloc (.cells ROW 33)).setCells w.heap.size (i * 2) [v0, v1]).cell? x := fun x => rfl
  have hF2 : ∀ x, (((w.alloc (.cells ROW 33)).drew.setCells w.heap.size (i * 2) [v0, v1]).drew).frozen? x = ((w.drew.alloc (.cells ROW 33)).setCells w.heap.size (i * 2) [v0, v1]).frozen? x := fun x => rfl
  have hw1 : IntKind.i64.wrap ((i : Int) + 1) = (i : Int) + 1 := by rw [IntKind.wrap_i64]; omega
  have hb1 : (0 : Int) ≤ (i : Int) + 1 := by omega
  have hin : i ≤ n := by omega
  have htn : ((i : Int) + 1).toNat = i + 1 := by omega
  have hb3 : (i : Int) ≤ (n : Int) := by omega
  clear hkk hik hold hROW hG hN hNf hOb hOv
  go_enter Try.func46, Try.ntmps46
  go_wp2_with (first
    | (at_builtin; refine Lib.wpList_append_run _ rfl _ _ _ _ rfl _ _ rfl rfl _ _ (hrz _) ?_)
    | (at_builtin; refine wpList_copyN _ rfl _ _ 24 24 rfl _ _ rfl rfl (hcpA _ hE1 hE2 _ _) ?_)
    | (at_builtin; refine wpList_copyN _ rfl _ _ 24 24 rfl _ _ rfl rfl (hcpB _ (fun _ => rfl) (fun _ => rfl) _ _ _) ?_))
  go_region_law_o (refine step_copyN rfl _ _ 24 24 rfl (.slice (some ⟨w.heap.size, (i + 1) * 2, none⟩) (n - i) (G - (i + 1))) (.slice (some ⟨b, i * 2, none⟩) (n - i) (c - i)) (by simp [Act.eval, Act.put]) (by simp [Act.eval, Act.put]) (hcpB _ hF1 hF2 3 (G - (i + 1)) (c - i)) ?_)
  go_wp2
  go_returns
  exact ⟨G, ROW, hGn, hGm, hRl, hRc, rfl, rfl⟩

set_option maxRecDepth 100000 in
/-- at the end: as an append -/
theorem ins_end (lo vb n c : Nat) (A : Option Addr) (xs : List Value) (v0 v1 : Value) (w : World) (hown : w.ownsRow lo 33 2 (.slice A n c) n xs) (hlo : lo ≤ w.heap.size) (hn : n ≤ 1048576)
    (hv0 : w.cell? ⟨vb, 0, none⟩ = some v0) (hv1 : w.cell? ⟨vb, 1, none⟩ = some v1) (h10 : v0.oneCell' = true) (h11 : v1.oneCell' = true) :
    Calls Try.prog 46 #[.slice A n c, .int .i64 n, .slice (some ⟨vb, 0, none⟩) 1 1] w fun e w' =>
      ∃ A' c', e = .returned (.slice A' (n + 1) c') ∧ w'.ownsRow lo 33 2 (.slice A' (n + 1) c') (n + 1) (xs ++ [v0, v1]) ∧ w.grownBy w' (Value.slice A n c).ownBlock ∧
      ((Value.slice A' (n + 1) c').ownBlock = (Value.slice A n c).ownBlock ∨ (Value.slice A' (n + 1) c').ownBlock = some w.heap.size) := by
  have mixed : Try.prog.follows Departure.mixedOrders = true := by kernel_rfl
  have hsrc : CellsAt w (some ⟨vb, 0, none⟩) 1 2 [v0, v1] := by
    refine ⟨rfl, fun _ => ⟨vb, 0, rfl, fun j u hu => ?_⟩⟩
    rcases j with _ | _ | j
    · injection hu with hu; subst hu; exact hv0
    · injection hu with hu; subst hu; exact hv1
    · cases hu
  have hle := own_le hown
  have hle1 := hle.1
  have hle2 := hle.2
  rcases own_form hown with ⟨rfl, rfl, rfl, rfl⟩ | ⟨g, rfl, _, _⟩
  · go_enter Try.func46, Try.ntmps46
    go_wp2_with (at_builtin; refine wpList_app (P := Try.prog) w rfl _ _ 24 rfl lo 33 _ 2 40 Try.underlying24 infoEntry rfl (by omega) (.slice none 0 0) 0 [] rfl hown (some ⟨vb, 0, none⟩) 1 1 [v0, v1] rfl hsrc (by simp [h10, h11]) (fun h => by cases h) (by unfold maxLen; omega) (by omega) hlo ?_; intro A' c' w1 hown1 hg1 hb1 hob1)
    go_returns
    exact ⟨A', c', rfl, hown1, hg1, hob1⟩
  · go_enter Try.func46, Try.ntmps46
    go_wp2_with (at_builtin; refine wpList_app (P := Try.prog) w rfl _ _ 24 rfl lo 33 _ 2 40 Try.underlying24 infoEntry rfl (by omega) (.slice (some ⟨g, 0, none⟩) n c) n xs rfl hown (some ⟨vb, 0, none⟩) 1 1 [v0, v1] rfl hsrc (by simp [h10, h11]) (fun h => by cases h) (by unfold maxLen; omega) (by omega) hlo ?_; intro A' c' w1 hown1 hg1 hb1 hob1)
    all_goals (go_returns; exact ⟨A', c', rfl, hown1, hg1, hob1⟩)

/-! ### one contract, on the row's cells -/
theorem own_more {w : World} {base e sz n c g m : Nat} {xs : List Value} (h : w.ownsRow base e sz (.slice (some ⟨g, 0, none⟩) n c) n xs) (hm : n ≤ m) (hc : m ≤ c) :
    ∃ ys, w.ownsRow base e sz (.slice (some ⟨g, 0, none⟩) m c) m ys ∧ ∀ t, t < n * sz → ys[t]? = xs[t]? := by
  have hle : n * sz ≤ m * sz := Nat.mul_le_mul_right _ hm
  obtain ⟨hl, h2⟩ := h
  rcases h2 with ⟨hv, _⟩ | ⟨g', cap, cur, hv, hb, hg, hn, hmx, hs, ht⟩
  · cases hv
  · injection hv with e1 e2 e3
    injection e1 with e1
    injection e1 with e1 _ _
    subst e1 e3
    have hcs : m * sz ≤ c * sz := Nat.mul_le_mul_right _ hc
    refine ⟨cur.toList.take (m * sz), ⟨by rw [List.length_take, Array.length_toList, hs]; omega, .inr ⟨g, c, cur, rfl, hb, hg, hc, hmx, hs, rfl⟩⟩, fun t htt => ?_⟩
    rw [← ht, List.getElem?_take_of_lt htt, List.getElem?_take_of_lt (by omega)]
theorem own_sets {base e sz n c g : Nat} (zs : List Value) : ∀ (o : Nat) (w : World) (xs : List Value), w.ownsRow base e sz (.slice (some ⟨g, 0, none⟩) n c) n xs →
    ∃ ys, (w.setCells g o zs).ownsRow base e sz (.slice (some ⟨g, 0, none⟩) n c) n ys ∧ (∀ t, t < o ∨ o + zs.length ≤ t → ys[t]? = xs[t]?) ∧ (∀ j, j < zs.length → o + j < n * sz → ys[o + j]? = zs[j]?) ∧ Ch (fun k => k = g) w (w.setCells g o zs) := by
  induction zs with
  | nil => intro o w xs h; exact ⟨xs, h, fun _ _ => rfl, fun j hj => absurd hj (by simp), Ch.refl _⟩
  | cons z zs ih =>
    intro o w xs h
    have hl := h.1
    obtain ⟨ys, h1, h2, h3, h4⟩ := ih (o + 1) (w.setCell ⟨g, o, none⟩ z) (xs.set o z) (h.stored o z).1
    refine ⟨ys, h1, fun t ht => ?_, fun j hj hx => ?_, ((Ch.refl (S := fun k => k = g) w).setCell (p := ⟨g, o, none⟩) rfl z).trans h4⟩
    · simp only [List.length_cons] at ht
      rw [h2 t (by omega), List.getElem?_set, if_neg (by omega)]
    · rcases j with _ | j
      · rw [Nat.add_zero] at hx ⊢
        rw [h2 o (.inl (by omega)), List.getElem?_set, if_pos rfl, if_pos (by omega)]; rfl
      · simp only [List.length_cons] at hj
        have := h3 j (by omega) (by omega)
        rw [show o + (j + 1) = o + 1 + j by omega, this]; rfl
/-- the cells with an element inserted -/
theorem ins_ext {ys xs : List Value} {v0 v1 : Value} {n i : Nat} (hi : i ≤ n) (hx : xs.length = n * 2) (hy : ys.length = (n + 1) * 2) (h0 : ∀ t, t < i * 2 → ys[t]? = xs[t]?) (h1 : ∀ j, j < 2 → ys[i * 2 + j]? = [v0, v1][j]?)
    (h2 : ∀ j, j < (n - i) * 2 → ys[(i + 1) * 2 + j]? = (xs.drop (i * 2))[j]?) : ys = xs.take (i * 2) ++ [v0, v1] ++ xs.drop (i * 2) := by
  have hl : (xs.take (i * 2)).length = i * 2 := by rw [List.length_take]; omega
  apply List.ext_getElem?
  intro t
  rw [List.append_assoc, List.getElem?_append, hl]
  by_cases c1 : t < i * 2
  · rw [if_pos c1, h0 t c1, List.getElem?_take_of_lt c1]
  · rw [if_neg c1]
    by_cases c2 : t < (i + 1) * 2
    · rw [List.getElem?_append, if_pos (by simp; omega), ← h1 (t - i * 2) (by omega), show i * 2 + (t - i * 2) = t by omega]
    · rw [List.getElem?_append, if_neg (by simp; omega)]
      by_cases c3 : t < (n + 1) * 2
      · rw [show t - i * 2 - [v0, v1].length = t - (i + 1) * 2 by simp; omega, ← h2 (t - (i + 1) * 2) (by omega), show (i + 1) * 2 + (t - (i + 1) * 2) = t by omega]
      · rw [List.getElem?_eq_none (by omega), List.getElem?_eq_none (by simp; omega)]

theorem insert_own (lo vb n c i : Nat) (A : Option Addr) (xs : List Value) (v0 v1 : Value) (w : World) (hown : w.ownsRow lo 33 2 (.slice A n c) n xs) (hlo : lo ≤ w.heap.size) (hn : n ≤ 1048576) (hi : i ≤ n)
    (hvb : ∀ g, BlkOf A g → vb ≠ g) (hfv : ∀ j, w.frozen? ⟨vb, j, none⟩ = false) (hv0 : w.cell? ⟨vb, 0, none⟩ = some v0) (hv1 : w.cell? ⟨vb, 1, none⟩ = some v1)
    (h1c : ∀ v ∈ xs, v.oneCell' = true) (h10 : v0.oneCell' = true) (h11 : v1.oneCell' = true) :
    Calls Try.prog 46 #[.slice A n c, .int .i64 i, .slice (some ⟨vb, 0, none⟩) 1 1] w fun e w' =>
      ∃ A' c', e = .returned (.slice A' (n + 1) c') ∧ w'.ownsRow lo 33 2 (.slice A' (n + 1) c') (n + 1) (xs.take (i * 2) ++ [v0, v1] ++ xs.drop (i * 2)) ∧ Ch (fun k => (Value.slice A n c).ownBlock = some k) w w' ∧
      ((Value.slice A' (n + 1) c').ownBlock = (Value.slice A n c).ownBlock ∨ (Value.slice A' (n + 1) c').ownBlock = some w.heap.size) := by
  have hxl := hown.1
  by_cases hin : i = n
  · subst hin
    refine (ins_end lo vb i c A xs v0 v1 w hown hlo hn hv0 hv1 h10 h11).mono ?_
    rintro e w' ⟨A', c', rfl, h1, h2, h3⟩
    refine ⟨A', c', rfl, ?_, Ch.of_grow h2, h3⟩
    rwa [List.take_of_length_le (by omega), List.drop_eq_nil_of_le (by omega), List.append_nil]
  · have hle := own_le hown
    obtain ⟨g, rfl, hlg, hgh⟩ : ∃ g, A = some ⟨g, 0, none⟩ ∧ lo ≤ g ∧ g < w.heap.size := by
      rcases own_form hown with ⟨_, h0, _⟩ | h
      · omega
      · exact h
    have hcell : ∀ j v, xs[j]? = some v → w.cell? ⟨g, j, none⟩ = some v := fun j v hj => by
      exact (hown.cellAt j (by have := (List.getElem?_eq_some_iff.1 hj).1; omega)).trans hj
    have hdl : (xs.drop (i * 2)).length = (n - i) * 2 := by rw [List.length_drop, hxl]; omega
    by_cases hroom : n + 1 ≤ c
    · obtain ⟨ys, hy, hyx⟩ := own_more hown (Nat.le_succ n) hroom
      refine (ins_shift g n c i vb xs v0 v1 w (by omega) hroom hle.2 (hvb g (by simp [BlkOf])) hxl hcell (fun j hj => ?_) (fun j => hown.frozenAt j) hv0 hv1 h1c h10 h11 hfv).mono ?_
      · obtain ⟨u, hu⟩ := own_cell hy (j := j) (by omega)
        rw [hu]; rfl
      rintro e w' ⟨rfl, rfl⟩
      obtain ⟨y1, a1, a2, a3, a4⟩ := own_sets (xs.drop (i * 2)) ((i + 1) * 2) w.drew ys hy
      obtain ⟨y2, b1, b2, b3, b4⟩ := own_sets [v0, v1] (i * 2) _ y1 a1
      have hE : y2 = xs.take (i * 2) ++ [v0, v1] ++ xs.drop (i * 2) := by
        refine ins_ext (by omega) hxl b1.1 (fun t ht => ?_) (fun j hj => ?_) (fun j hj => ?_)
        · rw [b2 t (.inl ht), a2 t (.inl (by omega)), hyx t (by omega)]
        · exact b3 j hj (by omega)
        · rw [b2 _ (.inr (by simp; omega)), a3 j (by omega) (by omega)]
      rw [hE] at b1
      refine ⟨_, _, rfl, b1, ?_, .inl rfl⟩
      have h0 : Ch (fun k => k = g) w w.drew := (Ch.refl w).drew
      exact ((h0.trans a4).trans b4).mono (fun k hk => by subst hk; rfl)
    · refine (ins_grow g n c i vb xs v0 v1 w (by omega) hle.1 (by omega) (by omega) hxl hcell hv0 hv1 h1c h10 h11).mono ?_
      rintro e w' ⟨G, ROW, hG1, hG2, hR, hRc, rfl, rfl⟩
      have h0 : Ch (fun k => k = w.heap.size) w ((w.alloc (.cells ROW 33)).drew) := ((Ch.refl w).alloc _).drew
      have ho : ((w.alloc (.cells ROW 33)).drew).ownsRow lo 33 2 (.slice (some ⟨w.heap.size, 0, none⟩) (n + 1) G) (n + 1) (ROW.toList.take ((n + 1) * 2)) :=
        ⟨by simp [hR]; omega, .inr ⟨w.heap.size, G, ROW, rfl, hlo, by show (w.heap.push _)[w.heap.size]? = _; simp, hG1, hG2, hR, rfl⟩⟩
      obtain ⟨y1, a1, a2, a3, a4⟩ := own_sets [v0, v1] (i * 2) _ _ ho
      have a1' : (((w.alloc (.cells ROW 33)).drew.setCells w.heap.size (i * 2) [v0, v1]).drew).ownsRow lo 33 2 (.slice (some ⟨w.heap.size, 0, none⟩) (n + 1) G) (n + 1) y1 := a1
      obtain ⟨y2, b1, b2, b3, b4⟩ := own_sets (xs.drop (i * 2)) ((i + 1) * 2) _ y1 a1'
      have hE : y2 = xs.take (i * 2) ++ [v0, v1] ++ xs.drop (i * 2) := by
        refine ins_ext (by omega) hxl b1.1 (fun t ht => ?_) (fun j hj => ?_) (fun j hj => ?_)
        · rw [b2 t (.inl (by omega)), a2 t (.inl ht), List.getElem?_take_of_lt (by omega), Array.getElem?_toList, hRc t ht]
        · rw [b2 _ (.inl (by omega)), a3 j hj (by omega)]
        · rw [b3 j (by omega) (by omega)]
      rw [hE] at b1
      refine ⟨_, _, rfl, b1, ?_, .inr rfl⟩
      have hC := ((h0.trans a4).drew).trans b4
      exact ⟨hC.os, hC.tape, hC.output, hC.size, fun k hk _ => hC.block k hk (by omega)⟩
end Go.Proofs.Ytbijkdpifnncmaa
/- Contract of l30Copy. -/
namespace Go.Proofs.Ytbijkdpifnncmaa
open Go.RowKit
attribute [local irreducible] StrsAt

theorem own_empty' (w : World) (e sz : Nat) {base : Nat} (hb : base ≤ w.heap.size) : (w.drew.alloc (.cells #[] e)).ownsRow base e sz (.slice (some ⟨w.heap.size, 0, none⟩) 0 0) 0 [] := own_empty w.drew e sz hb

set_option maxRecDepth 4000 in
set_option maxHeartbeats 1000000 in
theorem l30Copy_spec1 (A : Option Addr) (n c : Nat) (l : List Ent) (w : World) (h : EntsAt w A n l) (hs : entsSz l ≤ 1048577) :
    Calls Try.prog 48 #[.slice A n c] w (EntsR l w) := by
  have HL := Lib.hid h.1.symm
  have hn := ents_n h hs
  have hel := ents_el hs
  go_enter Try.func48, Try.ntmps48
  go_wp2
  go_loopw [3, 4] (fun o i wr => ∃ (k : Nat) (O : Option Addr) (cap : Nat) (css : List (List Value)), k ≤ n ∧ i = .int .i64 k ∧ o = .slice O k cap ∧ RowsIn FEnt 33 2 w.heap.size wr.heap.size wr O k cap (l.take k) css ∧ Below w.heap.size w wr) (fun _ i _ => n - (intOf i).toNat)
  case atStart => exact ⟨0, some ⟨w.heap.size, 0, none⟩, 0, [], Nat.zero_le _, rfl, rfl, ⟨RowIn.of_own (own_empty w _ _ (Nat.le_refl _)), SubsIn.nil, (fun _ h => by cases h), rfl⟩, (Below.refl _ _).alloc (Nat.le_refl _) _⟩
  case round =>
    obtain ⟨k, O, cap, css, hk, rfl, rfl, hrow, hb⟩ := hrel
    by_cases hlt : k < n
    · obtain ⟨b, off, rfl, hbl, hc⟩ := h.at_ (by omega)
      obtain ⟨hp0, A', n', c', hc0, hat, hcap⟩ := hc k hlt
      have hpk := (hb.cell (p := ⟨b, off + k * 2, none⟩) hbl).trans hp0
      have hck := (hb.cell (p := ⟨b, off + k * 2 + 1, none⟩) hbl).trans hc0
      clear hc hc0 hp0
      have hek := hel k
      unfold entSz at hek
      have HN := Lib.hid hat.nn
      have hn4 : n' ≤ 1048577 := by have := HN.out; unfold strsSz at hek; omega
      have hzw := hb.size
      have hlo : ∀ b, BlkOf O b → b < wr.heap.size := fun b hb' => (hrow.row.blk hb').2
      go_wp2
      go_region_held3 (fun w' => w'.cell? ⟨b, off + k * 2, none⟩ = some (.string (enAt l k).p) ∧ w'.cell? ⟨b, off + k * 2 + 1, none⟩ = some (.slice A' n' c') ∧ Below w.heap.size w w') (first | exact hnew | (have hh := ‹_ ∧ _›; exact ⟨keep_cell hbw hh.1, keep_cell hbw hh.2.1, bthen hh.2.2 hbw⟩) | (have hh := ‹_ ∧ _›; exact ⟨keep_alloc hh.1 _, keep_alloc hh.2.1 _, hh.2.2.alloc hh.2.2.size _⟩) | exact ⟨hpk, hck, hb.drew⟩ | (have hh := ‹_ ∧ _›; exact hh)) (first | (have hS0 := ‹_ ∧ _›; refine step_app (by rfl) (.tmp 18) (.tmp 23) 31 (by rfl) wr.heap.size 9 _ 1 16 Try.underlying31 infoString rfl (by omega) (.slice (some ⟨wr.heap.size, 0, none⟩) 0 0) 0 [] (by rfl) (own_empty' wr _ _ (Nat.le_refl _)) A' n' c' ((enAt l k).ch.map Value.string) (by rfl) (hat.keep hS0.2.2).cells (strs_one _) hcap (by unfold maxLen; omega) (by omega) (by simp) ?_; intro B d w2 hown2 hg2 hb2 hob2; simp only [Nat.zero_add, List.nil_append] at hown2 hob2 ⊢; have hbw : Below wr.heap.size wr w2 := (((Below.refl _ _).drew).alloc (Nat.le_refl _) _).trans hb2; have hrow2 := hrow.keep elemEnt hbw; have hz2 := hbw.size; have hnew := (⟨keep_cell hbw hpk, keep_cell hbw hck, bthen hb hbw⟩ : _ ∧ _ ∧ _); clear hS0) | (have hS0 := ‹_ ∧ _›; refine step_app (by rfl) (.tmp 12) (.tmp 26) 24 (by rfl) w.heap.size 33 _ 2 40 Try.underlying24 infoEntry rfl (by omega) (.slice O k cap) k css.flatten (by rfl) (hrow2.keep elemEnt ((Below.refl _ _).alloc (Nat.le_refl _) _)).row.own (some ⟨w2.heap.size, 0, none⟩) 1 1 [.string (enAt l k).p, .slice B n' d] (by rfl) (new2 w2 _ _ _) (by simp [Value.oneCell']) (fun h => by cases h) (by unfold maxLen; omega) (by omega) hS0.2.2.size ?_; intro Q5 c5 w5 hown5 hg5 hb5 hob5; clear hnew; have hbz : Below w.heap.size w w5 := hS0.2.2.trans hb5; have hnew := (⟨(hbz.cell (p := ⟨b, off + k * 2, none⟩) hbl).trans ((hb.cell (p := ⟨b, off + k * 2, none⟩) hbl).symm.trans hpk), (hbz.cell (p := ⟨b, off + k * 2 + 1, none⟩) hbl).trans ((hb.cell (p := ⟨b, off + k * 2 + 1, none⟩) hbl).symm.trans hck), hbz⟩ : _ ∧ _ ∧ _); clear hS0) | fail)
      go_wp2
      have ho2 : StrsIn wr.heap.size w2.heap.size w2 B n' d (enAt l k).ch := ⟨RowIn.of_own hown2⟩
      have al3 := (Below.refl w2.heap.size w2).alloc (Nat.le_refl _) (.cells #[.string (enAt l k).p, .slice B n' d] 33)
      have hz3 := al3.size
      have hkl : k < l.length := by have := HL.out; omega
      have hr3 := (hrow2.keep elemEnt al3).wide elemEnt (Nat.le_refl _) (show wr.heap.size ≤ (w2.alloc (.cells #[.string (enAt l k).p, .slice B n' d] 33)).heap.size by omega)
      have happ := hr3.app elemEnt (cs := [.string (enAt l k).p, .slice B n' d]) (x := enAt l k) ⟨B, n', d, rfl, (ho2.keep al3).wide hzw hz3⟩ (fun cs' h' b h1 h2 => by
        have q1 := (hrow2.subs.leads elemEnt h' h1).1
        have q2 := (ho2.row.blk (blk_of (leads2 h2))).1
        unfold Iv at q1 q2; omega) (fun b h1 h2 => by
        have q1 := hlo b h2
        have q2 := (ho2.row.blk (blk_of (leads2 h1))).1
        unfold Iv at q2; omega) hown5 hg5 hob5 (Nat.le_refl _)
      rw [show l.take k ++ [enAt l k] = l.take (k + 1) by rw [take_snoc2 l k hkl, enAt_get hkl]] at happ
      exact ⟨⟨k + 1, Q5, c5, _, by omega, by go_num, rfl, happ, hnew.2.2⟩, by simp [intOf]; omega⟩
    · go_wp2
      go_returns
      have hkn : k = n := by omega
      subst hkn
      have ht : l.take k = l := List.take_of_length_le (by have := HL.out; omega)
      rw [ht] at hrow
      exact ⟨O, k, cap, rfl, ⟨css, hrow⟩, hb⟩
theorem l30Copy_spec (A : Option Addr) (n c : Nat) (l : List Ent) (w : World) (h : EntsAt w A n l) (hs : entsSz l ≤ 1048576) :
    Calls Try.prog 48 #[.slice A n c] w (EntsR l w) := l30Copy_spec1 A n c l w h (by omega)
end Go.Proofs.Ytbijkdpifnncmaa
/- Contracts of split and of the reference's l30Cut; words; paths. -/
namespace Go.Proofs.Ytbijkdpifnncmaa
open Go.RowKit

/-- behind i bytes: where the part begins, and the parts before it -/
def splitTo (s : ByteArray) (c : Nat) : Nat → Nat × List ByteArray
  | 0 => (0, [])
  | i + 1 => if bAt s i = c then (i + 1, (splitTo s c i).2 ++ [s.extract (splitTo s c i).1 i]) else splitTo s c i
def splitS (s : ByteArray) (c : Nat) : List ByteArray := (splitTo s c s.size).2 ++ [s.extract (splitTo s c s.size).1 s.size]
theorem splitTo_le (s : ByteArray) (c i : Nat) : (splitTo s c i).1 ≤ i ∧ (splitTo s c i).2.length ≤ i := by
  induction i with
  | zero => simp [splitTo]
  | succ i ih =>
    rw [splitTo]
    split
    · simp; omega
    · omega
theorem splitS_len (s : ByteArray) (c : Nat) : 1 ≤ (splitS s c).length ∧ (splitS s c).length ≤ s.size + 1 := by
  have := splitTo_le s c s.size
  simp [splitS]; omega

set_option maxHeartbeats 400000 in
theorem split_impl (s : ByteArray) (c : Nat) (w : World) (hs : s.size ≤ 4294967296) :
    Calls Try.prog 52 #[.string s, .int .u8 c] w fun e w' => ∃ A n cap, e = .returned (.slice A n cap) ∧ w'.ownsRow w.heap.size 9 1 (.slice A n cap) n ((splitS s c).map Value.string) ∧ Below w.heap.size w w' := by
  go_enter Try.func52, Try.ntmps52
  go_wp2
  go_loopw [5, 6, 7] (fun o f i wr => ∃ (k : Nat) (A : Option Addr) (cap : Nat), k ≤ s.size ∧ i = .int .i64 k ∧ f = .int .i64 (splitTo s c k).1 ∧ o = .slice A (splitTo s c k).2.length cap ∧
      wr.ownsRow w.heap.size 9 1 (.slice A (splitTo s c k).2.length cap) (splitTo s c k).2.length ((splitTo s c k).2.map Value.string) ∧ Below w.heap.size w wr) (fun _ _ i _ => s.size - (intOf i).toNat)
  case atStart => exact ⟨0, _, _, Nat.zero_le _, rfl, rfl, rfl, own_empty w _ _ (Nat.le_refl _), by go_grown⟩
  case round =>
    obtain ⟨k, A, cap, hk, rfl, rfl, rfl, hown, hb⟩ := hrel
    obtain ⟨hle1, hle2⟩ := splitTo_le s c k
    by_cases hlt : k < s.size
    · have hbt := bAt_get hlt
      have hbl := bAt_lt s k
      by_cases hq : bAt s k = c
      · have hq' : ((bAt s k : Nat) : Int) == (c : Int) := by simp [hq]
        have hsp : splitTo s c (k + 1) = (k + 1, (splitTo s c k).2 ++ [s.extract (splitTo s c k).1 k]) := by rw [splitTo, if_pos hq]
        have HSP := Lib.hid hsp; clear hsp hq
        go_wp2_with (at_builtin; refine wpList_app1 (P := Try.prog) wr rfl (.tmp 20) (.tmp 25) 31 rfl w.heap.size 9 _ 1 16 Try.underlying31 infoString rfl (by omega) (.slice A _ cap) _ _ rfl hown #[.string (s.extract (splitTo s c k).1 k)] rfl rfl (by simp [Value.oneCell']) (by unfold maxLen; omega) (by omega) hb.size ?_; intro A' c' w1 hown1 hg1 hb1 _)
        refine ⟨⟨k + 1, A', c', by omega, by go_num, ?_⟩, by simp [intOf]; omega⟩
        rw [HSP.out]
        exact ⟨by go_num, by simp, by simpa using hown1, hb.trans hb1⟩
      · have hq' : (((bAt s k : Nat) : Int) == (c : Int)) = false := by simp; omega
        have hsp : splitTo s c (k + 1) = splitTo s c k := by rw [splitTo, if_neg hq]
        have HSP := Lib.hid hsp; clear hsp hq
        go_wp2
        refine ⟨⟨k + 1, A, cap, by omega, by go_num, ?_⟩, by simp [intOf]; omega⟩
        rw [HSP.out]
        exact ⟨rfl, rfl, hown, hb⟩
    · obtain rfl : k = s.size := by omega
      go_wp2_with (at_builtin; refine wpList_app1 (P := Try.prog) wr rfl (.tmp 29) (.tmp 33) 31 rfl w.heap.size 9 _ 1 16 Try.underlying31 infoString rfl (by omega) (.slice A _ cap) _ _ rfl hown #[.string (s.extract (splitTo s c s.size).1 s.size)] rfl rfl (by simp [Value.oneCell']) (by unfold maxLen; omega) (by omega) hb.size ?_; intro A' c' w1 hown1 hg1 hb1 _)
      go_returns
      refine ⟨A', _, c', rfl, ?_, hb.trans hb1⟩
      simpa [splitS] using hown1

set_option maxHeartbeats 400000 in
theorem l30Cut_spec (s : ByteArray) (w : World) (hs : s.size ≤ 4294967296) :
    Calls Try.prog 55 #[.string s] w fun e w' => ∃ A n cap, e = .returned (.slice A n cap) ∧ w'.ownsRow w.heap.size 9 1 (.slice A n cap) n ((splitS s 47).map Value.string) ∧ Below w.heap.size w w' := by
  go_enter Try.func55, Try.ntmps55
  go_wp2
  go_loopw [3, 4, 5] (fun o f i wr => ∃ (k : Nat) (A : Option Addr) (cap : Nat), k ≤ s.size ∧ i = .int .i64 k ∧ f = .int .i64 (splitTo s 47 k).1 ∧ o = .slice A (splitTo s 47 k).2.length cap ∧
      wr.ownsRow w.heap.size 9 1 (.slice A (splitTo s 47 k).2.length cap) (splitTo s 47 k).2.length ((splitTo s 47 k).2.map Value.string) ∧ Below w.heap.size w wr) (fun _ _ i _ => s.size - (intOf i).toNat)
  case atStart => exact ⟨0, _, _, Nat.zero_le _, rfl, rfl, rfl, own_empty w _ _ (Nat.le_refl _), by go_grown⟩
  case round =>
    obtain ⟨k, A, cap, hk, rfl, rfl, rfl, hown, hb⟩ := hrel
    obtain ⟨hle1, hle2⟩ := splitTo_le s 47 k
    by_cases hlt : k < s.size
    · have hbt := bAt_get hlt
      have hbl := bAt_lt s k
      by_cases hq : bAt s k = 47
      · have hq' : ((bAt s k : Nat) : Int) == (47 : Int) := by simp [hq]
        have hsp : splitTo s 47 (k + 1) = (k + 1, (splitTo s 47 k).2 ++ [s.extract (splitTo s 47 k).1 k]) := by rw [splitTo, if_pos hq]
        have HSP := Lib.hid hsp; clear hsp hq
        go_wp2_with (at_builtin; refine wpList_app1 (P := Try.prog) wr rfl (.tmp 17) (.tmp 22) 31 rfl w.heap.size 9 _ 1 16 Try.underlying31 infoString rfl (by omega) (.slice A _ cap) _ _ rfl hown #[.string (s.extract (splitTo s 47 k).1 k)] rfl rfl (by simp [Value.oneCell']) (by unfold maxLen; omega) (by omega) hb.size ?_; intro A' c' w1 hown1 hg1 hb1 _)
        refine ⟨⟨k + 1, A', c', by omega, by go_num, ?_⟩, by simp [intOf]; omega⟩
        rw [HSP.out]
        exact ⟨by go_num, by simp, by simpa using hown1, hb.trans hb1⟩
      · have hq' : (((bAt s k : Nat) : Int) == (47 : Int)) = false := by simp; omega
        have hsp : splitTo s 47 (k + 1) = splitTo s 47 k := by rw [splitTo, if_neg hq]
        have HSP := Lib.hid hsp; clear hsp hq
        go_wp2
        refine ⟨⟨k + 1, A, cap, by omega, by go_num, ?_⟩, by simp [intOf]; omega⟩
        rw [HSP.out]
        exact ⟨rfl, rfl, hown, hb⟩
    · obtain rfl : k = s.size := by omega
      go_wp2_with (at_builtin; refine wpList_app1 (P := Try.prog) wr rfl (.tmp 26) (.tmp 30) 31 rfl w.heap.size 9 _ 1 16 Try.underlying31 infoString rfl (by omega) (.slice A _ cap) _ _ rfl hown #[.string (s.extract (splitTo s 47 s.size).1 s.size)] rfl rfl (by simp [Value.oneCell']) (by unfold maxLen; omega) (by omega) hb.size ?_; intro A' c' w1 hown1 hg1 hb1 _)
      go_returns
      refine ⟨A', _, c', rfl, ?_, hb.trans hb1⟩
      simpa [splitS] using hown1

/-- one to eight letters -/
def wordB (s : ByteArray) : Bool := inB s.size 1 8 && (List.range s.size).all (fun i => inB (bAt s i) 97 122)
theorem wordB_no {s : ByteArray} {k : Nat} (hk : k < s.size) (h : inB (bAt s k) 97 122 = false) : wordB s = false := by
  unfold wordB; rw [all_no hk h, Bool.and_false]
theorem wordB_all {s : ByteArray} (h : ∀ j, j < s.size → inB (bAt s j) 97 122 = true) : wordB s = inB s.size 1 8 := by
  unfold wordB; rw [all_yes h, Bool.and_true]
theorem inB_no {x lo hi : Int} (h : x < lo ∨ hi < x) : inB x lo hi = false := by simp [inB]; omega
theorem inB_yes {x lo hi : Int} (h1 : lo ≤ x) (h2 : x ≤ hi) : inB x lo hi = true := by simp [inB, h1, h2]

theorem isWord_impl (s : ByteArray) (w : World) (hs : s.size ≤ 9223372036854775807) :
    Calls Try.prog 57 #[.string s] w fun e w' => e = .returned (.bool (wordB s)) ∧ w = w' := by
  go_enter Try.func57, Try.ntmps57
  go_wp2
  go_loop [3] (fun i => ∃ k : Nat, k ≤ s.size ∧ i = .int .i64 k ∧ ∀ j, j < k → inB (bAt s j) 97 122 = true) (fun i => s.size - (intOf i).toNat)
  case atStart => exact ⟨0, Nat.zero_le _, rfl, fun j hj => absurd hj (by omega)⟩
  case round =>
    obtain ⟨k, hk, rfl, hall⟩ := hrel
    have HA := Lib.hid hall; clear hall
    by_cases hlt : k < s.size
    · have hbt := bAt_get hlt
      have hbl := bAt_lt s k
      by_cases h1 : bAt s k < 97
      · go_wp2
        go_returns
        exact ⟨ret_bool (wordB_no hlt (inB_no (by omega))).symm, rfl⟩
      · by_cases h2 : 122 < bAt s k
        · go_wp2
          go_returns
          exact ⟨ret_bool (wordB_no hlt (inB_no (by omega))).symm, rfl⟩
        · go_wp2
          exact ⟨⟨k + 1, by omega, by go_num, upto_succ HA.out (inB_yes (by omega) (by omega))⟩, by simp [intOf]; omega⟩
    · go_wp2_with (go_at_call 64; refine (within_any _ _ _ _).mono ?_; rintro e w' ⟨rfl, rfl⟩)
      go_returns
      exact ⟨ret_bool (by rw [wordB_all (fun j hj => HA.out j (by omega))]), rfl⟩

theorem l4Word_spec (s : ByteArray) (w : World) (hs : s.size ≤ 9223372036854775807) :
    Calls Try.prog 58 #[.string s] w fun e w' => e = .returned (.bool (wordB s)) ∧ w = w' := by
  by_cases h0 : inB s.size 1 8 = true
  · go_enter Try.func58, Try.ntmps58
    go_wp2_with (first | (go_at_call 69; refine (l1In_any _ _ _ _).mono ?_; rintro e w' ⟨rfl, rfl⟩))
    go_loop [3] (fun i => ∃ k : Nat, k ≤ s.size ∧ i = .int .i64 k ∧ ∀ j, j < k → inB (bAt s j) 97 122 = true) (fun i => s.size - (intOf i).toNat)
    case atStart => exact ⟨0, Nat.zero_le _, rfl, fun j hj => absurd hj (by omega)⟩
    case round =>
      obtain ⟨k, hk, rfl, hall⟩ := hrel
      have HA := Lib.hid hall; clear hall
      by_cases hlt : k < s.size
      · have hbt := bAt_get hlt
        have hbl := bAt_lt s k
        by_cases h1 : bAt s k < 97
        · go_wp2
          go_returns
          exact ⟨ret_bool (wordB_no hlt (inB_no (by omega))).symm, rfl⟩
        · by_cases h2 : 122 < bAt s k
          · go_wp2
            go_returns
            exact ⟨ret_bool (wordB_no hlt (inB_no (by omega))).symm, rfl⟩
          · go_wp2
            exact ⟨⟨k + 1, by omega, by go_num, upto_succ HA.out (inB_yes (by omega) (by omega))⟩, by simp [intOf]; omega⟩
      · go_wp2
        go_returns
        exact ⟨ret_bool (by rw [wordB_all (fun j hj => HA.out j (by omega)), h0]), rfl⟩
  · go_enter Try.func58, Try.ntmps58
    go_wp2_with (first | (go_at_call 69; refine (l1In_any _ _ _ _).mono ?_; rintro e w' ⟨rfl, rfl⟩))
    go_returns
    refine ⟨ret_bool ?_, rfl⟩
    unfold wordB; simp [h0]

def pathOkB (p : ByteArray) : Bool := (List.range (splitS p 47).length).all (fun i => wordB (sAt (splitS p 47) i)) && decide ((splitS p 47).length ≤ 3)
theorem pathOkB_no {p : ByteArray} {k : Nat} (hk : k < (splitS p 47).length) (h : wordB (sAt (splitS p 47) k) = false) : pathOkB p = false := by
  unfold pathOkB; rw [all_no hk h, Bool.false_and]
theorem pathOkB_all {p : ByteArray} (h : ∀ j, j < (splitS p 47).length → wordB (sAt (splitS p 47) j) = true) : pathOkB p = decide ((splitS p 47).length ≤ 3) := by
  unfold pathOkB; rw [all_yes h, Bool.true_and]
theorem sAt_splitS_size (s : ByteArray) (c k : Nat) : (sAt (splitS s c) k).size ≤ s.size := by
  have h : ∀ x ∈ splitS s c, x.size ≤ s.size := by
    have h2 : ∀ i, i ≤ s.size → ∀ x ∈ (splitTo s c i).2, x.size ≤ s.size := by
      intro i
      induction i with
      | zero => simp [splitTo]
      | succ i ih =>
        intro hi x hx
        rw [splitTo] at hx
        split at hx
        · rcases List.mem_append.1 hx with h | h
          · exact ih (by omega) x h
          · simp at h; subst h; simp [ByteArray.size_extract]; omega
        · exact ih (by omega) x hx
    intro x hx
    rcases List.mem_append.1 hx with h | h
    · exact h2 _ (Nat.le_refl _) x h
    · simp at h; subst h; simp [ByteArray.size_extract]
  rcases Nat.lt_or_ge k (splitS s c).length with hk | hk
  · rw [sAt_get hk]; exact h _ (List.getElem_mem hk)
  · simp [sAt, hk]

theorem pathOk_impl (p : ByteArray) (w : World) (hs : p.size ≤ 4294967296) :
    Calls Try.prog 23 #[.string p] w fun e w' => e = .returned (.bool (pathOkB p)) ∧ Below w.heap.size w w' := by
  go_enter Try.func23, Try.ntmps23
  go_wp2_with fail
  refine (split_impl p 47 _ hs).mono ?_
  rintro e w1 ⟨A, n, cap, rfl, hown, hb1⟩
  have hsa := StrsAt.of_own hown
  have hL := hsa.1
  have hLe := (splitS_len p 47).2
  have HL := Lib.hid hL; clear hL
  have hn : n ≤ 4294967297 := by have := HL.out; omega
  clear hown
  go_wp2
  go_loop [10] (fun i => ∃ k : Nat, k ≤ n ∧ i = .int .i64 k ∧ ∀ j, j < k → wordB (sAt (splitS p 47) j) = true) (fun i => n - (intOf i).toNat)
  case atStart => exact ⟨0, Nat.zero_le _, rfl, fun j hj => absurd hj (by omega)⟩
  case round =>
    obtain ⟨k, hk, rfl, hall⟩ := hrel
    have HA := Lib.hid hall; clear hall
    by_cases hlt : k < n
    · obtain ⟨b, off, rfl, hbl, hc⟩ := hsa.at_ (by omega)
      have hck := hc k hlt
      clear hc
      have hsz := sAt_splitS_size p 47 k
      cases hw : wordB (sAt (splitS p 47) k) with
      | true =>
        go_wp2_with (go_at_call 57; refine (isWord_impl _ _ (by omega)).mono ?_; rintro e w' ⟨rfl, rfl⟩)
        exact ⟨⟨k + 1, by omega, by go_num, upto_succ HA.out hw⟩, by simp [intOf]; omega⟩
      | false =>
        go_wp2_with (go_at_call 57; refine (isWord_impl _ _ (by omega)).mono ?_; rintro e w' ⟨rfl, rfl⟩)
        go_returns
        exact ⟨ret_bool (pathOkB_no (by have := HL.out; omega) hw).symm, hb1⟩
    · go_wp2
      go_returns
      refine ⟨ret_bool ?_, hb1⟩
      rw [pathOkB_all (fun j hj => HA.out j (by have := HL.out; omega)), ← HL.out]
      simp; omega

theorem pathOk_spec (p : ByteArray) (w : World) (hs : p.size ≤ 4294967296) :
    Calls Try.prog 24 #[.string p] w fun e w' => e = .returned (.bool (pathOkB p)) ∧ Below w.heap.size w w' := by
  go_enter Try.func24, Try.ntmps24
  go_wp2_with fail
  refine (l30Cut_spec p _ hs).mono ?_
  rintro e w1 ⟨A, n, cap, rfl, hown, hb1⟩
  have hsa := StrsAt.of_own hown
  have hL := hsa.1
  have hLe := (splitS_len p 47).2
  have HL := Lib.hid hL; clear hL
  have hn : n ≤ 4294967297 := by have := HL.out; omega
  clear hown
  go_wp2
  go_loop [4] (fun i => ∃ k : Nat, k ≤ n ∧ i = .int .i64 k ∧ ∀ j, j < k → wordB (sAt (splitS p 47) j) = true) (fun i => n - (intOf i).toNat)
  case atStart => exact ⟨0, Nat.zero_le _, rfl, fun j hj => absurd hj (by omega)⟩
  case round =>
    obtain ⟨k, hk, rfl, hall⟩ := hrel
    have HA := Lib.hid hall; clear hall
    by_cases hlt : k < n
    · obtain ⟨b, off, rfl, hbl, hc⟩ := hsa.at_ (by omega)
      have hck := hc k hlt
      clear hc
      have hsz := sAt_splitS_size p 47 k
      cases hw : wordB (sAt (splitS p 47) k) with
      | true =>
        go_wp2_with (go_at_call 58; refine (l4Word_spec _ _ (by omega)).mono ?_; rintro e w' ⟨rfl, rfl⟩)
        exact ⟨⟨k + 1, by omega, by go_num, upto_succ HA.out hw⟩, by simp [intOf]; omega⟩
      | false =>
        go_wp2_with (go_at_call 58; refine (l4Word_spec _ _ (by omega)).mono ?_; rintro e w' ⟨rfl, rfl⟩)
        go_returns
        exact ⟨ret_bool (pathOkB_no (by have := HL.out; omega) hw).symm, hb1⟩
    · go_wp2
      go_returns
      refine ⟨ret_bool ?_, hb1⟩
      rw [pathOkB_all (fun j hj => HA.out j (by have := HL.out; omega)), ← HL.out]
      simp; omega
end Go.Proofs.Ytbijkdpifnncmaa
/- Contracts of begins, l30Under, areChunks; paths below paths. -/
namespace Go.Proofs.Ytbijkdpifnncmaa
open Go.RowKit

def beginsB (p q : ByteArray) : Bool := decide (q.size ≤ p.size) && decide (p.extract 0 q.size = q)
def underB (p d : ByteArray) : Bool := decide (d.size < p.size) && decide (p.extract 0 d.size = d) && decide (bAt p d.size = 47)
def slash (d : ByteArray) : ByteArray := d ++ ⟨#[47]⟩
theorem slash_size (d : ByteArray) : (slash d).size = d.size + 1 := by simp [slash, ByteArray.size_append]; rfl
theorem ext_list (p : ByteArray) (k : Nat) : (p.extract 0 k).data.toList = p.data.toList.take k := by simp [ByteArray.data_extract]
theorem app_list (a b : ByteArray) : (a ++ b).data.toList = a.data.toList ++ b.data.toList := by simp [ByteArray.data_append]
theorem ba_ext {a b : ByteArray} (h : a.data.toList = b.data.toList) : a = b := by
  have h1 : a.data = b.data := Array.toList_inj.1 h
  cases a; cases b; simp_all
theorem begins_slash (p d : ByteArray) : beginsB p (slash d) = underB p d := by
  have hl : d.data.toList.length = d.size := by rw [Array.length_toList]; rfl
  have hp : p.data.toList.length = p.size := by rw [Array.length_toList]; rfl
  unfold beginsB underB
  rw [slash_size]
  by_cases h : d.size < p.size
  · have hb : bAt p d.size = (p[d.size]'h).toNat := (bAt_get h).symm
    have e1 : (p.extract 0 (d.size + 1) = slash d) ↔ (p.extract 0 d.size = d ∧ p[d.size]'h = 47) := by
      have ht : p.data.toList.take (d.size + 1) = p.data.toList.take d.size ++ [p[d.size]'h] := by
        rw [List.take_succ_eq_append_getElem (by omega)]; rfl
      constructor
      · intro he
        have h1 := congrArg (fun s : ByteArray => s.data.toList) he
        simp only [ext_list, slash, app_list] at h1
        rw [ht] at h1
        obtain ⟨h2, h3⟩ := List.append_inj h1 (by rw [List.length_take]; omega)
        refine ⟨ba_ext (by rw [ext_list]; exact h2), ?_⟩
        simpa using h3
      · rintro ⟨h2, h3⟩
        apply ba_ext
        rw [ext_list, slash, app_list, ht, h3, ← ext_list, h2]
    simp only [e1, hb]
    have e2 : (p[d.size]'h = 47) ↔ ((p[d.size]'h).toNat = 47) := by
      rw [← UInt8.toNat_inj]; rfl
    rw [Bool.eq_iff_iff]; simp [e2, h]; omega
  · rw [Bool.eq_iff_iff]; simp; omega

theorem begins_any (p q : ByteArray) (w : World) (hp : p.size ≤ 9223372036854775807) (hq : q.size ≤ 9223372036854775807) :
    Calls Try.prog 51 #[.string p, .string q] w fun e w' => e = .returned (.bool (beginsB p q)) ∧ w = w' := by
  by_cases h : q.size ≤ p.size
  · have HB := Lib.hid (show beginsB p q = ((p.extract 0 q.size).toList == q.toList) by unfold beginsB; rw [str_beq]; simp [h])
    go_enter Try.func51, Try.ntmps51
    go_wp2
    go_returns
    exact ⟨by rw [HB.out]; rfl, rfl⟩
  · have HB := Lib.hid (show beginsB p q = false by unfold beginsB; simp [h])
    have g1 : decide ((q.size : Int) ≤ p.size) = false := by simp; omega
    go_enter Try.func51, Try.ntmps51
    go_wp2
    go_returns
    exact ⟨by rw [HB.out]; rfl, rfl⟩

theorem l30Under_any (p q : ByteArray) (w : World) (hp : p.size ≤ 9223372036854775807) (hq : q.size ≤ 9223372036854775807) :
    Calls Try.prog 41 #[.string p, .string q] w fun e w' => e = .returned (.bool (underB p q)) ∧ w = w' := by
  by_cases h : q.size < p.size
  · have hb := bAt_get h
    by_cases h2 : p.extract 0 q.size = q
    · have g2 : ((p.extract 0 q.size).toList == q.toList) = true := by rw [str_beq]; simp [h2]
      have HB := Lib.hid (show underB p q = decide (bAt p q.size = 47) by unfold underB; simp [h, h2])
      clear h2
      go_enter Try.func41, Try.ntmps41
      go_wp2
      go_returns
      refine ⟨?_, rfl⟩
      rw [HB.out]
      exact ret_bool (a := (((bAt p q.size : Nat) : Int) == 47)) (by rw [Bool.eq_iff_iff]; simp; omega)
    · have g2 : ((p.extract 0 q.size).toList == q.toList) = false := by rw [str_beq]; simp [h2]
      have HB := Lib.hid (show underB p q = false by unfold underB; simp [h2])
      clear h2
      go_enter Try.func41, Try.ntmps41
      go_wp2
      go_returns
      exact ⟨by rw [HB.out]; rfl, rfl⟩
  · have HB := Lib.hid (show underB p q = false by unfold underB; simp [h])
    have g1 : decide ((q.size : Int) < p.size) = false := by simp; omega
    go_enter Try.func41, Try.ntmps41
    go_wp2
    go_returns
    exact ⟨by rw [HB.out]; rfl, rfl⟩

/-- all texts have 8 bytes -/
def all8 (l : List ByteArray) : Bool := (List.range l.length).all (fun i => decide ((sAt l i).size = 8))
theorem areChunks_any (A : Option Addr) (n c : Nat) (l : List ByteArray) (w : World) (h : StrsAt w A n l) (hn : n ≤ 9223372036854775807) :
    Calls Try.prog 61 #[.slice A n c] w fun e w' => e = .returned (.bool (all8 l)) ∧ w = w' := by
  have HL := Lib.hid h.nn
  go_enter Try.func61, Try.ntmps61
  go_wp2
  go_loop [7] (fun i => ∃ k : Nat, k ≤ n ∧ i = .int .i64 k ∧ ∀ j, j < k → (sAt l j).size = 8) (fun i => n - (intOf i).toNat)
  case atStart => exact ⟨0, Nat.zero_le _, rfl, fun j hj => absurd hj (by omega)⟩
  case round =>
    obtain ⟨k, hk, rfl, hx⟩ := hrel
    have HX := Lib.hid hx; clear hx
    by_cases hlt : k < n
    · obtain ⟨b, off, rfl, hbl, hc⟩ := h.at_ (by omega)
      have hck := hc k hlt
      clear hc
      by_cases h8 : (sAt l k).size = 8
      · have g1 : ((((sAt l k).size : Nat) : Int) != 8) = false := by simp [h8]
        have H8 := Lib.hid h8; clear h8
        go_wp2
        refine ⟨⟨k + 1, by omega, by go_num, ?_⟩, by simp [intOf]; omega⟩
        intro j hj
        by_cases e : j = k
        · subst e; exact H8.out
        · exact HX.out j (by omega)
      · have g1 : ((((sAt l k).size : Nat) : Int) != 8) = true := by simp; omega
        have H8 := Lib.hid h8; clear h8
        go_wp2
        go_returns
        exact ⟨ret_bool (all_no (k := k) (by have := HL.out; omega) (by simpa using H8.out)).symm, rfl⟩
    · go_wp2
      go_returns
      exact ⟨ret_bool (all_yes (fun j hj => by simpa using HX.out j (by have := HL.out; omega))).symm, rfl⟩
end Go.Proofs.Ytbijkdpifnncmaa
