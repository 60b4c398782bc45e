/- Contract of the program's TreePut. -/
import Derived.Test.YtbijkdpifnncmaaInsert
import Derived.Test.YtbijkdpifnncmaaTreeDrop
import Derived.Test.YtbijkdpifnncmaaStrOrd
namespace Go.Proofs.Ytbijkdpifnncmaa
open Go.RowKit

/-! ### an element inserted into a row of rows -/
section
variable {α : Type} {F : Nat → Nat → World → List Value → α → Prop} {e sz lo hi n c m c' i : Nat} {w w' : World} {A A' : Option Addr} {css : List (List Value)} {l : List α} {cs : List Value} {x : α}
theorem SubsIn.ins (E : Elem F sz) (h : SubsIn F lo hi w css l) (hx : F lo hi w cs x) (hap : ∀ cs' ∈ css, Apart cs' cs) (hi' : i ≤ l.length) : SubsIn F lo hi w (css.take i ++ [cs] ++ css.drop i) (l.take i ++ [x] ++ l.drop i) := by
  have hl := h.len
  refine ⟨by simp [hl], fun k ck y hc hy => ?_, ?_⟩
  · have l1 : (css.take i).length = i := by rw [List.length_take]; omega
    have l2 : (l.take i).length = i := by rw [List.length_take]; omega
    rw [List.append_assoc, List.getElem?_append, l1] at hc
    rw [List.append_assoc, List.getElem?_append, l2] at hy
    by_cases c1 : k < i
    · rw [if_pos c1, List.getElem?_take_of_lt c1] at hc hy
      exact h.el k _ _ hc hy
    · rw [if_neg c1] at hc hy
      rcases hk : k - i with _ | j
      · rw [hk] at hc hy
        injection hc with hc; injection hy with hy; subst hc hy; exact hx
      · rw [hk] at hc hy
        simp only [List.singleton_append, List.getElem?_cons_succ, List.getElem?_drop] at hc hy
        exact h.el _ _ _ hc hy
  · have hp := h.apart
    rw [← List.take_append_drop i css, List.pairwise_append] at hp
    rw [List.append_assoc, List.pairwise_append]
    refine ⟨hp.1, List.pairwise_cons.2 ⟨fun b hb => (hap b (List.mem_of_mem_drop hb)).symm, hp.2.1⟩, fun a ha b hb => ?_⟩
    rcases List.mem_cons.1 hb with rfl | hb
    · exact hap a (List.mem_of_mem_take ha)
    · exact hp.2.2 a ha b hb
theorem RowsIn.ins (E : Elem F sz) (h : RowsIn F e sz lo w.heap.size w A n c l css) (hx : F lo w.heap.size w cs x) (hap : ∀ cs' ∈ css, Apart cs' cs) (hoff : ∀ b, Leads cs b → ¬ BlkOf A b) (hi' : i ≤ n)
    (hown : w'.ownsRow lo e sz (.slice A' (n + 1) c') (n + 1) ((css.take i ++ [cs] ++ css.drop i).flatten)) (hC : Ch (fun k => (Value.slice A n c).ownBlock = some k) w w')
    (hob : (Value.slice A' (n + 1) c').ownBlock = (Value.slice A n c).ownBlock ∨ (Value.slice A' (n + 1) c').ownBlock = some m) (hm : w.heap.size ≤ m) :
    RowsIn F e sz lo w'.heap.size w' A' (n + 1) c' (l.take i ++ [x] ++ l.drop i) (css.take i ++ [cs] ++ css.drop i) := by
  have hn := h.nl
  have hs := h.subs.ins E hx hap (show i ≤ l.length by omega)
  have hall : ∀ cs' ∈ css.take i ++ [cs] ++ css.drop i, ∀ b, Leads cs' b → ¬ BlkOf A b ∧ b < w.heap.size := fun cs' h' b hb => by
    rcases List.mem_append.1 h' with h' | h'
    · rcases List.mem_append.1 h' with h' | h'
      · exact ⟨h.off cs' (List.mem_of_mem_take h') b hb, (h.subs.leads E (List.mem_of_mem_take h') hb).2⟩
      · have : cs' = cs := by simpa using h'
        subst this
        exact ⟨hoff b hb, (E.leads hx hb).2⟩
    · exact ⟨h.off cs' (List.mem_of_mem_drop h') b hb, (h.subs.leads E (List.mem_of_mem_drop h') hb).2⟩
  refine ⟨RowIn.of_own hown, (hs.ch E hC (fun cs' h' b hb e => (hall cs' h' b hb).1 (blk_of e))).wide E (Nat.le_refl _) hC.size, fun cs' h' b hb hA => ?_, by simp; omega⟩
  have h1 := hall cs' h' b hb
  rcases hob with e1 | e1
  · exact h1.1 (blk_of (e1.symm.trans (blk_own' hA)))
  · have := Option.some.inj ((blk_own' (n := n + 1) (c := c') hA).symm.trans e1)
    omega
theorem flat_ins (h : ∀ cs ∈ css, cs.length = sz) (hi : i ≤ css.length) : (css.take i ++ [cs] ++ css.drop i).flatten = css.flatten.take (i * sz) ++ cs ++ css.flatten.drop (i * sz) := by
  have e1 : css.flatten = (css.take i).flatten ++ (css.drop i).flatten := by rw [← List.flatten_append, List.take_append_drop]
  have l1 : (css.take i).flatten.length = i * sz := by
    rw [flat_len (fun cs hc => h cs (List.mem_of_mem_take hc)), List.length_take, Nat.min_eq_left hi]
  rw [List.flatten_append, List.flatten_append, e1, ← l1, List.take_left, List.drop_left]
  simp
end

/-! ### the answer -/
def ltS (x y : ByteArray) : Bool := Op.bytesLess x.toList y.toList
theorem ltS_iff {x y : ByteArray} : ltS x y = true ↔ ltB x.toList y.toList := Iff.rfl
theorem ltS_irr (x : ByteArray) : ltS x x = false := by rw [Bool.eq_false_iff]; exact ltB_irr _
theorem ltS_trans {x y z : ByteArray} (h : ltS x y = true) (k : ltS y z = true) : ltS x z = true := ltB_trans h k
theorem ltS_tri {x y : ByteArray} (h : ltS x y = false) (k : ltS y x = false) : x = y := by
  have := ltB_tri (x := x.toList) (y := y.toList) (by intro hh; rw [show ltS x y = true from hh] at h; cases h) (by intro hh; rw [show ltS y x = true from hh] at k; cases k)
  rw [Lib.toList_data, Lib.toList_data] at this
  exact ByteArray.ext (Array.toList_inj.1 this)
/-- an entry put into a list -/
def insL (l : List Ent) (e : Ent) : List Ent := l.takeWhile (fun x => ltS x.p e.p) ++ e :: (l.dropWhile (fun x => ltS x.p e.p)).filter (fun x => !decide (x.p = e.p))
def putL (l : List Ent) (e : Ent) : List Ent := if treeOkB l = true then (if treeOkB (insL l e) = true then insL l e else l) else []
def putOk (l : List Ent) (e : Ent) : Bool := treeOkB l && treeOkB (insL l e)
theorem entsSz_app (a b : List Ent) : entsSz (a ++ b) = entsSz a + entsSz b := by simp [entsSz]; omega
theorem insL_sz (l : List Ent) (e : Ent) : entsSz (insL l e) ≤ entsSz l + 1 + entSz e := by
  have h1 := entsSz_filter (fun x => !decide (x.p = e.p)) (l.dropWhile (fun x => ltS x.p e.p))
  have h2 : entsSz l = entsSz (l.takeWhile (fun x => ltS x.p e.p)) + entsSz (l.dropWhile (fun x => ltS x.p e.p)) := by rw [← entsSz_app, List.takeWhile_append_dropWhile]
  unfold insL
  rw [entsSz_app, entsSz_cons]
  omega
theorem putL_sz (l : List Ent) (e : Ent) {m : Nat} (h : entsSz l + 1 + entSz e ≤ m) : entsSz (putL l e) ≤ m := by
  unfold putL
  split
  · split
    · exact Nat.le_trans (insL_sz l e) h
    · omega
  · simp [entsSz]
/-- the paths of a right tree rise -/
theorem tree_rise {l : List Ent} (h : treeOkB l = true) : l.Pairwise (fun x y => ltS x.p y.p = true) := by
  have hs : ∀ i, i + 1 < l.length → ltS (enAt l i).p (enAt l (i + 1)).p = true := fun i hi => by
    unfold treeOkB at h
    rw [Bool.and_eq_true, List.all_eq_true] at h
    have := h.2 (i + 1) (List.mem_range.2 hi)
    unfold entryAt at this
    simp only [Bool.and_eq_true, Bool.or_eq_true, decide_eq_true_eq, Nat.add_sub_cancel] at this
    rcases this.1.1.1.2 with h0 | h1
    · omega
    · exact h1
  clear h
  rw [List.pairwise_iff_getElem]
  intro i j hi hj hij
  have : ∀ d, ∀ (hd : i + d + 1 < l.length), ltS (enAt l i).p (enAt l (i + d + 1)).p = true := by
    intro d
    induction d with
    | zero => intro hd; exact hs i hd
    | succ d ih => intro hd; exact ltS_trans (ih (by omega)) (hs (i + d + 1) (by omega))
  have := this (j - i - 1) (by omega)
  rw [show i + (j - i - 1) + 1 = j by omega, enAt_get hi, enAt_get hj] at this
  exact this
theorem tw_all {p : Ent → Bool} {l : List Ent} {k : Nat} (hk : k ≤ l.length) (h : ∀ j, j < k → p (enAt l j) = true) (he : k < l.length → p (enAt l k) = false) : l.take k = l.takeWhile p ∧ l.drop k = l.dropWhile p := by
  induction l generalizing k with
  | nil => simp at hk; subst hk; simp
  | cons x l ih =>
    rcases k with _ | k
    · have h0 : p x = false := he (by simp)
      simp [List.takeWhile_cons, List.dropWhile_cons, h0]
    · have h0 : p x = true := h 0 (by omega)
      have := ih (k := k) (by simp at hk; omega) (fun j hj => h (j + 1) (by omega)) (fun hk2 => he (by simp; omega))
      simp [List.takeWhile_cons, List.dropWhile_cons, h0, this.1, this.2]
theorem tw_filter {l : List Ent} {e : Ent} (h : l.Pairwise (fun x y => ltS x.p y.p = true)) :
    (l.filter (fun x => !decide (x.p = e.p))).takeWhile (fun x => ltS x.p e.p) = l.takeWhile (fun x => ltS x.p e.p) ∧
    (l.filter (fun x => !decide (x.p = e.p))).dropWhile (fun x => ltS x.p e.p) = (l.dropWhile (fun x => ltS x.p e.p)).filter (fun x => !decide (x.p = e.p)) := by
  induction l with
  | nil => simp
  | cons x l ih =>
    rw [List.pairwise_cons] at h
    have ih := ih h.2
    by_cases hx : ltS x.p e.p = true
    · have hne : (!decide (x.p = e.p)) = true := by
        simp only [Bool.not_eq_true', decide_eq_false_iff_not]; intro hh; rw [hh, ltS_irr] at hx; cases hx
      simp only [List.filter_cons, hne, if_true, List.takeWhile_cons, List.dropWhile_cons, hx]
      exact ⟨by rw [ih.1], ih.2⟩
    · have hx' : ltS x.p e.p = false := by simpa using hx
      have hr : ∀ y ∈ l, ltS y.p e.p = false := fun y hy => by
        have h1 := h.1 y hy
        by_cases hc : ltS y.p e.p = true
        · rw [ltS_trans h1 hc] at hx'; cases hx'
        · simpa using hc
      have hf : ∀ y ∈ (x :: l).filter (fun x => !decide (x.p = e.p)), ltS y.p e.p = false := fun y hy => by
        rcases List.mem_cons.1 (List.mem_filter.1 hy).1 with rfl | hy
        · exact hx'
        · exact hr y hy
      have key : ∀ m : List Ent, (∀ y ∈ m, ltS y.p e.p = false) → m.takeWhile (fun x => ltS x.p e.p) = [] ∧ m.dropWhile (fun x => ltS x.p e.p) = m := fun m hm => by
        cases m with
        | nil => simp
        | cons y m => have := hm y (List.mem_cons_self ..); simp [List.takeWhile_cons, List.dropWhile_cons, this]
      have k1 := key _ hf
      have k2 := key (x :: l) (fun y hy => by rcases List.mem_cons.1 hy with rfl | hy; exact hx'; exact hr y hy)
      rw [k1.1, k1.2, k2.1, k2.2]
      exact ⟨rfl, rfl⟩
theorem ins_found {l l3 : List Ent} {e : Ent} {k : Nat} (hr : l.Pairwise (fun x y => ltS x.p y.p = true)) (h3 : l3 = l.filter (fun x => !decide (x.p = e.p))) (hk : k ≤ l3.length)
    (h : ∀ j, j < k → ltS (enAt l3 j).p e.p = true) (he : k < l3.length → ltS (enAt l3 k).p e.p = false) : l3.take k ++ [e] ++ l3.drop k = insL l e := by
  obtain ⟨h1, h2⟩ := tw_all (p := fun x => ltS x.p e.p) hk h he
  obtain ⟨f1, f2⟩ := tw_filter (e := e) hr
  rw [h1, h2, h3, f1, f2]
  unfold insL
  simp

attribute [local irreducible] StrsAt treeOkB
theorem put_fn (B : Nat) (q : ByteArray) : TestFn 45 B q (fun x => decide (x = q)) := by
  intro x A n c w hx hB
  have hlt := cell_lt hB
  have hne : B ≠ w.heap.size := by omega
  have hd := str_beq x q
  go_enter Try.func45, Try.ntmps45
  go_wp2
  go_returns
  exact ⟨rfl, by go_grown⟩

/-- entries and a truth value, the entries in memory of the call's own -/
def EntsBR (l : List Ent) (b : Bool) (w : World) (e : Ending) (w' : World) : Prop :=
  ∃ A n c, e = .returned (.tuple #[.slice A n c, .bool b]) ∧ EntsIn w.heap.size w'.heap.size w' A n c l ∧ Below w.heap.size w w'
theorem own_oneCell {css : List (List Value)} {l : List Ent} {lo hi : Nat} {w : World} (h : SubsIn FEnt lo hi w css l) : ∀ v ∈ css.flatten, v.oneCell' = true := fun v hv => by
  obtain ⟨cs, hcs, hv⟩ := List.mem_flatten.1 hv
  obtain ⟨x, A, n, c, rfl, _⟩ := h.mem hcs
  simp at hv
  rcases hv with rfl | rfl <;> rfl

set_option maxRecDepth 4000 in
set_option maxHeartbeats 1000000 in
theorem treePut_impl (A : Option Addr) (n c : Nat) (l : List Ent) (p : ByteArray) (Ae : Option Addr) (ne ce : Nat) (ch : List ByteArray) (w : World) (h : EntsAt w A n l) (hc : StrsAt w Ae ne ch) (hce : Ae = none → ce = 0) (hs : entsSz l + entSz ⟨p, ch⟩ ≤ 1048576) :
    Calls Try.prog 14 #[.slice A n c, .agg #[.string p, .slice Ae ne ce]] w (EntsBR (putL l ⟨p, ch⟩) (putOk l ⟨p, ch⟩) w) := by
  have HL := Lib.hid h.1
  have hsl : entsSz l ≤ 1048576 := by omega
  have hn := ents_n h hsl
  have al := fun o => (Below.refl w.heap.size w).alloc (Nat.le_refl _) o
  have hne : ne ≤ 1048576 := by have := hc.nn; unfold entSz strsSz at hs; simp only at hs; omega
  obtain ⟨t, ht⟩ : ∃ t, treeOkB l = t := ⟨_, rfl⟩
  have HQ := Lib.hid ht
  cases t
  · have HR := Lib.hid (show putL l ⟨p, ch⟩ = [] by simp [putL, ht])
    have HN := Lib.hid (show putOk l ⟨p, ch⟩ = false by simp [putOk, ht])
    clear ht
    rw [HR.out, HN.out]
    go_enter Try.func14, Try.ntmps14
    go_wp2_with fail
    refine (treeOk_impl _ _ _ l _ (h.keep (al _)) hsl).mono ?_
    rintro e w1 ⟨rfl, hb1⟩; rw [HQ.out]
    go_wp2
    go_returns
    exact ⟨none, 0, 0, rfl, EntsIn.nil, bthen (al _) hb1⟩
  · have HR := Lib.hid (show putL l ⟨p, ch⟩ = if treeOkB (insL l ⟨p, ch⟩) = true then insL l ⟨p, ch⟩ else l by simp [putL, ht])
    have HN := Lib.hid (show putOk l ⟨p, ch⟩ = treeOkB (insL l ⟨p, ch⟩) by simp [putOk, ht])
    have HRI := Lib.hid (tree_rise ht)
    clear ht
    go_enter Try.func14, Try.ntmps14
    go_wp2_with fail
    refine (treeOk_impl _ _ _ l _ (h.keep (al _)) hsl).mono ?_
    rintro e w1 ⟨rfl, hb1⟩; rw [HQ.out]
    have hb1w := bthen (al _) hb1
    have hB1 := keep_cell hb1 (show (w.alloc (.cells #[.string p, .slice Ae ne ce] 33)).cell? ⟨w.heap.size, 0, none⟩ = some (.string p) by simp [go_sem])
    have hC1 := keep_cell hb1 (show (w.alloc (.cells #[.string p, .slice Ae ne ce] 33)).cell? ⟨w.heap.size, 1, none⟩ = some (.slice Ae ne ce) by simp [go_sem])
    go_wp2_with fail
    refine (copyEntries_impl _ _ _ l _ (h.keep hb1w) hsl).mono ?_
    rintro e w2 ⟨A2, n2, c2, rfl, hin2, hb2⟩
    have hb2w := bthen hb1w hb2
    have hB2 := keep_cell hb2 hB1
    have hC2 := keep_cell hb2 hC1
    have hlt := cell_lt hB1
    go_wp2_with fail
    refine (del_any 45 w.heap.size p (fun x => decide (x = p)) (put_fn _ p) (fun _ _ => rfl) _ _ _ l _ _ _ hin2 hsl hB2 (fun hi => by unfold Iv at hi; omega) (Nat.le_refl _)).mono ?_
    rintro e w3 ⟨n3, rfl, hin3, hch3⟩
    have hB3 := ch_cell hch3 hB2 (.inl (by omega))
    have hC3 := ch_cell hch3 hC2 (.inl (by omega))
    have hz1 := hb1w.size
    have hb3 : Below w.heap.size w w3 := hb2w.trans (hch3.below (fun k hk => by unfold Iv at hk; omega) hb2w.size)
    have hin3' := hin3.wide (Nat.le_refl _) hch3.size
    have hz13 : w1.heap.size ≤ w3.heap.size := Nat.le_trans hb2.size hch3.size
    clear hin3 hin2 hB1 hB2 hC1 hC2 hch3 hb2
    obtain ⟨l3, hl3⟩ : ∃ l3, l.filter (fun x => !decide (x.p = p)) = l3 := ⟨_, rfl⟩
    rw [hl3] at hin3'
    have HL3 := Lib.hid hl3
    have hs3 : entsSz l3 ≤ 1048576 := by rw [← hl3]; exact Nat.le_trans (entsSz_filter _ _) hsl
    clear hl3
    have HN3 := Lib.hid hin3'.len
    have hn3 := ents_n hin3'.at_ hs3
    have hat3 := hin3'.at_
    go_wp2
    go_loopw [7] (fun i wr => ∃ k : Nat, k ≤ n3 ∧ i = .int .i64 k ∧ (∀ j, j < k → ltS (enAt l3 j).p p = true) ∧ Below w3.heap.size w3 wr) (fun i _ => n3 - (intOf i).toNat)
    case atStart => exact ⟨0, Nat.zero_le _, rfl, fun j hj => absurd hj (by omega), Below.refl _ _⟩
    case round =>
      obtain ⟨k, hk, rfl, hall, hb⟩ := hrel
      have HA := Lib.hid hall; clear hall
      have hBr := keep_cell hb hB3
      have hCr := keep_cell hb hC3
      by_cases hgo : k < n3 ∧ ltS (enAt l3 k).p p = true
      · obtain ⟨hlt3, hq⟩ := hgo
        obtain ⟨b, off, rfl, hbl, hcc⟩ := hat3.at_ (by omega)
        have hpk := (hb.cell (p := ⟨b, off + k * 2, none⟩) hbl).trans (hcc k hlt3).1
        clear hcc
        have HQ2 := Lib.hid hq
        unfold ltS at hq
        have gd : decide ((k : Int) < n3) = true := by simp; omega
        go_wp2
        go_quiet (fail)
        go_wp2
        refine ⟨⟨k + 1, by omega, by go_num, ?_, below_drewN hb _⟩, by simp [intOf]; omega⟩
        intro j hj
        by_cases e1 : j = k
        · subst e1; exact HQ2.out
        · exact HA.out j (by omega)
      · have HEX := Lib.hid (show k < l3.length → ltS (enAt l3 k).p p = false from fun hk3 => by
          by_cases hq : ltS (enAt l3 k).p p = true
          · exact absurd ⟨by have := HN3.out; omega, hq⟩ hgo
          · simpa using hq)
        clear hgo
        rcases Nat.lt_or_ge k n3 with hlt3 | hge3
        case' inl =>
          obtain ⟨b, off, hA2, hbl, hcc⟩ := hat3.at_ (by omega)
          have hpk := (hb.cell (p := ⟨b, off + k * 2, none⟩) hbl).trans (hcc k hlt3).1
          clear hcc
          have hq := HEX.out (by have := HN3.out; omega)
          unfold ltS at hq
          have gd : decide ((k : Int) < n3) = true := by simp; omega
          subst hA2
          go_wp2
          go_quiet (fail)
          go_wp2
          clear hpk hq gd hbl
          generalize (some (⟨b, off, none⟩ : Addr)) = A2 at *
        case' inr =>
          have gd : decide (k < n3) = false := by simpa using hge3
          go_wp2
          go_quiet (fail)
          go_wp2
          clear gd
        all_goals
          replace hb := below_drewN hb nq
          generalize wr.drewN nq = W at *
          replace hBr := keep_cell hb hB3
          replace hCr := keep_cell hb hC3
          have hbW := bthen hb3 hb
          have hinW := (hin3'.keep hb).wide (Nat.le_refl _) hb.size
          have hcW := hc.keep hbW
          obtain ⟨css, hrowW⟩ := hinW.ex
          have hxl := hrowW.row.own.1
          have hz1W : w1.heap.size ≤ W.heap.size := Nat.le_trans hz13 hb.size
          clear hinW hin3' hB3 hC3
          go_region_held3 (fun w' => w'.cell? ⟨w.heap.size, 0, none⟩ = some (.string p) ∧ w'.cell? ⟨w.heap.size, 1, none⟩ = some (.slice Ae ne ce) ∧ Below w.heap.size w w') (first | exact hnew | (have hh := ‹_ ∧ _›; exact ⟨keep_cell hbw hh.1, keep_cell hbw hh.2.1, bthen hh.2.2 hbw⟩) | (have hh := ‹_ ∧ _›; exact ⟨keep_alloc hh.1 _, keep_alloc hh.2.1 _, hh.2.2.alloc hh.2.2.size _⟩) | exact ⟨hBr, hCr, hbW.drew⟩ | (have hh := ‹_ ∧ _›; exact hh)) (first | (go_at_call 47; refine (copyTexts_impl _ _ _ ch _ (hc.keep (by have hh := ‹_ ∧ _›; exact hh.2.2)) hce (by omega)).mono ?_; rintro e w4 ⟨B, d, rfl, ho4, hbw⟩; have hrow4 := (hrowW.keep elemEnt (Below.refl _ _).drew).keep elemEnt hbw; have hz4 : W.heap.size ≤ w4.heap.size := hbw.size; have hz5 : w1.heap.size ≤ w4.heap.size := Nat.le_trans hz1W hz4) | (go_at_call 46; have hS0 := ‹_ ∧ _›; refine (insert_own w1.heap.size w4.heap.size n3 c2 k A2 css.flatten (.string p) (.slice B ne d) _ (hrow4.keep elemEnt ((Below.refl _ _).alloc (Nat.le_refl _) _)).row.own (by simp; omega) hn3 hk (fun g hg e => by have := (hrow4.row.blk hg).2; omega) (fun j => World.frozen?_alloc_at _ _ _ j rfl) (by simp [go_sem]) (by simp [go_sem]) (own_oneCell hrowW.subs) rfl rfl).mono ?_; rintro e w5 ⟨A5, c5, rfl, hown5, hch5, hob5⟩; have hnew : w5.cell? ⟨w.heap.size, 0, none⟩ = some (.string p) ∧ w5.cell? ⟨w.heap.size, 1, none⟩ = some (.slice Ae ne ce) ∧ Below w.heap.size w w5 := ⟨hch5.cell hS0.1 (fun e => by have := (hrow4.row.blk (blk_of e)).1; unfold Iv at this; omega), hch5.cell hS0.2.1 (fun e => by have := (hrow4.row.blk (blk_of e)).1; unfold Iv at this; omega), hS0.2.2.trans (hch5.below (fun k e => by have := (hrow4.row.blk (blk_of e)).1; unfold Iv at this; omega) hS0.2.2.size)⟩; clear hS0) | fail)
          have al4 := (Below.refl w4.heap.size w4).alloc (Nat.le_refl _) (.cells #[.string p, .slice B ne d] 33)
          have hza := al4.size
          have hWd : W.drew.heap.size = W.heap.size := rfl
          have hr4 := (hrow4.keep elemEnt al4).wide elemEnt (Nat.le_refl _) (Nat.le_trans hz4 hza)
          have hlens := hrow4.subs.lens elemEnt
          have hins := hr4.ins elemEnt (i := k) (cs := [.string p, .slice B ne d]) (x := ⟨p, ch⟩) ⟨B, ne, d, rfl, (ho4.keep al4).wide hz1W hza⟩ (fun cs' h' b h1 h2 => by
            have q1 := (hrow4.subs.leads elemEnt h' h1).1
            have q2 := (ho4.row.blk (blk_of (leads2 h2))).1
            unfold Iv at q1 q2; omega) (fun b h1 h2 => by
            have q1 := (hrow4.row.blk h2).1
            have q2 := (ho4.row.blk (blk_of (leads2 h1))).1
            unfold Iv at q1 q2; omega) hk (by rw [flat_ins hlens (by have := hrow4.subs.len; have := hrow4.nl; omega)]; exact hown5) hch5 hob5 (Nat.le_refl _)
          have HIF := ins_found (e := ⟨p, ch⟩) HRI.out HL3.out.symm (show k ≤ l3.length by have := HN3.out; omega) HA.out HEX.out
          rw [HIF] at hins
          have hinI : EntsIn w1.heap.size w5.heap.size w5 A5 (n3 + 1) c5 (insL l ⟨p, ch⟩) := ⟨⟨_, hins⟩⟩
          have hsI : entsSz (insL l ⟨p, ch⟩) ≤ 1048577 := Nat.le_trans (insL_sz _ _) (by omega)
          have hbw5 := hnew.2.2
          clear hins HIF hlens hr4 hown5 hch5 hob5 hnew hrow4 ho4 hrowW hcW hat3 hbw hBr hCr
          go_wp2_with fail
          refine (treeOk_impl1 _ _ _ (insL l ⟨p, ch⟩) _ hinI.at_ hsI).mono ?_
          rintro e w6 ⟨rfl, hb6⟩
          have hbw6 := bthen hbw5 hb6
          obtain ⟨t, ht⟩ : ∃ t, treeOkB (insL l ⟨p, ch⟩) = t := ⟨_, rfl⟩
          have HQ2 := Lib.hid ht
          have HR2 := HR.out
          rw [ht] at HR2 ⊢
          clear ht
          cases t
          · have HR3 := Lib.hid (show putL l ⟨p, ch⟩ = l by rw [HR2]; simp)
            clear HR2
            go_wp2_with fail
            refine (copyEntries_impl _ _ _ l _ (h.keep hbw6) hsl).mono ?_
            rintro e w7 ⟨A7, n7, c7, rfl, hin7, hb7⟩
            go_wp2
            go_returns
            refine ⟨A7, n7, c7, ?_, by rw [HR3.out]; exact hin7.wide hbw6.size (Nat.le_refl _), bthen hbw6 hb7⟩
            rw [HN.out, HQ2.out]
            rfl
          · have HR3 := Lib.hid (show putL l ⟨p, ch⟩ = insL l ⟨p, ch⟩ by rw [HR2]; simp)
            clear HR2
            go_wp2
            go_returns
            refine ⟨A5, n3 + 1, c5, ?_, by rw [HR3.out]; exact (hinI.keep hb6).wide hz1 hb6.size, hbw6⟩
            rw [HN.out, HQ2.out]
            rfl

end Go.Proofs.Ytbijkdpifnncmaa
