/- Contracts and lemmas: Dag, DagB. -/
import Derived.Test.YtdphdnllhmnelaaJ0
import Derived.OrdersHeld
import Derived.Deep.RegionHeld3
/- A region that draws its order, walked by an invariant over what has been done: no listing of orders. -/
namespace Go.Proofs.Ytdphdnllhmnelaa
section
variable {P : Program} {ops : Array Oper} {Q : Exit → Act → World → Prop}

/-- every edge leads to an operation ahead -/
def dagB (ops : Array Oper) : Bool := (List.range ops.size).all fun i => ((ops[i]?).map fun (o : Oper) => o.after.all fun e => decide (e.on < i) || !Region.binds .any e).getD true
/-- operation i waits for operation j -/
def depB (ops : Array Oper) (i j : Nat) : Bool := ((ops[i]?).map fun (o : Oper) => o.after.any fun e => Region.binds .any e && decide (e.on = j)).getD false

theorem getD_of {L : Array Bool} {i : Nat} (hi : i < L.size) (b : Bool) : L.getD i b = L[i] := by simp [Array.getD, hi]
theorem dag_none (hB : dagB ops = true) {L : Array Bool} (hL : L.size = ops.size) (h : Region.ready .any ops L = []) : ∀ i, i < ops.size → L.getD i false = true := by
  intro i
  induction i using Nat.strongRecOn with
  | _ i ih =>
    intro hi
    have hb := List.all_eq_true.1 hB i (List.mem_range.2 hi)
    have ho : ops[i]? = some ops[i] := Array.getElem?_eq_getElem hi
    rw [ho] at hb
    simp only [Option.map_some, Option.getD_some, Array.all_eq_true'] at hb
    cases hc : L.getD i false with
    | true => rfl
    | false =>
      have hm : i ∈ Region.ready .any ops L := by
        rw [mem_ready]
        refine ⟨by rw [getD_of (by omega)] at hc ⊢; exact hc, _, ho, fun e he hbi => ?_⟩
        have := hb e he
        simp only [hbi, Bool.not_true, Bool.or_false, decide_eq_true_eq] at this
        exact ih e.on this (by omega)
      rw [h] at hm; cases hm
theorem dag_set {L : Array Bool} {i : Nat} (hi : i < L.size) : (fun k => (L.setIfInBounds i true).getD k false) = fun k => k == i || L.getD k false := by
  funext k
  by_cases e : k = i
  · subst e; simp [Array.getD, hi]
  · have : (k == i) = false := by simp [e]
    rw [this, Bool.false_or]
    simp only [Array.getD, Array.size_setIfInBounds]
    split
    · rename_i hk
      rw [Array.getInternal_eq_getElem, Array.getInternal_eq_getElem, Array.getElem_setIfInBounds hk]; simp [Ne.symm e]
    · rfl
theorem dag_count {L : Array Bool} {i : Nat} (h : L.getD i true = false) : (L.setIfInBounds i true).toList.countP (!·) + 1 ≤ L.toList.countP (!·) := by
  have hi : i < L.size := by
    rcases Nat.lt_or_ge i L.size with h' | h'
    · exact h'
    · rw [Array.getD, dif_neg (by omega)] at h; cases h
  rw [getD_of hi] at h
  rw [Array.toList_setIfInBounds, List.countP_set (by simpa using hi)]
  have hp : 0 < L.toList.countP (!·) := List.countP_pos_iff.2 ⟨L[i], by simp, by simp [h]⟩
  have e1 : L.toList[i]'(by simpa using hi) = false := by simpa using h
  rw [e1]
  simp only [Bool.not_false, Bool.not_true, if_true, Bool.false_eq_true, if_false]
  omega
theorem dag_any (hB : dagB ops = true) (I : (Nat → Bool) → Act → World → Prop)
    (st : ∀ i D a w, i < ops.size → D i = false → (∀ j, depB ops i j = true → D j = true) → I D a w → wpOp P ops Q i (I (fun k => k == i || D k)) a w)
    (hend : ∀ D a w, (∀ i, i < ops.size → D i = true) → I D a w → Q .normal a w) :
    ∀ (fuel : Nat) (L : Array Bool) (a : Act) (w : World), L.size = ops.size → L.toList.countP (!·) ≤ fuel → I (fun k => L.getD k false) a w → wpAny P .any ops Q fuel L a w := by
  intro fuel
  induction fuel with
  | zero =>
    intro L a w hL hc hI
    have hr : Region.ready .any ops L = [] := by
      rw [List.eq_nil_iff_forall_not_mem]
      intro i hi
      have := dag_count (mem_ready.1 hi).1
      omega
    exact ⟨hr, hend _ a w (dag_none hB hL hr) hI⟩
  | succ fuel ih =>
    intro L a w hL hc hI
    refine ⟨fun hr => hend _ a w (dag_none hB hL hr) hI, fun i hi => ?_⟩
    obtain ⟨h0, o, ho, hall⟩ := mem_ready.1 hi
    have hin : i < ops.size := (Array.getElem?_eq_some_iff.1 ho).1
    have hci := dag_count h0
    refine wpOp_mono (fun a' w' h => ih _ a' w' (by simpa using hL) (by omega) (by rw [dag_set (by omega)]; exact h)) (st i _ a w hin ?_ ?_ hI)
    · rw [getD_of (by omega)] at h0 ⊢; exact h0
    · intro j hj
      unfold depB at hj
      rw [ho] at hj
      simp only [Option.map_some, Option.getD_some, Array.any_eq_true', Bool.and_eq_true, decide_eq_true_eq] at hj
      obtain ⟨e, he, hb, rfl⟩ := hj
      exact hall e he hb
theorem wp_region_dag {id : Nat} {a : Act} {w : World} (hm : P.follows .mixedOrders = true) (hB : dagB ops = true) (I : (Nat → Bool) → Act → World → Prop) (h0 : I (fun _ => false) a w.drew)
    (st : ∀ i D a w, i < ops.size → D i = false → (∀ j, depB ops i j = true → D j = true) → I D a w → wpOp P ops Q i (I (fun k => k == i || D k)) a w)
    (hend : ∀ D a w, (∀ i, i < ops.size → D i = true) → I D a w → Q .normal a w) : (Code.region id ops true).wp P Q a w := by
  refine wp_region_any hm (dag_any hB I st hend _ _ _ _ (by simp) ?_ ?_)
  · refine Nat.le_trans (List.countP_le_length) ?_
    simp
  · have : (fun k => (Array.replicate ops.size false).getD k false) = fun _ => false := by
      funext k
      simp only [Array.getD, Array.size_replicate]
      split
      · rw [Array.getInternal_eq_getElem, Array.getElem_replicate]
      · rfl
    rw [this]
    exact h0
end
end Go.Proofs.Ytdphdnllhmnelaa
/- A region that draws its order, walked by an invariant over what has been done; the slots that it writes are given by their numbers alone. -/
namespace Go.Proofs.Ytdphdnllhmnelaa
/-- slots set, one by one -/
def putAll (a : Act) : List Nat → List Value → Act
  | i :: is, v :: vs => putAll { a with tmps := a.tmps.setIfInBounds i v } is vs
  | _, _ => a
theorem putAll_self (a : Act) : ∀ ss : List Nat, putAll a ss (ss.map fun i => a.tmps.getD i undef) = a
  | [] => rfl
  | i :: is => by
    have h : ({ a with tmps := a.tmps.setIfInBounds i (a.tmps.getD i undef) } : Act) = a := by
      have : a.tmps.setIfInBounds i (a.tmps.getD i undef) = a.tmps := by
        apply Array.ext
        · simp
        · intro k h1 h2
          rw [Array.getElem_setIfInBounds]
          split
          · rename_i e; subst e; simp [Array.getD, h2]
          · rfl
      rw [this]
    show putAll { a with tmps := a.tmps.setIfInBounds i (a.tmps.getD i undef) } is (is.map fun i => a.tmps.getD i undef) = a
    rw [h]; exact putAll_self a is
section
variable {P : Program} {ops : Array Oper} {Q : Exit → Act → World → Prop}
theorem wp_region_dagb {id : Nat} {a : Act} {w : World} (ss : List Nat) (hm : P.follows .mixedOrders = true) (hB : dagB ops = true) (J : (Nat → Bool) → List Value → World → Prop)
    (h0 : J (fun _ => false) (ss.map fun i => a.tmps.getD i undef) w.drew)
    (st : ∀ i D vs w, i < ops.size → D i = false → (∀ j, depB ops i j = true → D j = true) → (∀ i j, D i = true → depB ops i j = true → D j = true) → J D vs w →
      wpOp P ops Q i (fun a' w' => ∃ vs', a' = putAll a ss vs' ∧ J (fun k => k == i || D k) vs' w') (putAll a ss vs) w)
    (hend : ∀ D vs w, (∀ i, i < ops.size → D i = true) → J D vs w → Q .normal (putAll a ss vs) w) : (Code.region id ops true).wp P Q a w :=
  wp_region_dag hm hB (fun D a' w' => (∀ i j, D i = true → depB ops i j = true → D j = true) ∧ ∃ vs', a' = putAll a ss vs' ∧ J D vs' w') ⟨(fun _ _ h => by cases h), _, (putAll_self a ss).symm, h0⟩
    (fun i D a' w' hi hD hdep hI => by
      obtain ⟨hcl, vs, rfl, hJ⟩ := hI
      refine wpOp_mono (fun a' w' h => ⟨fun k j hk hj => ?_, h⟩) (st i D vs w' hi hD hdep hcl hJ)
      simp only [Bool.or_eq_true] at hk ⊢
      rcases hk with hk | hk
      · have : k = i := by simpa using hk
        subst this; exact .inr (hdep j hj)
      · exact .inr (hcl k j hk hj))
    (fun D a' w' hD hI => by obtain ⟨_, vs, rfl, hJ⟩ := hI; exact hend D vs w' hD hJ)
end
end Go.Proofs.Ytdphdnllhmnelaa
