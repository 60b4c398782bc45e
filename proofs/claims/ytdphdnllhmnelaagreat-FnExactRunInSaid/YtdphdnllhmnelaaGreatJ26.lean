/- Contracts and lemmas: InsB, InsCSet, Create, DelCSet, DelRow, CatP, SetRow. -/
import Derived.Test.YtdphdnllhmnelaaGreatJ13
import Derived.Shelf.RegionOpenPlain
import Derived.Lib.Walk
import Derived.Lib.JoinLaws
import Derived.Lib.AppendZeros
import Derived.Lib.AppendZerosOnto
import Derived.Lib.Overlaps
import Derived.Laws.Externs
import Derived.Laws.NewBlocks
import Derived.Laws.LoneSync
import Derived.Laws.IdiomCopy
import Derived.Lib.SliceRun
import Derived.WalkKit
import Derived.Test.YtdphdnllhmnelaaGreatJ14
import Derived.Test.YtdphdnllhmnelaaGreatJ18
import Derived.Test.YtdphdnllhmnelaaGreatJ16
import Derived.Test.YtdphdnllhmnelaaGreatJ19
import Derived.ArgAppend
import Derived.Test.YtdphdnllhmnelaaGreatJ20
import Derived.Test.YtdphdnllhmnelaaGreatJ21
/- slices.Insert: what does not speak of a type (printed by inserts.py). -/
namespace Go.Proofs.YtdphdnllhmnelaaGreat
open Go.Shelf Go.RowKit Go.Lib
/-! ### 'copy' at elements of any size -/
theorem run_copyN {P : Program} (w : World) (dT sT ty elem : TypeId) (sz b o dLen dCap : Nat) (a : Addr) (sLen sCap : Nat) (cs : List Value)
    (hu : P.underlying dT = some (.slice elem)) (hs : (P.info? elem).map (·.size) = some sz) (hn : cs.length = Nat.min sLen dLen * sz)
    (hsrc : ∀ j v, cs[j]? = some v → w.cell? (a.add j) = some v) (hc : ∀ j, j < cs.length → (w.cell? ⟨b, o + j, none⟩).isSome = true) (hf : ∀ j, j < cs.length → w.frozen? ⟨b, o + j, none⟩ = false) (h1 : ∀ v ∈ cs, v.oneCell' = true) :
    (Builtin.copy_ #[dT, sT] ty #[.slice (some ⟨b, o, none⟩) dLen dCap, .slice (some a) sLen sCap]).run P w = .ok (goInt (Nat.min sLen dLen)) (w.setCells b o cs) := by
  have hl := run_loadCells_list (P := P) w a cs hsrc
  have hst := run_storeCells_cells (P := P) b o cs 0 w (by simpa using hc) (by simpa using hf) h1
  cases hq : P.info? elem with
  | none => simp [hq] at hs
  | some i =>
    have hi : i.size = sz := by simpa [hq] using hs
    simp [Builtin.copy_, run_underlying hu, Builtin.lenOf, Builtin.firstCells, sizeOf, typeInfo, hq, hi, ← hn, hl, hst]
theorem wp_copyN {P : Program} (w : World) {o : Oper} {a : Act} {K : Act → World → Prop} {Q : Exit → Act → World → Prop} (d s : Operand) (t t' : TypeId)
    (ho : o.op = .call { callee := .builtin .copy, args := #[d, s], argTypes := #[t, t'] }) (v u : Value) (hd : a.eval d = v) (hs : a.eval s = u) {v' : Value} {w' : World}
    (hr : (Builtin.copy_ #[t, t'] o.type #[v, u]).run P w = .ok v' w') (h : K (a.put o.dst v') w') : o.wp P a w K Q := by
  unfold Oper.wp execOp
  simp only [ho, resolve, invoke, builtin, Sem.run_bind, Sem.run_pure, Result.andThen_ok, List.map_toArray, List.map_cons, List.map_nil, hd, hs, hr]
  exact h
theorem wpList_copyN {P : Program} (w : World) {ops : Array Oper} {rest : List Oper} {o : Oper} {a : Act} {Q : Exit → Act → World → Prop} (hgd : o.guard = none) (d s : Operand) (t t' : TypeId)
    (ho : o.op = .call { callee := .builtin .copy, args := #[d, s], argTypes := #[t, t'] }) (v u : Value) (hd : a.eval d = v) (hs : a.eval s = u) {v' : Value} {w' : World}
    (hr : (Builtin.copy_ #[t, t'] o.type #[v, u]).run P w = .ok v' w') (h : wpList P ops Q rest (a.put o.dst v') w') : wpList P ops Q (o :: rest) a w :=
  wpList_plain hgd fun _ hK => wp_copyN w d s t t' ho v u hd hs hr (hK _ _ h)
theorem step_copyN {P : Program} {ops : Array Oper} {o : Oper} {a : Act} {w : World} {K : Act → World → Prop} {Q : Exit → Act → World → Prop} {E : Prop}
    (hg : o.guard = none) (d x : Operand) (dT sT : TypeId) (hop : o.op = Op.call { callee := Callee.builtin Builtin.copy, args := #[d, x], argTypes := #[dT, sT] })
    (v u : Value) (hd : a.eval d = v) (hx : a.eval x = u) {v' : Value} {w' : World} (hr : (Builtin.copy_ #[dT, sT] o.type #[v, u]).run P w = .ok v' w') (hK : K (a.put o.dst v') w') :
    if Region.wanted o (yielded ops a.tmps) = true then Oper.wp P o a w K Q else E := by
  have hw : Region.wanted o (yielded ops a.tmps) = true := by simp [Region.wanted, hg]
  rw [if_pos hw]
  exact wp_copyN w d x dT sT hop v u hd hx hr hK
theorem some_setCells (b : Nat) (vs : List Value) (o : Nat) (w : World) (h : ∀ j, j < vs.length → (w.cell? ⟨b, o + j, none⟩).isSome = true) (k : Nat) (hk : (w.cell? ⟨b, k, none⟩).isSome = true) : ((w.setCells b o vs).cell? ⟨b, k, none⟩).isSome = true := by
  by_cases hin : o ≤ k ∧ k < o + vs.length
  · have := World.cell?_setCells_in b vs o w h (k - o) (by omega)
    rw [show o + (k - o) = k by omega] at this
    rw [this]; rfl
  · rw [World.cell?_setCells_out b vs o w ⟨b, k, none⟩ (fun _ _ => by show k < o ∨ o + vs.length ≤ k; omega)]
    exact hk

/-! ### one contract, on the row's cells -/
theorem own_more {w : World} {base e sz n c g m : Nat} {xs : List Value} (h : w.ownsRow base e sz (.slice (some ⟨g, 0, none⟩) n c) n xs) (hm : n ≤ m) (hc : m ≤ c) :
    ∃ ys, w.ownsRow base e sz (.slice (some ⟨g, 0, none⟩) m c) m ys ∧ ∀ t, t < n * sz → ys[t]? = xs[t]? := by
  have hle : n * sz ≤ m * sz := Nat.mul_le_mul_right _ hm
  obtain ⟨hl, h2⟩ := h
  rcases h2 with ⟨hv, _⟩ | ⟨g', cap, cur, hv, hb, hg, hn, hmx, hs, ht⟩
  · cases hv
  · injection hv with e1 e2 e3
    injection e1 with e1
    injection e1 with e1 _ _
    subst e1 e3
    have hcs : m * sz ≤ c * sz := Nat.mul_le_mul_right _ hc
    refine ⟨cur.toList.take (m * sz), ⟨by rw [List.length_take, Array.length_toList, hs]; omega, .inr ⟨g, c, cur, rfl, hb, hg, hc, hmx, hs, rfl⟩⟩, fun t htt => ?_⟩
    rw [← ht, List.getElem?_take_of_lt htt, List.getElem?_take_of_lt (by omega)]
theorem own_sets {base e sz n c g : Nat} (zs : List Value) : ∀ (o : Nat) (w : World) (xs : List Value), w.ownsRow base e sz (.slice (some ⟨g, 0, none⟩) n c) n xs →
    ∃ ys, (w.setCells g o zs).ownsRow base e sz (.slice (some ⟨g, 0, none⟩) n c) n ys ∧ (∀ t, t < o ∨ o + zs.length ≤ t → ys[t]? = xs[t]?) ∧ (∀ j, j < zs.length → o + j < n * sz → ys[o + j]? = zs[j]?) ∧ Ch (fun k => k = g) w (w.setCells g o zs) := by
  induction zs with
  | nil => intro o w xs h; exact ⟨xs, h, fun _ _ => rfl, fun j hj => absurd hj (by simp), Ch.refl _⟩
  | cons z zs ih =>
    intro o w xs h
    have hl := h.1
    obtain ⟨ys, h1, h2, h3, h4⟩ := ih (o + 1) (w.setCell ⟨g, o, none⟩ z) (xs.set o z) (h.stored o z).1
    refine ⟨ys, h1, fun t ht => ?_, fun j hj hx => ?_, ((Ch.refl (S := fun k => k = g) w).setCell (p := ⟨g, o, none⟩) rfl z).trans h4⟩
    · simp only [List.length_cons] at ht
      rw [h2 t (by omega), List.getElem?_set, if_neg (by omega)]
    · rcases j with _ | j
      · rw [Nat.add_zero] at hx ⊢
        rw [h2 o (.inl (by omega)), List.getElem?_set, if_pos rfl, if_pos (by omega)]; rfl
      · simp only [List.length_cons] at hj
        have := h3 j (by omega) (by omega)
        rw [show o + (j + 1) = o + 1 + j by omega, this]; rfl
end Go.Proofs.YtdphdnllhmnelaaGreat
/- slices.Insert of one CSet into a row of the call's own (printed by inserts.py). -/
namespace Go.Proofs.YtdphdnllhmnelaaGreat
open Go.Shelf Go.RowKit Go.Lib
theorem sizeEntry_cst (w : World) : (Go.sizeOf 165).run Tryz.prog w = .ok 2 w := by
  first | (unfold Go.sizeOf; kernel_rfl) | kernel_rfl | rfl
theorem infoSize_cst : (Tryz.prog.info? 165).map (·.size) = some 2 := by kernel_rfl

set_option maxHeartbeats 4000000 in
set_option maxRecDepth 100000 in
/-- there is room, i < len(s): in place -/
theorem ins_shift_cst (b n c i vb : Nat) (cs : List Value) (v0 v1 : Value) (w : World) (hi : i < n) (hroom : n + 1 ≤ c) (hc63 : c ≤ 9223372036854775807) (hvb : vb ≠ b) (hcl : cs.length = n * 2)
    (hcs : ∀ j v, cs[j]? = some v → w.cell? ⟨b, j, none⟩ = some v) (hsp : ∀ j, j < (n + 1) * 2 → (w.cell? ⟨b, j, none⟩).isSome = true) (hfz : ∀ j, w.frozen? ⟨b, j, none⟩ = false)
    (hv0 : w.cell? ⟨vb, 0, none⟩ = some v0) (hv1 : w.cell? ⟨vb, 1, none⟩ = some v1) (h1c : ∀ v ∈ cs, v.oneCell' = true) (h10 : v0.oneCell' = true) (h11 : v1.oneCell' = true) (hfv : ∀ j, w.frozen? ⟨vb, j, none⟩ = false) :
    Calls Tryz.prog 201 #[.slice (some ⟨b, 0, none⟩) n c, .int .i64 i, .slice (some ⟨vb, 0, none⟩) 1 1] w fun e w' =>
      e = .returned (.slice (some ⟨b, 0, none⟩) (n + 1) c) ∧ w' = (w.drew.setCells b ((i + 1) * 2) (cs.drop (i * 2))).setCells b (i * 2) [v0, v1] := by
  obtain ⟨tA, kA, hsa, _, _⟩ := World.shape?_of_cell? hv0
  obtain ⟨u, hu⟩ := Option.isSome_iff_exists.1 (hsp 0 (by omega))
  obtain ⟨tB, kB, hsb, hkB, _⟩ := World.shape?_of_cell? hu
  have hkB : kB ≠ 0 := by omega
  have hz2 : ¬ ((i : Int) = (n : Int)) := by omega
  have hov : ∀ lb cb, (callFunc 216 #[.slice (some ⟨vb, 0, none⟩) 1 1, .slice (some ⟨b, (i + 1) * 2, none⟩) lb cb]).run Tryz.prog w = .ok (.value (.bool false)) w := fun lb cb => by
    rw [run_callFunc_extern Tryz.func216 (by kernel_rfl) (by kernel_rfl) (by kernel_rfl) (e := Extern.SlicesOverlaps.overlaps #[25, 25] #[4]) (by kernel_rfl),
      Lib.run_overlaps_apart w 25 4 165 Tryz.underlying25 2 sizeEntry_cst ⟨vb, 0, none⟩ ⟨b, (i + 1) * 2, none⟩ 1 1 lb cb hvb tA tB kA kB hsa hsb hkB (hfv 0) (hfv kA)]
    rfl
  have hdl : (cs.drop (i * 2)).length = (n - i) * 2 := by rw [List.length_drop, hcl]; omega
  have mixed : Tryz.prog.follows Departure.mixedOrders = true := by kernel_rfl
  have hw1 : IntKind.i64.wrap ((i : Int) + 1) = (i : Int) + 1 := by rw [IntKind.wrap_i64]; omega
  have hb1 : (0 : Int) ≤ (i : Int) + 1 := by omega
  have htn : ((i : Int) + 1).toNat = i + 1 := by omega
  have hb3 : (i : Int) ≤ (n : Int) + 1 := by omega
  have hin : i ≤ n := by omega
  have hb2 : ¬ (c = i + 1) := by omega
  have hb4 : ¬ (c = i) := by omega
  have hcp1 : ∀ ty dc sc, (Builtin.copy_ #[25, 25] ty #[.slice (some ⟨b, (i + 1) * 2, none⟩) (n - i) dc, .slice (some ⟨b, i * 2, none⟩) (n + 1 - i) sc]).run Tryz.prog w.drew = .ok (goInt ((n - i : Nat) : Int)) (w.drew.setCells b ((i + 1) * 2) (cs.drop (i * 2))) := fun ty dc sc => by
    have hmin : Nat.min (n + 1 - i) (n - i) = n - i := by simp only [Nat.min_def]; split <;> omega
    have := run_copyN (P := Tryz.prog) w.drew 25 25 ty 165 2 b ((i + 1) * 2) (n - i) dc ⟨b, i * 2, none⟩ (n + 1 - i) sc (cs.drop (i * 2)) Tryz.underlying25 infoSize_cst (by rw [hdl, hmin])
      (fun j v hj => by rw [Addr.add_lit]; exact hcs (i * 2 + j) v (by rwa [List.getElem?_drop] at hj))
      (fun j hj => hsp _ (by omega)) (fun j hj => hfz _) (fun v hv => h1c v (List.mem_of_mem_drop hv))
    rwa [hmin] at this
  obtain ⟨W1, hW1⟩ : ∃ W1, W1 = w.drew.setCells b ((i + 1) * 2) (cs.drop (i * 2)) := ⟨_, rfl⟩
  have hsp1 : ∀ k, k < (n + 1) * 2 → (W1.cell? ⟨b, k, none⟩).isSome = true := fun k hk => by
    rw [hW1]
    exact some_setCells b (cs.drop (i * 2)) ((i + 1) * 2) w.drew (fun j hj => hsp ((i + 1) * 2 + j) (by rw [hdl] at hj; omega)) k (hsp k hk)
  have hcp2 : ∀ (W : World), (∀ x, W.cell? x = W1.cell? x) → (∀ x, W.frozen? x = W1.frozen? x) → ∀ ty dc, (Builtin.copy_ #[25, 25] ty #[.slice (some ⟨b, i * 2, none⟩) (n + 1 - i) dc, .slice (some ⟨vb, 0, none⟩) 1 1]).run Tryz.prog W = .ok (goInt 1) (W.setCells b (i * 2) [v0, v1]) := fun W hWc hWf ty dc => by
    have hmin : Nat.min 1 (n + 1 - i) = 1 := by simp only [Nat.min_def]; split <;> omega
    have := run_copyN (P := Tryz.prog) W 25 25 ty 165 2 b (i * 2) (n + 1 - i) dc ⟨vb, 0, none⟩ 1 1 [v0, v1] Tryz.underlying25 infoSize_cst (by rw [hmin]; rfl)
      (fun j v hj => by
        rw [Addr.add_lit, hWc, hW1, World.cell?_setCells_out b _ _ _ _ (fun h _ => absurd h hvb), Nat.zero_add]
        rcases j with _ | _ | j
        · injection hj with hj; subst hj; exact hv0
        · injection hj with hj; subst hj; exact hv1
        · cases hj)
      (fun j hj => by rw [hWc]; exact hsp1 _ (by simp at hj; omega)) (fun j hj => by rw [hWf, hW1, World.frozen?_setCells]; exact hfz _) (fun v hv => by
        simp at hv; rcases hv with rfl | rfl
        · exact h10
        · exact h11)
    rwa [hmin] at this
  rw [← hW1] at hcp1
  clear hsp1
  go_enter Tryz.func201, Tryz.ntmps201
  go_wp2_with (simp only [hov])
  go_region_law_o (refine step_copyN rfl _ _ 25 25 rfl _ _ (by simp [Act.eval, Act.put]) (by simp [Act.eval, Act.put]) (hcp1 _ _ _) ?_)
  go_wp2_with (at_builtin; refine wpList_copyN _ rfl _ _ 25 25 rfl _ _ rfl rfl (hcp2 _ (fun _ => rfl) (fun _ => rfl) _ _) ?_)
  go_returns
  first | exact ⟨rfl, rfl⟩ | exact ⟨rfl, by rw [hW1]⟩

theorem zeroE_size_cst (k : Nat) : (Builtin.zeroCells (Value.agg #[.string ByteArray.empty, .slice none 0 0]).cells k).size = k * 2 := by
  simp [Builtin.zeroCells, Value.cells]
set_option maxHeartbeats 4000000 in
set_option maxRecDepth 100000 in
/-- i < len(s), no room: a new row -/
theorem ins_grow_cst (b n c i vb : Nat) (cs : List Value) (v0 v1 : Value) (w : World) (hi : i < n) (hnc : n ≤ c) (hroom : c < n + 1) (hbig : (n + 1) * 40 ≤ 140737488355328) (hcl : cs.length = n * 2)
    (hcs : ∀ j v, cs[j]? = some v → w.cell? ⟨b, j, none⟩ = some v)
    (hv0 : w.cell? ⟨vb, 0, none⟩ = some v0) (hv1 : w.cell? ⟨vb, 1, none⟩ = some v1) (h1c : ∀ v ∈ cs, v.oneCell' = true) (h10 : v0.oneCell' = true) (h11 : v1.oneCell' = true) :
    Calls Tryz.prog 201 #[.slice (some ⟨b, 0, none⟩) n c, .int .i64 i, .slice (some ⟨vb, 0, none⟩) 1 1] w fun e w' =>
      ∃ G ROW, n + 1 ≤ G ∧ G ≤ maxLen ∧ ROW.size = G * 2 ∧ (∀ j, j < i * 2 → ROW[j]? = cs[j]?) ∧ e = .returned (.slice (some ⟨w.heap.size, 0, none⟩) (n + 1) G) ∧
      w' = (((w.alloc (.cells ROW 165)).drew.setCells w.heap.size (i * 2) [v0, v1]).drew).setCells w.heap.size ((i + 1) * 2) (cs.drop (i * 2)) := by
  have mixed : Tryz.prog.follows Departure.mixedOrders = true := by kernel_rfl
  obtain ⟨i0, hi0, hz0, hzs, hzb⟩ := info_parts cstInfo
  have hz2 : ¬ ((i : Int) = (n : Int)) := by omega
  have hz3 : (c : Int) < (n : Int) + 1 := by omega
  have hbw : b < w.heap.size := cell_lt (hcs 0 _ (List.getElem?_eq_getElem (by omega)))
  have hvw : vb < w.heap.size := cell_lt hv0
  have hkk : (n : Int) + 1 - (i : Int) = ((n + 1 - i : Nat) : Int) := by omega
  have hik : i + (n + 1 - i) = n + 1 := by omega
  have hold : (Builtin.firstCells i0.size i (.slice (some ⟨b, 0, none⟩) i c)).run Tryz.prog w.drew = .ok (cs.take (i * 2)).toArray w.drew := by
    rw [hzs]
    exact run_firstCells_some w.drew 2 i ⟨b, 0, none⟩ i c (cs.take (i * 2)) (by rw [List.length_take]; omega) (fun j v hj => by
      rw [Addr.add_lit, Nat.zero_add]
      rw [List.getElem?_take] at hj
      split at hj
      · exact hcs j v hj
      · cases hj)
  obtain ⟨G, hG⟩ : ∃ G, G = grownCap w (n + 1) c 165 := ⟨_, rfl⟩
  obtain ⟨ROW, hROW⟩ : ∃ ROW : Array Value, ROW = (cs.take (i * 2)).toArray ++ Builtin.zeroCells (Value.agg #[.string ByteArray.empty, .slice none 0 0]).cells (n + 1 - i) ++ Builtin.zeroCells (Value.agg #[.string ByteArray.empty, .slice none 0 0]).cells (G - (n + 1)) := ⟨_, rfl⟩
  have hrz : ∀ ty, (Builtin.append_ #[25, 3] ty #[.slice (some ⟨b, 0, none⟩) i c, .int .i64 ((n : Int) + 1 - (i : Int))]).run Tryz.prog w =
      .ok (.slice (some ⟨w.heap.size, 0, none⟩) (n + 1) G) (w.drew.alloc (.cells ROW 165)) := fun ty => by
    have h := Lib.run_append_grow_zeros w 25 3 ty 165 i0 _ .i64 .i64 Tryz.underlying25 Tryz.underlying3 hi0 hz0 (some ⟨b, 0, none⟩) i c (cs.take (i * 2)) hold (n + 1 - i) (by omega) (by omega) (by omega) (by omega) (by rw [hzb]; omega) (by rw [hzb, hik]; exact growslice_fits hroom hbig)
    rw [hik, ← hG, ← hROW] at h
    rw [hkk]
    exact h
  have hGn : n + 1 ≤ G := by rw [hG]; exact grownCap_ge w _ _ _
  have hGm : G ≤ maxLen := by rw [hG]; exact grownCap_le_maxLen w (n + 1) c 165 (by unfold maxLen; omega)
  have hG63 : G ≤ 9223372036854775807 := by unfold maxLen at hGm; omega
  have hRl : ROW.size = G * 2 := by
    rw [hROW, Array.size_append, Array.size_append, zeroE_size_cst, zeroE_size_cst]
    simp [hcl]
    omega
  have hRc : ∀ j, j < i * 2 → ROW[j]? = cs[j]? := fun j hj => by
    have hl : (cs.take (i * 2)).length = i * 2 := by rw [List.length_take]; omega
    rw [hROW, Array.getElem?_append, if_pos (by simp [hcl, zeroE_size_cst]; omega), Array.getElem?_append, if_pos (by simp [hcl]; omega)]
    simp [hj]
  obtain ⟨W1, hW1⟩ : ∃ W1, W1 = w.drew.alloc (.cells ROW 165) := ⟨_, rfl⟩
  rw [← hW1] at hrz
  have hN : ∀ j, j < (n + 1) * 2 → (W1.cell? ⟨w.heap.size, j, none⟩).isSome = true := fun j hj => by
    rw [hW1, World.cell?_alloc_at (w := w.drew) ROW _ w.heap.size j rfl, Array.getElem?_eq_getElem (by omega)]; rfl
  have hNf : ∀ j, W1.frozen? ⟨w.heap.size, j, none⟩ = false := fun j => by rw [hW1]; exact World.frozen?_alloc_at (w := w.drew) ROW _ w.heap.size j rfl
  have hOb : ∀ j v, w.cell? ⟨b, j, none⟩ = some v → W1.cell? ⟨b, j, none⟩ = some v := fun j v h => by rw [hW1, World.cell?_alloc_past (w := w.drew) _ b j hbw]; exact h
  have hOv : ∀ j v, w.cell? ⟨vb, j, none⟩ = some v → W1.cell? ⟨vb, j, none⟩ = some v := fun j v h => by rw [hW1, World.cell?_alloc_past (w := w.drew) _ vb j hvw]; exact h
  have hcpA : ∀ (W : World), (∀ x, W.cell? x = W1.cell? x) → (∀ x, W.frozen? x = W1.frozen? x) → ∀ ty dc, (Builtin.copy_ #[25, 25] ty #[.slice (some ⟨w.heap.size, i * 2, none⟩) (n + 1 - i) dc, .slice (some ⟨vb, 0, none⟩) 1 1]).run Tryz.prog W = .ok (goInt 1) (W.setCells w.heap.size (i * 2) [v0, v1]) := fun W hWc hWf ty dc => by
    have hmin : Nat.min 1 (n + 1 - i) = 1 := by simp only [Nat.min_def]; split <;> omega
    have := run_copyN (P := Tryz.prog) W 25 25 ty 165 2 w.heap.size (i * 2) (n + 1 - i) dc ⟨vb, 0, none⟩ 1 1 [v0, v1] Tryz.underlying25 infoSize_cst (by rw [hmin]; rfl)
      (fun j v hj => by
        rw [Addr.add_lit, hWc, Nat.zero_add]
        rcases j with _ | _ | j
        · injection hj with hj; subst hj; exact hOv _ _ hv0
        · injection hj with hj; subst hj; exact hOv _ _ hv1
        · cases hj)
      (fun j hj => by rw [hWc]; exact hN _ (by simp at hj; omega)) (fun j hj => by rw [hWf]; exact hNf _) (fun v hv => by
        simp at hv; rcases hv with rfl | rfl
        · exact h10
        · exact h11)
    rwa [hmin] at this
  have hGi : ¬ (G = i) := by omega
  have hGim : ¬ (G = i + 1) := by omega
  have hci : ¬ (c = i) := by omega
  have hbN : b ≠ w.heap.size := by omega
  have hdl : (cs.drop (i * 2)).length = (n - i) * 2 := by rw [List.length_drop, hcl]; omega
  have hcpB : ∀ (W : World), (∀ x, W.cell? x = (W1.setCells w.heap.size (i * 2) [v0, v1]).cell? x) → (∀ x, W.frozen? x = (W1.setCells w.heap.size (i * 2) [v0, v1]).frozen? x) → ∀ ty dc sc, (Builtin.copy_ #[25, 25] ty #[.slice (some ⟨w.heap.size, (i + 1) * 2, none⟩) (n - i) dc, .slice (some ⟨b, i * 2, none⟩) (n - i) sc]).run Tryz.prog W = .ok (goInt ((n - i : Nat) : Int)) (W.setCells w.heap.size ((i + 1) * 2) (cs.drop (i * 2))) := fun W hWc hWf ty dc sc => by
    have hmin : Nat.min (n - i) (n - i) = n - i := by simp only [Nat.min_def]; split <;> omega
    have := run_copyN (P := Tryz.prog) W 25 25 ty 165 2 w.heap.size ((i + 1) * 2) (n - i) dc ⟨b, i * 2, none⟩ (n - i) sc (cs.drop (i * 2)) Tryz.underlying25 infoSize_cst (by rw [hdl, hmin])
      (fun j v hj => by
        rw [Addr.add_lit, hWc, World.cell?_setCells_out _ _ _ _ _ (fun h _ => absurd h hbN)]
        exact hOb _ v (hcs (i * 2 + j) v (by rwa [List.getElem?_drop] at hj)))
      (fun j hj => by rw [hWc]; exact some_setCells _ _ _ _ (fun t ht => hN _ (by simp at ht; omega)) _ (hN _ (by omega)))
      (fun j hj => by rw [hWf, World.frozen?_setCells]; exact hNf _) (fun v hv => h1c v (List.mem_of_mem_drop hv))
    rwa [hmin] at this
  subst hW1
  have hE1 : ∀ x, ((w.alloc (.cells ROW 165)).drew).cell? x = (w.drew.alloc (.cells ROW 165)).cell? x := fun x => rfl
  have hE2 : ∀ x, ((w.alloc (.cells ROW 165)).drew).frozen? x = (w.drew.alloc (.cells ROW 165)).frozen? x := fun x => rfl
  have hF1 : ∀ x, (((w.alloc (.cells ROW 165)).drew.setCells w.heap.size (i * 2) [v0, v1]).drew).cell? x = ((w.drew.alloc (.cells ROW 165)).setCells w.heap.size (i * 2) [v0, v1]).cell? x := fun x => rfl
  have hF2 : ∀ x, (((w.alloc (.cells ROW 165)).drew.setCells w.heap.size (i * 2) [v0, v1]).drew).frozen? x = ((w.drew.alloc (.cells ROW 165)).setCells w.heap.size (i * 2) [v0, v1]).frozen? x := fun x => rfl
  have hw1 : IntKind.i64.wrap ((i : Int) + 1) = (i : Int) + 1 := by rw [IntKind.wrap_i64]; omega
  have hb1 : (0 : Int) ≤ (i : Int) + 1 := by omega
  have hin : i ≤ n := by omega
  have htn : ((i : Int) + 1).toNat = i + 1 := by omega
  have hb3 : (i : Int) ≤ (n : Int) := by omega
  clear hkk hik hold hROW hG hN hNf hOb hOv
  go_enter Tryz.func201, Tryz.ntmps201
  go_wp2_with (first
    | (at_builtin; refine Lib.wpList_append_run _ rfl _ _ _ _ rfl _ _ rfl rfl _ _ (hrz _) ?_)
    | (at_builtin; refine wpList_copyN _ rfl _ _ 25 25 rfl _ _ rfl rfl (hcpA _ hE1 hE2 _ _) ?_)
    | (at_builtin; refine wpList_copyN _ rfl _ _ 25 25 rfl _ _ rfl rfl (hcpB _ (fun _ => rfl) (fun _ => rfl) _ _ _) ?_))
  go_region_law_o (refine step_copyN rfl _ _ 25 25 rfl (.slice (some ⟨w.heap.size, (i + 1) * 2, none⟩) (n - i) (G - (i + 1))) (.slice (some ⟨b, i * 2, none⟩) (n - i) (c - i)) (by simp [Act.eval, Act.put]) (by simp [Act.eval, Act.put]) (hcpB _ hF1 hF2 3 (G - (i + 1)) (c - i)) ?_)
  go_wp2
  go_returns
  exact ⟨G, ROW, hGn, hGm, hRl, hRc, rfl, rfl⟩

set_option maxRecDepth 100000 in
/-- at the end: as an append -/
theorem ins_end_cst (lo vb n c : Nat) (A : Option Addr) (xs : List Value) (v0 v1 : Value) (w : World) (hown : w.ownsRow lo 165 2 (.slice A n c) n xs) (hlo : lo ≤ w.heap.size) (hn : n ≤ 1048576)
    (hv0 : w.cell? ⟨vb, 0, none⟩ = some v0) (hv1 : w.cell? ⟨vb, 1, none⟩ = some v1) (h10 : v0.oneCell' = true) (h11 : v1.oneCell' = true) :
    Calls Tryz.prog 201 #[.slice A n c, .int .i64 n, .slice (some ⟨vb, 0, none⟩) 1 1] w fun e w' =>
      ∃ A' c', e = .returned (.slice A' (n + 1) c') ∧ w'.ownsRow lo 165 2 (.slice A' (n + 1) c') (n + 1) (xs ++ [v0, v1]) ∧ w.grownBy w' (Value.slice A n c).ownBlock ∧
      ((Value.slice A' (n + 1) c').ownBlock = (Value.slice A n c).ownBlock ∨ (Value.slice A' (n + 1) c').ownBlock = some w.heap.size) := by
  have mixed : Tryz.prog.follows Departure.mixedOrders = true := by kernel_rfl
  have hsrc : CellsAt w (some ⟨vb, 0, none⟩) 1 2 [v0, v1] := by
    refine ⟨rfl, fun _ => ⟨vb, 0, rfl, fun j u hu => ?_⟩⟩
    rcases j with _ | _ | j
    · injection hu with hu; subst hu; exact hv0
    · injection hu with hu; subst hu; exact hv1
    · cases hu
  have hle := own_le hown
  have hle1 := hle.1
  have hle2 := hle.2
  rcases own_form hown with ⟨rfl, rfl, rfl, rfl⟩ | ⟨g, rfl, _, _⟩
  · go_enter Tryz.func201, Tryz.ntmps201
    go_wp2_with (at_builtin; refine wpList_app (P := Tryz.prog) w rfl _ _ 25 rfl lo 165 _ 2 40 Tryz.underlying25 cstInfo rfl (by omega) (.slice none 0 0) 0 [] rfl hown (some ⟨vb, 0, none⟩) 1 1 [v0, v1] rfl hsrc (by simp [h10, h11]) (fun h => by cases h) (by unfold maxLen; omega) (by omega) hlo ?_; intro A' c' w1 hown1 hg1 hb1 hob1)
    go_returns
    exact ⟨A', c', rfl, hown1, hg1, hob1⟩
  · go_enter Tryz.func201, Tryz.ntmps201
    go_wp2_with (at_builtin; refine wpList_app (P := Tryz.prog) w rfl _ _ 25 rfl lo 165 _ 2 40 Tryz.underlying25 cstInfo rfl (by omega) (.slice (some ⟨g, 0, none⟩) n c) n xs rfl hown (some ⟨vb, 0, none⟩) 1 1 [v0, v1] rfl hsrc (by simp [h10, h11]) (fun h => by cases h) (by unfold maxLen; omega) (by omega) hlo ?_; intro A' c' w1 hown1 hg1 hb1 hob1)
    all_goals (go_returns; exact ⟨A', c', rfl, hown1, hg1, hob1⟩)

/-- the cells with an element inserted -/
theorem ins_ext_cst {ys xs : List Value} {v0 v1 : Value} {n i : Nat} (hi : i ≤ n) (hx : xs.length = n * 2) (hy : ys.length = (n + 1) * 2) (h0 : ∀ t, t < i * 2 → ys[t]? = xs[t]?) (h1 : ∀ j, j < 2 → ys[i * 2 + j]? = [v0, v1][j]?)
    (h2 : ∀ j, j < (n - i) * 2 → ys[(i + 1) * 2 + j]? = (xs.drop (i * 2))[j]?) : ys = xs.take (i * 2) ++ [v0, v1] ++ xs.drop (i * 2) := by
  have hl : (xs.take (i * 2)).length = i * 2 := by rw [List.length_take]; omega
  apply List.ext_getElem?
  intro t
  rw [List.append_assoc, List.getElem?_append, hl]
  by_cases c1 : t < i * 2
  · rw [if_pos c1, h0 t c1, List.getElem?_take_of_lt c1]
  · rw [if_neg c1]
    by_cases c2 : t < (i + 1) * 2
    · rw [List.getElem?_append, if_pos (by simp; omega), ← h1 (t - i * 2) (by omega), show i * 2 + (t - i * 2) = t by omega]
    · rw [List.getElem?_append, if_neg (by simp; omega)]
      by_cases c3 : t < (n + 1) * 2
      · rw [show t - i * 2 - [v0, v1].length = t - (i + 1) * 2 by simp; omega, ← h2 (t - (i + 1) * 2) (by omega), show (i + 1) * 2 + (t - (i + 1) * 2) = t by omega]
      · rw [List.getElem?_eq_none (by omega), List.getElem?_eq_none (by simp; omega)]

theorem insert_own_cst (lo vb n c i : Nat) (A : Option Addr) (xs : List Value) (v0 v1 : Value) (w : World) (hown : w.ownsRow lo 165 2 (.slice A n c) n xs) (hlo : lo ≤ w.heap.size) (hn : n ≤ 1048576) (hi : i ≤ n)
    (hvb : ∀ g, BlkOf A g → vb ≠ g) (hfv : ∀ j, w.frozen? ⟨vb, j, none⟩ = false) (hv0 : w.cell? ⟨vb, 0, none⟩ = some v0) (hv1 : w.cell? ⟨vb, 1, none⟩ = some v1)
    (h1c : ∀ v ∈ xs, v.oneCell' = true) (h10 : v0.oneCell' = true) (h11 : v1.oneCell' = true) :
    Calls Tryz.prog 201 #[.slice A n c, .int .i64 i, .slice (some ⟨vb, 0, none⟩) 1 1] w fun e w' =>
      ∃ A' c', e = .returned (.slice A' (n + 1) c') ∧ w'.ownsRow lo 165 2 (.slice A' (n + 1) c') (n + 1) (xs.take (i * 2) ++ [v0, v1] ++ xs.drop (i * 2)) ∧ Ch (fun k => (Value.slice A n c).ownBlock = some k) w w' ∧
      ((Value.slice A' (n + 1) c').ownBlock = (Value.slice A n c).ownBlock ∨ (Value.slice A' (n + 1) c').ownBlock = some w.heap.size) := by
  have hxl := hown.1
  by_cases hin : i = n
  · subst hin
    refine (ins_end_cst lo vb i c A xs v0 v1 w hown hlo hn hv0 hv1 h10 h11).mono ?_
    rintro e w' ⟨A', c', rfl, h1, h2, h3⟩
    refine ⟨A', c', rfl, ?_, Ch.of_grow h2, h3⟩
    rwa [List.take_of_length_le (by omega), List.drop_eq_nil_of_le (by omega), List.append_nil]
  · have hle := own_le hown
    obtain ⟨g, rfl, hlg, hgh⟩ : ∃ g, A = some ⟨g, 0, none⟩ ∧ lo ≤ g ∧ g < w.heap.size := by
      rcases own_form hown with ⟨_, h0, _⟩ | h
      · omega
      · exact h
    have hcell : ∀ j v, xs[j]? = some v → w.cell? ⟨g, j, none⟩ = some v := fun j v hj => by
      exact (hown.cellAt j (by have := (List.getElem?_eq_some_iff.1 hj).1; omega)).trans hj
    have hdl : (xs.drop (i * 2)).length = (n - i) * 2 := by rw [List.length_drop, hxl]; omega
    by_cases hroom : n + 1 ≤ c
    · obtain ⟨ys, hy, hyx⟩ := own_more hown (Nat.le_succ n) hroom
      refine (ins_shift_cst g n c i vb xs v0 v1 w (by omega) hroom hle.2 (hvb g (by simp [BlkOf])) hxl hcell (fun j hj => ?_) (fun j => hown.frozenAt j) hv0 hv1 h1c h10 h11 hfv).mono ?_
      · obtain ⟨u, hu⟩ := own_cell hy (j := j) (by omega)
        rw [hu]; rfl
      rintro e w' ⟨rfl, rfl⟩
      obtain ⟨y1, a1, a2, a3, a4⟩ := own_sets (xs.drop (i * 2)) ((i + 1) * 2) w.drew ys hy
      obtain ⟨y2, b1, b2, b3, b4⟩ := own_sets [v0, v1] (i * 2) _ y1 a1
      have hE : y2 = xs.take (i * 2) ++ [v0, v1] ++ xs.drop (i * 2) := by
        refine ins_ext_cst (by omega) hxl b1.1 (fun t ht => ?_) (fun j hj => ?_) (fun j hj => ?_)
        · rw [b2 t (.inl ht), a2 t (.inl (by omega)), hyx t (by omega)]
        · exact b3 j hj (by omega)
        · rw [b2 _ (.inr (by simp; omega)), a3 j (by omega) (by omega)]
      rw [hE] at b1
      refine ⟨_, _, rfl, b1, ?_, .inl rfl⟩
      have h0 : Ch (fun k => k = g) w w.drew := (Ch.refl w).drew
      exact ((h0.trans a4).trans b4).mono (fun k hk => by subst hk; rfl)
    · refine (ins_grow_cst g n c i vb xs v0 v1 w (by omega) hle.1 (by omega) (by omega) hxl hcell hv0 hv1 h1c h10 h11).mono ?_
      rintro e w' ⟨G, ROW, hG1, hG2, hR, hRc, rfl, rfl⟩
      have h0 : Ch (fun k => k = w.heap.size) w ((w.alloc (.cells ROW 165)).drew) := ((Ch.refl w).alloc _).drew
      have ho : ((w.alloc (.cells ROW 165)).drew).ownsRow lo 165 2 (.slice (some ⟨w.heap.size, 0, none⟩) (n + 1) G) (n + 1) (ROW.toList.take ((n + 1) * 2)) :=
        ⟨by simp [hR]; omega, .inr ⟨w.heap.size, G, ROW, rfl, hlo, by show (w.heap.push _)[w.heap.size]? = _; simp, hG1, hG2, hR, rfl⟩⟩
      obtain ⟨y1, a1, a2, a3, a4⟩ := own_sets [v0, v1] (i * 2) _ _ ho
      have a1' : (((w.alloc (.cells ROW 165)).drew.setCells w.heap.size (i * 2) [v0, v1]).drew).ownsRow lo 165 2 (.slice (some ⟨w.heap.size, 0, none⟩) (n + 1) G) (n + 1) y1 := a1
      obtain ⟨y2, b1, b2, b3, b4⟩ := own_sets (xs.drop (i * 2)) ((i + 1) * 2) _ y1 a1'
      have hE : y2 = xs.take (i * 2) ++ [v0, v1] ++ xs.drop (i * 2) := by
        refine ins_ext_cst (by omega) hxl b1.1 (fun t ht => ?_) (fun j hj => ?_) (fun j hj => ?_)
        · rw [b2 t (.inl (by omega)), a2 t (.inl ht), List.getElem?_take_of_lt (by omega), Array.getElem?_toList, hRc t ht]
        · rw [b2 _ (.inl (by omega)), a3 j hj (by omega)]
        · rw [b3 j (by omega) (by omega)]
      rw [hE] at b1
      refine ⟨_, _, rfl, b1, ?_, .inr rfl⟩
      have hC := ((h0.trans a4).drew).trans b4
      exact ⟨hC.os, hC.tape, hC.output, hC.size, fun k hk _ => hC.block k hk (by omega)⟩
end Go.Proofs.YtdphdnllhmnelaaGreat
/- What the program does to a catalog of its own: create. -/
namespace Go.Proofs.YtdphdnllhmnelaaGreat
open Go.RowKit
attribute [local go_sem] Grow.cell Grow.frozen
/-- how many sets stand ahead of a name -/
def atS : List Cst → ByteArray → Nat
  | [], _ => 0
  | s :: l, nm => if sLt s.nm nm then atS l nm + 1 else 0
theorem atS_le (nm : ByteArray) : ∀ l : List Cst, atS l nm ≤ l.length
  | [] => Nat.le_refl _
  | s :: l => by have := atS_le nm l; unfold atS; simp only [List.length_cons]; split <;> omega
theorem atS_drop {l : List Cst} {k : Nat} {x : Cst} (nm : ByteArray) (hx : l[k]? = some x) : atS (l.drop k) nm = if sLt x.nm nm then atS (l.drop (k + 1)) nm + 1 else 0 := by
  obtain ⟨hk, rfl⟩ := List.getElem?_eq_some_iff.1 hx
  rw [List.drop_eq_getElem_cons hk, atS]
/-- the sets with one more -/
def insS (l : List Cst) (nm : ByteArray) : List Cst := l.take (atS l nm) ++ ⟨nm, []⟩ :: l.drop (atS l nm)
attribute [local irreducible] StrsAt StrR StrO RowR RowO cstFnd sLt atS
set_option maxRecDepth 8000 in
set_option maxHeartbeats 8000000 in
theorem create_impl (l : List Cst) (nm : ByteArray) (b : Nat) (A : Option Addr) (n c : Nat) (fq : List Nat) (w : World) (hc0 : w.cell? ⟨b, 0, none⟩ = some (.slice A n c)) (hfz : w.frozen? ⟨b, 0, none⟩ = false)
    (hA : RowO cstF 165 2 fq w A n c l) (hN : fq.Nodup) (hbq : b ∉ fq) (hn : n ≤ 1000) :
    Calls Tryz.prog 170 #[.pointer (some ⟨b, 0, none⟩), .string nm] w fun e w' => (e = .returned (.string exT) ∧ 0 ≤ cstFnd l 0 nm ∧ Below w.heap.size w w') ∨ (e = .returned (.string fuT) ∧ cstFnd l 0 nm < 0 ∧ n = 5 ∧ Below w.heap.size w w') ∨
      (e = .returned (.string okT) ∧ cstFnd l 0 nm < 0 ∧ n ≠ 5 ∧ ∃ w1 A' c' fq', w' = w1.setCell ⟨b, 0, none⟩ (.slice A' (n + 1) c') ∧ Ch (fun t => t ∈ fq) w w1 ∧ RowO cstF 165 2 fq' w1 A' (n + 1) c' (insS l nm) ∧ fq'.Nodup ∧ ∀ t ∈ fq', t ∈ fq ∨ w.heap.size ≤ t) := by
  have hbl := cell_lt hc0
  have hnq : ∀ t ∈ fq, t < w.heap.size := hA.lt cstK
  have HL := Lib.hid hA.len
  have hR := hA.at_ cstK (by omega)
  have hfnd := cstFnd_impl ⟨l⟩ nm A n c w hR (by omega)
  unfold ctlV at hfnd
  go_enter Tryz.func170, Tryz.ntmps170
  go_wp2_with fail
  refine hfnd.mono ?_
  rintro r w1 ⟨rfl, hb1⟩
  obtain ⟨t, ht⟩ : ∃ t, cstFnd l 0 nm = t := ⟨_, rfl⟩
  have T := Lib.hid ht
  simp only [ht]
  clear ht hfnd
  have q0 := keep_cell hb1 hc0
  have hb1s := hb1.size
  have hbW := cell_lt q0
  by_cases ht0 : 0 ≤ t
  · have gd : decide (t ≥ 0) = true := decide_eq_true ht0
    have HT0 := Lib.hid ht0; have hnl : ¬ t < 0 := by omega
    go_wp2
    go_returns
    exact .inl ⟨rfl, by rw [T.out]; exact HT0.out, hb1⟩
  have gd : decide (t ≥ 0) = false := decide_eq_false ht0
  have HT0 := Lib.hid ht0; have hlt0 : t < 0 := (by omega); clear ht0
  by_cases h5 : n = 5
  · have g5 : ((n : Int) == 5) = true := beq_iff_eq.2 (by omega)
    have H5 := Lib.hid h5; clear h5
    go_wp2
    go_returns
    exact .inr (.inl ⟨rfl, by rw [T.out]; have := HT0.out; omega, H5.out, hb1⟩)
  have g5 : ((n : Int) == 5) = false := beq_eq_false_iff_ne.2 (by omega)
  have H5 := Lib.hid h5; clear h5
  go_wp2
  have hR1 := hR.keep cstK hb1
  go_loopw [5] (fun i wr => ∃ k : Nat, k ≤ n ∧ i = .int .i64 k ∧ atS l nm = k + atS (l.drop k) nm ∧ Below w1.heap.size w1 wr) (fun i _ => n - (intOf i).toNat)
  case atStart => exact ⟨0, Nat.zero_le _, rfl, by simp, Below.refl _ _⟩
  case round =>
    obtain ⟨k, hk, rfl, hp, hbr⟩ := hrel
    have HP := Lib.hid hp; clear hp
    have r0 := keep_cell hbr q0
    by_cases hlt : k < n
    · have k1 := hR1.keep cstK hbr
      obtain ⟨qb, qo, rfl⟩ := k1.head (by omega)
      obtain ⟨bl, y, cs, hy, ⟨B1, m1, d1, rfl, y1⟩, hcell⟩ := k1.elem_at hlt
      have f0 : wr.cell? ⟨qb, qo + k * 2, none⟩ = some (.string y.nm) := hcell 0 _ rfl
      have HD := Lib.hid (atS_drop nm hy)
      clear hcell hy y1
      obtain ⟨q, hq⟩ : ∃ q, Op.bytesLess y.nm.toList nm.toList = q := ⟨_, rfl⟩
      have HQ := Lib.hid (show sLt y.nm nm = q by unfold sLt; exact hq)
      cases q
      · go_wp2_with fail
        have HK := Lib.hid (show atS l nm = k by rw [HP.out, HD.out, if_neg (by rw [HQ.out]; simp)]; omega)
        have hbB := bthen hb1 hbr
        have al := (Below.refl wr.heap.size wr).alloc (Nat.le_refl _) (.cells #[.string nm, .slice none 0 0] 165)
        have hfv : ∀ j, (wr.alloc (.cells #[.string nm, .slice none 0 0] 165)).frozen? ⟨wr.heap.size, j, none⟩ = false := fun j => World.frozen?_alloc_at (w := wr) _ _ wr.heap.size j rfl
        obtain ⟨W, hW⟩ : ∃ W, W = wr.alloc (.cells #[.string nm, .slice none 0 0] 165) := ⟨_, rfl⟩
        obtain ⟨g, hg⟩ : ∃ g, wr.heap.size = g := ⟨_, rfl⟩
        have BX := BoxL.new wr [.string nm, .slice none 0 0] 165
        rw [← hW] at al BX hfv ⊢
        simp only [hg] at BX hfv ⊢
        have AW := (hA.keep cstK hbB).keep cstK al
        have hgw : w.heap.size ≤ g := by have := hbB.size; omega
        have BW := (Ch.of_below (S := fun t => t ∈ fq) hbB).trans (Ch.of_below (S := fun t => t ∈ fq) al)
        obtain ⟨css, fps, rfl, own, hlQ, EQ⟩ := AW.ex
        clear hlQ
        have v0 := BX.cell 0 _ rfl
        have v1 := BX.cell 1 _ rfl
        have hgW := BX.lt
        have s0 := keep_cell al r0
        have sf : W.frozen? ⟨b, 0, none⟩ = false := (al.frozen (p := ⟨b, 0, none⟩) (cell_lt r0)).trans ((hbB.frozen (p := ⟨b, 0, none⟩) hbl).trans hfz)
        have hbW2 := cell_lt s0
        have hbA : b ∉ blkL _ := fun h => hbq (List.mem_append_left _ h)
        clear hW hg hA hR hR1 AW al r0 q0 hc0
        refine (insert_own_cst 0 g n c k _ css.flatten (.string nm) (.slice none 0 0) W own (Nat.zero_le _) (by omega) hk (fun q hq he => by have := hnq q (List.mem_append_left _ (mem_blkL.2 hq)); omega) hfv v0 v1 (EQ.ones cstK) rfl rfl).mono ?_
        rintro e w4 ⟨A', c', rfl, own4, hch4, hob4⟩
        obtain ⟨fp', R4, N4, F4, C4⟩ := row_ins1 (x := (⟨nm, []⟩ : Cst)) cstK hk HL.out EQ ⟨none, 0, 0, [], rfl, rfl, RowO.nil⟩ hN own4 hch4 hob4 (Nat.le_refl _)
        have t0 := C4.cell s0 hbA
        have tf : w4.frozen? ⟨b, 0, none⟩ = false := (World.frozen?_of_block (C4.block b hbW2 hbA)).trans sf
        go_wp2
        go_returns
        exact .inr (.inr ⟨rfl, by rw [T.out]; have := HT0.out; omega, H5.out, w4, A', c', fp', rfl, BW.trans (C4.mono (fun t ht => List.mem_append_left _ ht)), by unfold insS; rw [HK.out]; exact R4, N4, fun t ht => by rcases F4 t ht with h1 | h1; (exact .inl h1); (exact .inr (by omega))⟩)
      · go_wp2
        exact ⟨⟨k + 1, by omega, by go_num, by rw [HP.out, HD.out, if_pos HQ.out]; omega, hbr⟩, by simp [intOf]; omega⟩
    · go_wp2_with fail
      have HK := Lib.hid (show atS l nm = k by rw [HP.out, List.drop_eq_nil_of_le (by have := HL.out; omega)]; unfold atS; omega)
      have hbB := bthen hb1 hbr
      have al := (Below.refl wr.heap.size wr).alloc (Nat.le_refl _) (.cells #[.string nm, .slice none 0 0] 165)
      have hfv : ∀ j, (wr.alloc (.cells #[.string nm, .slice none 0 0] 165)).frozen? ⟨wr.heap.size, j, none⟩ = false := fun j => World.frozen?_alloc_at (w := wr) _ _ wr.heap.size j rfl
      obtain ⟨W, hW⟩ : ∃ W, W = wr.alloc (.cells #[.string nm, .slice none 0 0] 165) := ⟨_, rfl⟩
      obtain ⟨g, hg⟩ : ∃ g, wr.heap.size = g := ⟨_, rfl⟩
      have BX := BoxL.new wr [.string nm, .slice none 0 0] 165
      rw [← hW] at al BX hfv ⊢
      simp only [hg] at BX hfv ⊢
      have AW := (hA.keep cstK hbB).keep cstK al
      have hgw : w.heap.size ≤ g := by have := hbB.size; omega
      have BW := (Ch.of_below (S := fun t => t ∈ fq) hbB).trans (Ch.of_below (S := fun t => t ∈ fq) al)
      obtain ⟨css, fps, rfl, own, hlQ, EQ⟩ := AW.ex
      clear hlQ
      have v0 := BX.cell 0 _ rfl
      have v1 := BX.cell 1 _ rfl
      have hgW := BX.lt
      have s0 := keep_cell al r0
      have sf : W.frozen? ⟨b, 0, none⟩ = false := (al.frozen (p := ⟨b, 0, none⟩) (cell_lt r0)).trans ((hbB.frozen (p := ⟨b, 0, none⟩) hbl).trans hfz)
      have hbW2 := cell_lt s0
      have hbA : b ∉ blkL _ := fun h => hbq (List.mem_append_left _ h)
      clear hW hg hA hR hR1 AW al r0 q0 hc0
      refine (insert_own_cst 0 g n c k _ css.flatten (.string nm) (.slice none 0 0) W own (Nat.zero_le _) (by omega) hk (fun q hq he => by have := hnq q (List.mem_append_left _ (mem_blkL.2 hq)); omega) hfv v0 v1 (EQ.ones cstK) rfl rfl).mono ?_
      rintro e w4 ⟨A', c', rfl, own4, hch4, hob4⟩
      obtain ⟨fp', R4, N4, F4, C4⟩ := row_ins1 (x := (⟨nm, []⟩ : Cst)) cstK hk HL.out EQ ⟨none, 0, 0, [], rfl, rfl, RowO.nil⟩ hN own4 hch4 hob4 (Nat.le_refl _)
      have t0 := C4.cell s0 hbA
      have tf : w4.frozen? ⟨b, 0, none⟩ = false := (World.frozen?_of_block (C4.block b hbW2 hbA)).trans sf
      go_wp2
      go_returns
      exact .inr (.inr ⟨rfl, by rw [T.out]; have := HT0.out; omega, H5.out, w4, A', c', fp', rfl, BW.trans (C4.mono (fun t ht => List.mem_append_left _ ht)), by unfold insS; rw [HK.out]; exact R4, N4, fun t ht => by rcases F4 t ht with h1 | h1; (exact .inl h1); (exact .inr (by omega))⟩)
end Go.Proofs.YtdphdnllhmnelaaGreat
/- slices.Delete of one CSet out of a row of the call's own (printed by delc.py). -/
namespace Go.Proofs.YtdphdnllhmnelaaGreat
open Go.Shelf Go.RowKit Go.Lib
/-! ### a row that is cut -/
theorem own_cut {w : World} {base e sz n c g i : Nat} {xs : List Value} (h : w.ownsRow base e sz (.slice (some ⟨g, 0, none⟩) n c) n xs) (hi : i ≤ n) : w.ownsRow base e sz (.slice (some ⟨g, 0, none⟩) i c) i (xs.take (i * sz)) := by
  have hle : i * sz ≤ n * sz := Nat.mul_le_mul_right _ hi
  obtain ⟨hl, h2⟩ := h
  rcases h2 with ⟨hv, _⟩ | ⟨g', cap, cur, hv, hb, hg, hn, hm, hs, ht⟩
  · cases hv
  · injection hv with e1 e2 e3
    injection e1 with e1
    injection e1 with e1 _ _
    subst e1 e3
    refine ⟨by rw [List.length_take, hl]; omega, .inr ⟨g, c, cur, rfl, hb, hg, by omega, hm, hs, ?_⟩⟩
    rw [← ht, List.take_take, Nat.min_eq_left hle]
theorem own_clear {base e sz n c g : Nat} (zs : List Value) : ∀ (o : Nat) (w : World) (xs : List Value), w.ownsRow base e sz (.slice (some ⟨g, 0, none⟩) n c) n xs →
    ∃ ys, (w.setCells g o zs).ownsRow base e sz (.slice (some ⟨g, 0, none⟩) n c) n ys ∧ (∀ t, t < o → ys[t]? = xs[t]?) ∧ Ch (fun k => k = g) w (w.setCells g o zs) := by
  induction zs with
  | nil => intro o w xs h; exact ⟨xs, h, fun _ _ => rfl, Ch.refl _⟩
  | cons z zs ih =>
    intro o w xs h
    obtain ⟨ys, h1, h2, h3⟩ := ih (o + 1) (w.setCell ⟨g, o, none⟩ z) (xs.set o z) (h.stored o z).1
    refine ⟨ys, h1, fun t ht => ?_, ((Ch.refl (S := fun k => k = g) w).setCell (p := ⟨g, o, none⟩) rfl z).trans h3⟩
    rw [h2 t (by omega), List.getElem?_set, if_neg (by omega)]
theorem run_clear2 {P : Program} (w : World) (t e : TypeId) (z : Value) (ht : P.underlying t = some (.slice e)) (hv : ∀ w, (zeroValue e).run P w = .ok z w) (h1 : ∀ v ∈ z.cells, v.oneCell' = true) (b o n c : Nat)
    (hc : ∀ j, j < n * z.cells.size → (w.cell? ⟨b, o + j, none⟩).isSome = true) (hf : ∀ j, j < n * z.cells.size → w.frozen? ⟨b, o + j, none⟩ = false) :
    ∃ zs, ∀ ty, (Builtin.clear_ #[t] ty #[.slice (some ⟨b, o, none⟩) n c]).run P w = .ok (.tuple #[]) (w.setCells b o zs) := by
  rcases Nat.eq_zero_or_pos n with rfl | hn
  · exact ⟨[], fun ty => by simp [Builtin.clear_, run_underlying ht, World.setCells]⟩
  · refine ⟨(Builtin.zeroCells z.cells n).toList, fun ty => ?_⟩
    have hlen : (Builtin.zeroCells z.cells n).toList.length = n * z.cells.size := by simp [Builtin.zeroCells]
    have hst := run_storeCells_cells (P := P) b o (Builtin.zeroCells z.cells n).toList 0 w (by rw [hlen]; simpa using hc) (by rw [hlen]; simpa using hf) (by
      intro v hv'
      simp only [Builtin.zeroCells, Array.toList_map, List.mem_map] at hv'
      obtain ⟨i, hi, rfl⟩ := hv'
      have hsz : 0 < z.cells.size := by
        rcases Nat.eq_zero_or_pos z.cells.size with h0 | h0
        · rw [h0] at hi; simp at hi
        · exact h0
      rw [getElem!_pos z.cells _ (Nat.mod_lt _ hsz)]
      exact h1 _ (Array.getElem_mem _))
    simp only [Nat.add_zero] at hst
    obtain ⟨m, rfl⟩ : ∃ m, n = m + 1 := ⟨n - 1, by omega⟩
    simp [Builtin.clear_, run_underlying ht, hv, hst]

/-! ### the walk -/

theorem step_appN {P : Program} {ops : Array Oper} {o : Oper} {a : Act} {w : World} {K : Act → World → Prop} {Q : Exit → Act → World → Prop} {E : Prop}
    (hg : o.guard = none) (d x : Operand) (dT sT : TypeId) (hop : o.op = Op.call { callee := Callee.builtin Builtin.append, args := #[d, x], argTypes := #[dT, sT] })
    (v u : Value) (hd : a.eval d = v) (hx : a.eval x = u) {v' : Value} {w' : World} (hr : (Builtin.append_ #[dT, sT] o.type #[v, u]).run P w = .ok v' w') (hK : K (a.put o.dst v') w') :
    if Region.wanted o (yielded ops a.tmps) = true then Oper.wp P o a w K Q else E := by
  have hw : Region.wanted o (yielded ops a.tmps) = true := by simp [Region.wanted, hg]
  rw [if_pos hw]
  unfold Oper.wp execOp
  simp only [hop, resolve, invoke, builtin, Sem.run_bind, Sem.run_pure, Result.andThen_ok, List.map_toArray, List.map_cons, List.map_nil, hd, hx, hr]
  exact hK
theorem zeroCst (w : World) : (zeroValue 165).run Tryz.prog w = .ok (.agg #[.string ByteArray.empty, .slice none 0 0]) w := by
  first | (unfold zeroValue; kernel_rfl) | kernel_rfl | rfl
theorem zeroCst1 : ∀ v ∈ (Value.agg #[.string ByteArray.empty, .slice none 0 0]).cells, v.oneCell' = true := by
  intro v hv
  simp [Value.cells] at hv
  rcases hv with rfl | rfl <;> rfl
set_option maxHeartbeats 4000000 in
set_option maxRecDepth 100000 in
theorem del_cells (g n c i : Nat) (cs : List Value) (w : World) (hi : i < n) (hnc : n ≤ c) (hc63 : c ≤ 9223372036854775807) (hcl : cs.length = n * 2)
    (hcs : ∀ j v, cs[j]? = some v → w.cell? ⟨g, j, none⟩ = some v) (hfz : ∀ j, w.frozen? ⟨g, j, none⟩ = false) (h1c : ∀ v ∈ cs, v.oneCell' = true) :
    Calls Tryz.prog 173 #[.slice (some ⟨g, 0, none⟩) n c, .int .i64 i, .int .i64 ((i : Int) + 1)] w fun e w' =>
      ∃ zs, e = .returned (.slice (some ⟨g, 0, none⟩) (n - 1) c) ∧ w' = (w.drew.setCells g (i * 2) (cs.drop ((i + 1) * 2))).setCells g ((n - 1) * 2) zs := by
  have mixed : Tryz.prog.follows Departure.mixedOrders = true := by kernel_rfl
  obtain ⟨i0, hi0, hz0, hzs, hzb⟩ := info_parts cstInfo
  have hdl : (cs.drop ((i + 1) * 2)).length = (n - (i + 1)) * 2 := by rw [List.length_drop, hcl]; omega
  have hic : (i + (n - (i + 1))) = n - 1 := by omega
  have hsp : ∀ j, j < n * 2 → (w.cell? ⟨g, j, none⟩).isSome = true := fun j hj => by rw [hcs j _ (List.getElem?_eq_getElem (by omega))]; rfl
  have hap : ∀ ty q, (cs.drop ((i + 1) * 2) ≠ [] → q = (⟨g, (i + 1) * 2, none⟩ : Addr)) → (Builtin.append_ #[25, 25] ty #[.slice (some ⟨g, 0, none⟩) i c, .slice (some q) (n - (i + 1)) (c - (i + 1))]).run Tryz.prog w.drew = .ok (.slice (some ⟨g, 0, none⟩) (n - 1) c) (w.drew.setCells g (i * 2) (cs.drop ((i + 1) * 2))) := fun ty q hq => by
    have h := run_append_room_cells (P := Tryz.prog) w.drew 25 ty 165 i0 Tryz.underlying25 hi0 g 0 i c q (n - (i + 1)) (c - (i + 1)) (cs.drop ((i + 1) * 2)) (by rw [hzs]; exact hdl)
      (fun j u hu => by
        have hne : cs.drop ((i + 1) * 2) ≠ [] := fun h => by rw [h] at hu; simp at hu
        rw [hq hne, Addr.add_lit]
        exact hcs ((i + 1) * 2 + j) u (by rwa [List.getElem?_drop] at hu))
      (fun v hv => h1c v (List.mem_of_mem_drop hv)) (by omega) (fun j hj => by rw [hzs]; exact hsp _ (by omega)) (fun j hj => hfz _)
    rw [hic, hzs, Nat.zero_add] at h
    exact h
  obtain ⟨W1, hW1⟩ : ∃ W1, W1 = w.drew.setCells g (i * 2) (cs.drop ((i + 1) * 2)) := ⟨_, rfl⟩
  have hsp1 : ∀ k, k < n * 2 → (W1.cell? ⟨g, k, none⟩).isSome = true := fun k hk => by
    rw [hW1]
    exact some_setCells g (cs.drop ((i + 1) * 2)) (i * 2) w.drew (fun j hj => hsp _ (by omega)) k (hsp k hk)
  have hfz1 : ∀ k, W1.frozen? ⟨g, k, none⟩ = false := fun k => by rw [hW1, World.frozen?_setCells]; exact hfz k
  rw [← hW1] at hap ⊢
  obtain ⟨zs, hcl⟩ := run_clear2 (P := Tryz.prog) W1 25 165 (.agg #[.string ByteArray.empty, .slice none 0 0]) Tryz.underlying25 zeroCst zeroCst1 g ((n - 1) * 2) 1 (c - (n - 1)) (fun t ht => hsp1 _ (by simp [Value.cells] at ht; omega)) (fun t ht => hfz1 _)
  have hn1 : ((n - 1 : Nat) : Int) = (n : Int) - 1 := by omega
  have hb1 : (0 : Int) ≤ (i : Int) + 1 := by omega
  have htn : ((i : Int) + 1).toNat = i + 1 := by omega
  have hb2 : (i : Int) + 1 ≤ (n : Int) := by omega
  have hne : ¬ ((i : Int) = (i : Int) + 1) := by omega
  have h11 : n - (n - 1) = 1 := by omega
  have hc1 : ¬ (c = n - 1) := by omega
  have hnn : n - 1 ≤ n := by omega
  have hin : i ≤ n := by omega
  have hcii : i ≤ c := by omega
  have HWD := Lib.hid (show c = i + 1 → W1 = w.drew from fun hc => by rw [hW1, List.drop_eq_nil_of_le (by omega)]; rfl)
  clear hW1 hsp hsp1 hcs hfz hfz1 hdl
  by_cases hci : c = i + 1
  · have hnil : cs.drop ((i + 1) * 2) = [] := List.drop_eq_nil_of_le (by omega)
    have hn : n = i + 1 := by omega
    have HNIL := Lib.hid hnil
    rw [HWD.out hci] at hap hcl ⊢
    clear hnil
    subst hn hci
    have hii : (i : Int) ≤ (i : Int) + 1 := by omega
    have e1 : i + 1 - 1 = i := by omega
    have e2 : i + 1 - i = 1 := by omega
    have e3 : i + 1 - (i + 1) = 0 := by omega
    simp only [e1, e2, e3] at hap hcl hic h11 hc1 hnn ⊢
    go_enter Tryz.func173, Tryz.ntmps173
    go_wp2
    go_region_law_o (refine step_appN rfl _ _ 25 25 rfl _ _ (by simp [Act.eval, Act.put]) (by simp [Act.eval, Act.put]) (hap _ _ (fun h => absurd HNIL.out h)) ?_)
    go_wp2
    go_returns
    exact ⟨zs, rfl, rfl⟩
  · go_enter Tryz.func173, Tryz.ntmps173
    go_wp2
    go_region_law_o (refine step_appN rfl _ _ 25 25 rfl _ _ (by simp [Act.eval, Act.put]) (by simp [Act.eval, Act.put]) (hap _ _ (fun _ => rfl)) ?_)
    go_wp2
    go_returns
    exact ⟨zs, rfl, rfl⟩
end Go.Proofs.YtdphdnllhmnelaaGreat
/- slices.Delete of one CSet: on the row. -/
namespace Go.Proofs.YtdphdnllhmnelaaGreat
open Go.RowKit
theorem del_row (l : List Cst) (A : Option Addr) (n c i : Nat) (fq : List Nat) (w : World) (hA : RowO cstF 165 2 fq w A n c l) (hN : fq.Nodup) (hi : i < n) :
    Calls Tryz.prog 173 #[.slice A n c, .int .i64 i, .int .i64 ((i : Int) + 1)] w fun e w' => ∃ fq', e = .returned (.slice A (n - 1) c) ∧ RowO cstF 165 2 fq' w' A (n - 1) c (l.take i ++ l.drop (i + 1)) ∧
      fq'.Nodup ∧ (∀ t ∈ fq', t ∈ fq) ∧ Ch (fun t => t ∈ fq) w w' := by
  obtain ⟨css, fps, rfl, own, hl, E⟩ := hA.ex
  have hle := own_le own
  obtain ⟨x, hx⟩ : ∃ x, l[i]? = some x := ⟨_, List.getElem?_eq_getElem (by omega)⟩
  obtain ⟨g, rfl, hlg, hgh⟩ : ∃ g, A = some ⟨g, 0, none⟩ ∧ 0 ≤ g ∧ g < w.heap.size := by
    rcases own_form own with ⟨_, h0, _⟩ | h
    · omega
    · exact h
  have hone := E.ones cstK
  have hxl := own.1
  refine (del_cells g n c i css.flatten w hi hle.1 hle.2 hxl (fun j v hj => (own.cellAt j (by have := (List.getElem?_eq_some_iff.1 hj).1; omega)).trans hj) (fun j => own.frozenAt j) hone).mono ?_
  rintro e w' ⟨zs, rfl, rfl⟩
  obtain ⟨d1, d2, f1, f2, cs, f, rfl, rfl, E1, hF, E2⟩ := els_cut E hx
  have hc1 : d1.flatten.length = i * 2 := by rw [E1.flat cstK, List.length_take]; congr 1; omega
  have hcs : cs.length = 2 := cstK.rlen (cstK.fr hF)
  have hfl : (d1 ++ cs :: d2).flatten = (d1.flatten ++ cs) ++ d2.flatten := by simp
  have hdr : (d1 ++ cs :: d2).flatten.drop ((i + 1) * 2) = d2.flatten := by rw [hfl]; exact List.drop_left' (by rw [List.length_append, hc1, hcs]; omega)
  have hc2 : d2.flatten.length = (n - (i + 1)) * 2 := by rw [← hdr, List.length_drop, hxl]; omega
  rw [hdr]
  obtain ⟨y1, a1, a2, a3, a4⟩ := own_sets d2.flatten (i * 2) w.drew _ own
  obtain ⟨y2, b1, b2, b3, b4⟩ := own_sets zs ((n - 1) * 2) _ y1 a1
  have hcut := own_cut b1 (show n - 1 ≤ n by omega)
  have hy : y2.take ((n - 1) * 2) = (d1 ++ d2).flatten := by
    rw [List.flatten_append]
    apply List.ext_getElem?
    intro t
    rw [List.getElem?_append, hc1]
    by_cases c0 : t < (n - 1) * 2
    · rw [List.getElem?_take_of_lt c0, b2 t (.inl c0)]
      by_cases c1 : t < i * 2
      · rw [if_pos c1, a2 t (.inl c1), hfl, List.append_assoc, List.getElem?_append, hc1, if_pos c1]
      · rw [if_neg c1, ← a3 (t - i * 2) (by omega) (by omega), show i * 2 + (t - i * 2) = t by omega]
    · rw [List.getElem?_eq_none (by rw [List.length_take]; omega), if_neg (by omega), List.getElem?_eq_none (by omega)]
  rw [hy] at hcut
  have h0 : Ch (fun k => k = g) w w.drew := (Ch.refl w).drew
  have hch := (h0.trans a4).trans b4
  have hN2 := List.nodup_append.1 hN
  have hgA : g ∈ blkL (some ⟨g, 0, none⟩) := by simp [blkL]
  have E3 := (E1.app E2).ch cstK hch (fun b hb e => by
    subst e
    refine hN2.2.2 b hgA b ?_ rfl
    simp only [List.flatten_append, List.flatten_cons, List.mem_append] at hb ⊢
    rcases hb with h | h
    · exact .inl h
    · exact .inr (.inr h))
  refine ⟨_, rfl, RowO.intro hcut (by simp; omega) E3, ?_, fun t ht => ?_, hch.mono (fun k hk => by subst hk; exact List.mem_append_left _ hgA)⟩
  · refine hN.sublist (List.Sublist.append (List.Sublist.refl _) ?_)
    simp only [List.flatten_append, List.flatten_cons]
    exact List.Sublist.append (List.Sublist.refl _) (List.sublist_append_right _ _)
  · simp only [List.flatten_append, List.flatten_cons, List.mem_append] at ht ⊢
    rcases ht with h | h | h
    · exact .inl h
    · exact .inr (.inl h)
    · exact .inr (.inr (.inr h))
end Go.Proofs.YtdphdnllhmnelaaGreat
/- Plain laws on a catalog: its bounds; what a command makes of it. -/
namespace Go.Proofs.YtdphdnllhmnelaaGreat
open Go.RowKit
theorem all_at {n : Nat} {p : Nat → Bool} (h : (List.range n).all p = true) {k : Nat} (hk : k < n) : p k = true := by
  rw [List.all_eq_true] at h
  exact h k (List.mem_range.2 hk)
theorem tagB_size {t : ByteArray} (h : tagB t = true) : t.size ≤ 8 := by
  unfold tagB at h
  simp only [Bool.or_eq_true, decide_eq_true_eq] at h
  rcases h with rfl | h
  · exact Nat.zero_le _
  · exact wordB_size h
theorem snpOk_bd {p : Snp} (h : snpOkB p = true) : p.nm.size ≤ 8 ∧ p.tg.size ≤ 8 ∧ p.ch.length ≤ 4 := by
  unfold snpOkB at h
  simp only [Bool.and_eq_true] at h
  obtain ⟨⟨⟨h1, h2⟩, h3⟩, _⟩ := h
  have := inB_le h3
  exact ⟨wordB_size h1, tagB_size h2, by omega⟩
theorem cstOk_bd {s : Cst} (h : cstOkB s = true) : s.nm.size ≤ 8 ∧ s.snaps.length ≤ 5 ∧ ∀ p ∈ s.snaps, p.nm.size ≤ 8 ∧ p.tg.size ≤ 8 ∧ p.ch.length ≤ 4 := by
  unfold cstOkB at h
  simp only [Bool.and_eq_true, decide_eq_true_eq] at h
  obtain ⟨⟨h1, h2⟩, h3⟩ := h
  refine ⟨wordB_size h2, h3, fun p hp => ?_⟩
  obtain ⟨k, hk, rfl⟩ := List.getElem_of_mem hp
  unfold snpsOkB at h1
  have := all_at h1 hk
  unfold snpAtB at this
  rw [Bool.and_eq_true] at this
  have e := snpAt_of (List.getElem?_eq_getElem hk)
  rw [e] at this
  exact snpOk_bd this.1
theorem catOk_bd {x : Ctl} (h : catOkB x = true) : x.sets.length ≤ 5 ∧ ∀ s ∈ x.sets, s.nm.size ≤ 8 ∧ s.snaps.length ≤ 5 ∧ ∀ p ∈ s.snaps, p.nm.size ≤ 8 ∧ p.tg.size ≤ 8 ∧ p.ch.length ≤ 4 := by
  unfold catOkB at h
  rw [Bool.and_eq_true, decide_eq_true_eq] at h
  refine ⟨h.2, fun s hs => ?_⟩
  obtain ⟨k, hk, rfl⟩ := List.getElem_of_mem hs
  have := all_at h.1 hk
  unfold cstAtB at this
  rw [Bool.and_eq_true] at this
  have e := cstAt_of (List.getElem?_eq_getElem hk)
  rw [e] at this
  exact cstOk_bd this.1
/-- what a command makes of the set at k -/
def setDo (s : Cst) (m : Cm) : Cst × ByteArray :=
  if m.kd = 3 then (if 0 ≤ snpFnd s.snaps 0 m.nm then (s, exT) else if s.snaps.length = 5 then (s, fuT) else (comS s m, okT))
  else if m.kd = 4 then (if snpFnd s.snaps 0 m.nm < 0 then (s, noT) else (tagS s m (snpFnd s.snaps 0 m.nm).toNat, okT))
  else if m.kd = 5 then (⟨s.nm, pruL s.snaps (goneN s.snaps m.n.toNat)⟩, dgT (goneN s.snaps m.n.toNat))
  else (s, spTo (s.snaps.map tdT) s.snaps.length)
/-- what a command makes of a catalog -/
def catDo (x : Ctl) (m : Cm) : Ctl × ByteArray :=
  if catOkB x = false then (⟨[]⟩, ByteArray.empty) else if cmOkB m = false then (x, ByteArray.empty) else if m.kd = 0 then (x, ByteArray.empty)
  else if m.kd = 1 then (if 0 ≤ cstFnd x.sets 0 m.s then (x, exT) else if x.sets.length = 5 then (x, fuT) else (⟨insS x.sets m.s⟩, okT))
  else if m.kd = 7 then (x, spTo (x.sets.map Cst.nm) x.sets.length)
  else if cstFnd x.sets 0 m.s < 0 then (x, noT)
  else if m.kd = 2 then (⟨x.sets.take (cstFnd x.sets 0 m.s).toNat ++ x.sets.drop ((cstFnd x.sets 0 m.s).toNat + 1)⟩, okT)
  else (⟨x.sets.set (cstFnd x.sets 0 m.s).toNat (setDo (cstAt x.sets (cstFnd x.sets 0 m.s).toNat) m).1⟩, (setDo (cstAt x.sets (cstFnd x.sets 0 m.s).toNat) m).2)
end Go.Proofs.YtdphdnllhmnelaaGreat
/- What the program makes of a set in a row of its own: commit, tag, prune upon the row. -/
namespace Go.Proofs.YtdphdnllhmnelaaGreat
open Go.RowKit
/-- what a call upon the set at k leaves -/
def SetRow (l : List Cst) (m : Cm) (k qb n c : Nat) (fp : List Nat) (w : World) (e : Ending) (w' : World) : Prop :=
  ∃ fp', e = .returned (.string (setDo (cstAt l k) m).2) ∧ RowO cstF 165 2 fp' w' (some ⟨qb, 0, none⟩) n c (l.set k (setDo (cstAt l k) m).1) ∧ fp'.Nodup ∧ (∀ t ∈ fp', t ∈ fp ∨ w.heap.size ≤ t) ∧ Ch (fun t => t ∈ fp) w w'
structure SetCut (l : List Cst) (k qb n c : Nat) (fp : List Nat) (w : World) (x : Cst) (Q : Option Addr) (qn qc : Nat) (f : List Nat) (d1 d2 : List (List Value)) (f1 f2 : List (List Nat)) : Prop where
  hx : l[k]? = some x
  hfp : fp = blkL (some ⟨qb, 0, none⟩) ++ (f1 ++ f :: f2).flatten
  own : w.ownsRow 0 165 2 (.slice (some ⟨qb, 0, none⟩) n c) n (d1.flatten ++ ([.string x.nm, .slice Q qn qc] ++ d2.flatten))
  hl : n = l.length
  E1 : Els cstF w d1 f1 (l.take k)
  E2 : Els cstF w d2 f2 (l.drop (k + 1))
  S : RowO snpF 195 3 f w Q qn qc x.snaps
  c0 : w.cell? ⟨qb, k * 2, none⟩ = some (.string x.nm)
  c1 : w.cell? ⟨qb, k * 2 + 1, none⟩ = some (.slice Q qn qc)
  fz : w.frozen? ⟨qb, k * 2 + 1, none⟩ = false
  hN : (qb :: (f1.flatten ++ (f ++ f2.flatten))).Nodup
  Nf : f.Nodup
  hqf : qb ∉ f
  inn : ∀ t ∈ f, t ∈ fp
  qin : qb ∈ fp
  len : (l.take k).length = k
theorem set_cut {l : List Cst} {k qb n c : Nat} {fp : List Nat} {w : World} (hR : RowO cstF 165 2 fp w (some ⟨qb, 0, none⟩) n c l) (hN : fp.Nodup) (hk : k < n) :
    ∃ x Q qn qc f d1 d2 f1 f2, SetCut l k qb n c fp w x Q qn qc f d1 d2 f1 f2 := by
  obtain ⟨css, fps, rfl, own, hl, E⟩ := hR.ex
  obtain ⟨x, hx⟩ : ∃ x, l[k]? = some x := ⟨_, List.getElem?_eq_getElem (by omega)⟩
  obtain ⟨d1, d2, f1, f2, cs, f, rfl, rfl, E1, hF, E2⟩ := els_cut E hx
  obtain ⟨Q, qn, qc, fx, rfl, rfl, S⟩ := hF
  have own2 : w.ownsRow 0 165 2 (.slice (some ⟨qb, 0, none⟩) n c) n (d1.flatten ++ ([.string x.nm, .slice Q qn qc] ++ d2.flatten)) := by simpa [cstL] using own
  have hlen : (l.take k).length = k := by rw [List.length_take]; omega
  have hd1 : d1.flatten.length = k * 2 := by rw [E1.flat cstK, hlen]
  have hN' : (qb :: (f1.flatten ++ (f ++ f2.flatten))).Nodup := by simpa [blkL] using hN
  have hN2 := hN'
  simp only [List.nodup_cons, List.nodup_append, List.mem_append, not_or] at hN2
  exact ⟨x, Q, qn, qc, f, d1, d2, f1, f2, hx, rfl, own2, hl, E1, E2, S, by simpa using own_mid (r := 0) own2 hd1 rfl, own_mid (r := 1) own2 hd1 rfl, own.frozenAt _, hN', hN2.2.2.1.1, hN2.1.2.1,
    fun t ht => by simp [ht], by simp [blkL], hlen⟩
theorem SetCut.same {l : List Cst} {m : Cm} {k qb n c : Nat} {fp : List Nat} {w w' : World} {x : Cst} {Q : Option Addr} {qn qc : Nat} {f : List Nat} {d1 d2 : List (List Value)} {f1 f2 : List (List Nat)} (C : SetCut l k qb n c fp w x Q qn qc f d1 d2 f1 f2) (hR : RowO cstF 165 2 fp w (some ⟨qb, 0, none⟩) n c l) (hN : fp.Nodup)
    {t : ByteArray} (hs : setDo x m = (x, t)) (hb : Below w.heap.size w w') : SetRow l m k qb n c fp w (.returned (.string t)) w' := by
  unfold SetRow
  rw [cstAt_of C.hx, hs]
  have e1 : l.set k x = l := by rw [set_split C.hx, ← drop_one C.hx, List.take_append_drop]
  rw [e1]
  exact ⟨fp, rfl, hR.keep cstK hb, hN, fun t ht => .inl ht, Ch.of_below hb⟩
theorem SetCut.put {l : List Cst} {m : Cm} {k qb n c : Nat} {fp : List Nat} {w w1 w2 : World} {x x' : Cst} {Q Q' : Option Addr} {qn qc qn' qc' : Nat} {f f' : List Nat} {d1 d2 : List (List Value)} {f1 f2 : List (List Nat)} (C : SetCut l k qb n c fp w x Q qn qc f d1 d2 f1 f2)
    {t : ByteArray} (hs : setDo x m = (x', t)) (hx' : x'.nm = x.nm) (hc : Ch (fun b => b ∈ f) w w1) (hS : RowO snpF 195 3 f' w1 Q' qn' qc' x'.snaps) (hf : ∀ b ∈ f', b ∈ f ∨ w.heap.size ≤ b) (hfN : f'.Nodup) (hk : k < n)
    (hb : Below (w1.setCell ⟨qb, k * 2 + 1, none⟩ (.slice Q' qn' qc')).heap.size (w1.setCell ⟨qb, k * 2 + 1, none⟩ (.slice Q' qn' qc')) w2) : SetRow l m k qb n c fp w (.returned (.string t)) w2 := by
  have hl := C.hl
  obtain ⟨hR, hN, hC⟩ := upd_els1 (j := 1) (v := .slice Q' qn' qc') (x' := x') (w8 := w1.setCell ⟨qb, k * 2 + 1, none⟩ (.slice Q' qn' qc')) cstK C.own C.E1 C.E2 rfl (by omega) (by rw [C.len, List.length_drop]; omega) C.hN hc
    ⟨Q', qn', qc', f', by rw [cstL, hx']; rfl, rfl, hS⟩ hf hfN (by rw [C.len])
  unfold SetRow
  rw [cstAt_of C.hx, hs, set_split C.hx]
  refine ⟨_, rfl, hR.keep cstK hb, by simpa [blkL] using hN, fun t ht => ?_, (hC.mono (fun b hb => ?_)).trans (Ch.of_below hb)⟩
  · rw [C.hfp]
    simp only [blkL, List.flatten_append, List.flatten_cons, List.mem_append, Option.map_some, Option.toList_some, List.mem_singleton] at ht ⊢
    rcases ht with h | h | h | h
    · exact .inl (.inl h)
    · exact .inl (.inr (.inl h))
    · rcases hf t h with h2 | h2
      · exact .inl (.inr (.inr (.inl h2)))
      · exact .inr h2
    · exact .inl (.inr (.inr (.inr h)))
  · rcases hb with h | h
    · rw [h]; exact C.qin
    · exact C.inn b h
theorem SetCut.tagged {l : List Cst} {m : Cm} {k qb n c : Nat} {fp : List Nat} {w w1 : World} {x x' : Cst} {Q : Option Addr} {qn qc : Nat} {f : List Nat} {q1 q2 : List (List Value)} {f1 f2 : List (List Nat)} (C : SetCut l k qb n c fp w x Q qn qc f q1 q2 f1 f2) (hN : fp.Nodup)
    {t : ByteArray} (hs : setDo x m = (x', t)) (hx' : x'.nm = x.nm) (hc : Ch (fun b => b ∈ f) w w1) (hS : RowO snpF 195 3 f w1 Q qn qc x'.snaps) (hk : k < n) : SetRow l m k qb n c fp w (.returned (.string t)) w1 := by
  have hl := C.hl
  have hN2 := C.hN
  simp only [List.nodup_cons, List.nodup_append, List.mem_append, not_or] at hN2
  have d1 : ∀ b ∈ f1.flatten, ¬ b ∈ f := fun b h1 h2 => by grind
  have d2 : ∀ b ∈ f2.flatten, ¬ b ∈ f := fun b h1 h2 => by grind
  have o1 := own_chL C.own hc (fun b hb h2 => C.hqf (by
    have : b = qb := by simpa [blkL] using hb
    rw [← this]; exact h2))
  have E1 := C.E1.ch cstK hc d1
  have E2 := C.E2.ch cstK hc d2
  unfold SetRow
  rw [cstAt_of C.hx, hs, set_split C.hx]
  refine ⟨fp, rfl, ?_, hN, fun t ht => .inl ht, hc.mono (fun b hb => C.inn b hb)⟩
  have hX : cstF f w1 [.string x.nm, .slice Q qn qc] x' := ⟨Q, qn, qc, f, by rw [cstL, hx'], rfl, hS⟩
  have := RowO.intro (F := cstF) (e := 165) (sz := 2) (A := some ⟨qb, 0, none⟩) (n := n) (c := c) (l := l.take k ++ x' :: l.drop (k + 1)) (css := q1 ++ [.string x.nm, .slice Q qn qc] :: q2) (by simpa using o1) (by simp [C.len]; omega) (E1.app (l' := x' :: l.drop (k + 1)) (css' := [.string x.nm, .slice Q qn qc] :: q2) (fps' := f :: f2) (show _ ∧ _ from ⟨hX, E2⟩))
  rw [C.hfp]
  simp only []
  exact this
attribute [local irreducible] StrsAt StrR StrO RowR RowO snpFnd bareTo pruL dgT
set_option maxRecDepth 8000 in
theorem commit_row (l : List Cst) (m : Cm) (hkd : m.kd = 3) (k qb n c : Nat) (fp : List Nat) (A1 : Option Addr) (n1 c1 : Nat) (w : World) (hR : RowO cstF 165 2 fp w (some ⟨qb, 0, none⟩) n c l) (hN : fp.Nodup) (hk : k < n) (hm : StrR w A1 n1 c1 m.ch) (hn1 : n1 ≤ 1000) (hbd : ∀ s ∈ l, s.snaps.length ≤ 9) :
    Calls Tryz.prog 174 #[.pointer (some ⟨qb, k * 2, none⟩), cmV m (.slice A1 n1 c1)] w (SetRow l m k qb n c fp w) := by
  obtain ⟨x, Q, qn, qc, f, d1, d2, f1, f2, C⟩ := set_cut hR hN hk
  have hql := C.S.len
  have hq9 := hbd x (List.mem_of_getElem? C.hx)
  refine (commit_impl x m qb (k * 2) Q qn qc f A1 n1 c1 w C.c0 C.c1 C.fz C.S C.Nf C.hqf hm hn1 (by omega)).mono ?_
  rintro e w' (⟨rfl, hf, hb⟩ | ⟨rfl, hf, h5, hb⟩ | ⟨rfl, hf, h5, w1, Q', c', fq', rfl, hC, hS, hN', hF⟩)
  · exact C.same hR hN (by unfold setDo; rw [if_pos hkd, if_pos hf]) hb
  · exact C.same hR hN (by unfold setDo; rw [if_pos hkd, if_neg (by omega), if_pos (by omega)]) hb
  · exact C.put (x' := comS x m) (by unfold setDo; rw [if_pos hkd, if_neg (by omega), if_neg (by omega)]) rfl hC hS hF hN' hk (Below.refl _ _)
set_option maxRecDepth 8000 in
theorem tag_row (l : List Cst) (m : Cm) (hkd : m.kd = 4) (k qb n c : Nat) (fp : List Nat) (A1 : Option Addr) (n1 c1 : Nat) (w : World) (hR : RowO cstF 165 2 fp w (some ⟨qb, 0, none⟩) n c l) (hN : fp.Nodup) (hk : k < n) (hbd : ∀ s ∈ l, s.snaps.length ≤ 9) :
    Calls Tryz.prog 175 #[.pointer (some ⟨qb, k * 2, none⟩), cmV m (.slice A1 n1 c1)] w (SetRow l m k qb n c fp w) := by
  obtain ⟨x, Q, qn, qc, f, d1, d2, f1, f2, C⟩ := set_cut hR hN hk
  have hql := C.S.len
  have hq9 := hbd x (List.mem_of_getElem? C.hx)
  refine (tag_impl x m qb (k * 2) Q qn qc f A1 n1 c1 w C.c0 C.c1 C.S C.Nf C.hqf (by omega)).mono ?_
  rintro e w' (⟨rfl, hf, hb⟩ | ⟨rfl, j, hf, hj, hS, hC⟩)
  · exact C.same hR hN (by unfold setDo; rw [if_neg (by omega), if_pos hkd, if_pos hf]) hb
  · exact C.tagged hN (x' := tagS x m j) (by unfold setDo; rw [if_neg (by omega), if_pos hkd, if_neg (by omega), hf, Int.toNat_natCast]) rfl hC hS hk
set_option maxRecDepth 8000 in
theorem prune_row (l : List Cst) (m : Cm) (hkd : m.kd = 5) (h0 : 0 ≤ m.n) (h9 : m.n ≤ 9) (k qb n c : Nat) (fp : List Nat) (w : World) (hR : RowO cstF 165 2 fp w (some ⟨qb, 0, none⟩) n c l) (hN : fp.Nodup) (hk : k < n) (hbd : ∀ s ∈ l, s.snaps.length ≤ 9) :
    Calls Tryz.prog 176 #[.pointer (some ⟨qb, k * 2, none⟩), .int .i64 m.n] w (SetRow l m k qb n c fp w) := by
  obtain ⟨x, Q, qn, qc, f, d1, d2, f1, f2, C⟩ := set_cut hR hN hk
  have hql := C.S.len
  have hq9 := hbd x (List.mem_of_getElem? C.hx)
  have em : m.n = ((m.n.toNat : Nat) : Int) := by omega
  have := prune_impl x m.n.toNat qb (k * 2) Q qn qc f w C.c1 C.fz C.S C.Nf C.hqf (by omega) (by omega)
  rw [← em] at this
  refine this.mono ?_
  rintro e w' ⟨rfl, w1, Q', n', c', fq', hb, hb1, hS, hN', hF⟩
  exact C.put (x' := ⟨x.nm, pruL x.snaps (goneN x.snaps m.n.toNat)⟩) (by unfold setDo; rw [if_neg (by omega), if_neg (by omega), if_pos hkd]) rfl (Ch.of_below hb1) hS hF hN' hk hb
end Go.Proofs.YtdphdnllhmnelaaGreat
