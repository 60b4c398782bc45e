/- Contracts and lemmas: InsB, InsCSet, Create, DelCSet, DelRow, CatP, CatW, StateL, CatR, StateI, ShowSt. -/
import Derived.Test.YtdphdnllhmnelaaJ23
import Derived.Shelf.RegionOpenPlain
import Derived.Lib.Walk
import Derived.Lib.JoinLaws
import Derived.Lib.AppendZeros
import Derived.Lib.AppendZerosOnto
import Derived.Lib.Overlaps
import Derived.Laws.Externs
import Derived.Laws.NewBlocks
import Derived.Laws.LoneSync
import Derived.Laws.IdiomCopy
import Derived.Lib.SliceRun
import Derived.WalkKit
import Derived.Test.YtdphdnllhmnelaaJ26
import Derived.Test.YtdphdnllhmnelaaJ24
import Derived.Test.YtdphdnllhmnelaaJ27
import Derived.ArgAppend
import Derived.Test.YtdphdnllhmnelaaJ28
import Derived.Test.YtdphdnllhmnelaaJ29
import Derived.Test.YtdphdnllhmnelaaJ4
import Derived.Test.YtdphdnllhmnelaaJ7
/- slices.Insert: what does not speak of a type (printed by inserts.py). -/
namespace Go.Proofs.Ytdphdnllhmnelaa
open Go.Shelf Go.RowKit Go.Lib
/-! ### 'copy' at elements of any size -/
theorem run_copyN {P : Program} (w : World) (dT sT ty elem : TypeId) (sz b o dLen dCap : Nat) (a : Addr) (sLen sCap : Nat) (cs : List Value)
    (hu : P.underlying dT = some (.slice elem)) (hs : (P.info? elem).map (·.size) = some sz) (hn : cs.length = Nat.min sLen dLen * sz)
    (hsrc : ∀ j v, cs[j]? = some v → w.cell? (a.add j) = some v) (hc : ∀ j, j < cs.length → (w.cell? ⟨b, o + j, none⟩).isSome = true) (hf : ∀ j, j < cs.length → w.frozen? ⟨b, o + j, none⟩ = false) (h1 : ∀ v ∈ cs, v.oneCell' = true) :
    (Builtin.copy_ #[dT, sT] ty #[.slice (some ⟨b, o, none⟩) dLen dCap, .slice (some a) sLen sCap]).run P w = .ok (goInt (Nat.min sLen dLen)) (w.setCells b o cs) := by
  have hl := run_loadCells_list (P := P) w a cs hsrc
  have hst := run_storeCells_cells (P := P) b o cs 0 w (by simpa using hc) (by simpa using hf) h1
  cases hq : P.info? elem with
  | none => simp [hq] at hs
  | some i =>
    have hi : i.size = sz := by simpa [hq] using hs
    simp [Builtin.copy_, run_underlying hu, Builtin.lenOf, Builtin.firstCells, sizeOf, typeInfo, hq, hi, ← hn, hl, hst]
theorem wp_copyN {P : Program} (w : World) {o : Oper} {a : Act} {K : Act → World → Prop} {Q : Exit → Act → World → Prop} (d s : Operand) (t t' : TypeId)
    (ho : o.op = .call { callee := .builtin .copy, args := #[d, s], argTypes := #[t, t'] }) (v u : Value) (hd : a.eval d = v) (hs : a.eval s = u) {v' : Value} {w' : World}
    (hr : (Builtin.copy_ #[t, t'] o.type #[v, u]).run P w = .ok v' w') (h : K (a.put o.dst v') w') : o.wp P a w K Q := by
  unfold Oper.wp execOp
  simp only [ho, resolve, invoke, builtin, Sem.run_bind, Sem.run_pure, Result.andThen_ok, List.map_toArray, List.map_cons, List.map_nil, hd, hs, hr]
  exact h
theorem wpList_copyN {P : Program} (w : World) {ops : Array Oper} {rest : List Oper} {o : Oper} {a : Act} {Q : Exit → Act → World → Prop} (hgd : o.guard = none) (d s : Operand) (t t' : TypeId)
    (ho : o.op = .call { callee := .builtin .copy, args := #[d, s], argTypes := #[t, t'] }) (v u : Value) (hd : a.eval d = v) (hs : a.eval s = u) {v' : Value} {w' : World}
    (hr : (Builtin.copy_ #[t, t'] o.type #[v, u]).run P w = .ok v' w') (h : wpList P ops Q rest (a.put o.dst v') w') : wpList P ops Q (o :: rest) a w :=
  wpList_plain hgd fun _ hK => wp_copyN w d s t t' ho v u hd hs hr (hK _ _ h)
theorem step_copyN {P : Program} {ops : Array Oper} {o : Oper} {a : Act} {w : World} {K : Act → World → Prop} {Q : Exit → Act → World → Prop} {E : Prop}
    (hg : o.guard = none) (d x : Operand) (dT sT : TypeId) (hop : o.op = Op.call { callee := Callee.builtin Builtin.copy, args := #[d, x], argTypes := #[dT, sT] })
    (v u : Value) (hd : a.eval d = v) (hx : a.eval x = u) {v' : Value} {w' : World} (hr : (Builtin.copy_ #[dT, sT] o.type #[v, u]).run P w = .ok v' w') (hK : K (a.put o.dst v') w') :
    if Region.wanted o (yielded ops a.tmps) = true then Oper.wp P o a w K Q else E := by
  have hw : Region.wanted o (yielded ops a.tmps) = true := by simp [Region.wanted, hg]
  rw [if_pos hw]
  exact wp_copyN w d x dT sT hop v u hd hx hr hK
theorem some_setCells (b : Nat) (vs : List Value) (o : Nat) (w : World) (h : ∀ j, j < vs.length → (w.cell? ⟨b, o + j, none⟩).isSome = true) (k : Nat) (hk : (w.cell? ⟨b, k, none⟩).isSome = true) : ((w.setCells b o vs).cell? ⟨b, k, none⟩).isSome = true := by
  by_cases hin : o ≤ k ∧ k < o + vs.length
  · have := World.cell?_setCells_in b vs o w h (k - o) (by omega)
    rw [show o + (k - o) = k by omega] at this
    rw [this]; rfl
  · rw [World.cell?_setCells_out b vs o w ⟨b, k, none⟩ (fun _ _ => by show k < o ∨ o + vs.length ≤ k; omega)]
    exact hk

/-! ### one contract, on the row's cells -/
theorem own_more {w : World} {base e sz n c g m : Nat} {xs : List Value} (h : w.ownsRow base e sz (.slice (some ⟨g, 0, none⟩) n c) n xs) (hm : n ≤ m) (hc : m ≤ c) :
    ∃ ys, w.ownsRow base e sz (.slice (some ⟨g, 0, none⟩) m c) m ys ∧ ∀ t, t < n * sz → ys[t]? = xs[t]? := by
  have hle : n * sz ≤ m * sz := Nat.mul_le_mul_right _ hm
  obtain ⟨hl, h2⟩ := h
  rcases h2 with ⟨hv, _⟩ | ⟨g', cap, cur, hv, hb, hg, hn, hmx, hs, ht⟩
  · cases hv
  · injection hv with e1 e2 e3
    injection e1 with e1
    injection e1 with e1 _ _
    subst e1 e3
    have hcs : m * sz ≤ c * sz := Nat.mul_le_mul_right _ hc
    refine ⟨cur.toList.take (m * sz), ⟨by rw [List.length_take, Array.length_toList, hs]; omega, .inr ⟨g, c, cur, rfl, hb, hg, hc, hmx, hs, rfl⟩⟩, fun t htt => ?_⟩
    rw [← ht, List.getElem?_take_of_lt htt, List.getElem?_take_of_lt (by omega)]
theorem own_sets {base e sz n c g : Nat} (zs : List Value) : ∀ (o : Nat) (w : World) (xs : List Value), w.ownsRow base e sz (.slice (some ⟨g, 0, none⟩) n c) n xs →
    ∃ ys, (w.setCells g o zs).ownsRow base e sz (.slice (some ⟨g, 0, none⟩) n c) n ys ∧ (∀ t, t < o ∨ o + zs.length ≤ t → ys[t]? = xs[t]?) ∧ (∀ j, j < zs.length → o + j < n * sz → ys[o + j]? = zs[j]?) ∧ Ch (fun k => k = g) w (w.setCells g o zs) := by
  induction zs with
  | nil => intro o w xs h; exact ⟨xs, h, fun _ _ => rfl, fun j hj => absurd hj (by simp), Ch.refl _⟩
  | cons z zs ih =>
    intro o w xs h
    have hl := h.1
    obtain ⟨ys, h1, h2, h3, h4⟩ := ih (o + 1) (w.setCell ⟨g, o, none⟩ z) (xs.set o z) (h.stored o z).1
    refine ⟨ys, h1, fun t ht => ?_, fun j hj hx => ?_, ((Ch.refl (S := fun k => k = g) w).setCell (p := ⟨g, o, none⟩) rfl z).trans h4⟩
    · simp only [List.length_cons] at ht
      rw [h2 t (by omega), List.getElem?_set, if_neg (by omega)]
    · rcases j with _ | j
      · rw [Nat.add_zero] at hx ⊢
        rw [h2 o (.inl (by omega)), List.getElem?_set, if_pos rfl, if_pos (by omega)]; rfl
      · simp only [List.length_cons] at hj
        have := h3 j (by omega) (by omega)
        rw [show o + (j + 1) = o + 1 + j by omega, this]; rfl
end Go.Proofs.Ytdphdnllhmnelaa
/- slices.Insert of one CSet into a row of the call's own (printed by inserts.py). -/
namespace Go.Proofs.Ytdphdnllhmnelaa
open Go.Shelf Go.RowKit Go.Lib
theorem sizeEntry_cst (w : World) : (Go.sizeOf 148).run Try.prog w = .ok 2 w := by
  first | (unfold Go.sizeOf; kernel_rfl) | kernel_rfl | rfl
theorem infoSize_cst : (Try.prog.info? 148).map (·.size) = some 2 := by kernel_rfl

set_option maxHeartbeats 4000000 in
set_option maxRecDepth 100000 in
/-- there is room, i < len(s): in place -/
theorem ins_shift_cst (b n c i vb : Nat) (cs : List Value) (v0 v1 : Value) (w : World) (hi : i < n) (hroom : n + 1 ≤ c) (hc63 : c ≤ 9223372036854775807) (hvb : vb ≠ b) (hcl : cs.length = n * 2)
    (hcs : ∀ j v, cs[j]? = some v → w.cell? ⟨b, j, none⟩ = some v) (hsp : ∀ j, j < (n + 1) * 2 → (w.cell? ⟨b, j, none⟩).isSome = true) (hfz : ∀ j, w.frozen? ⟨b, j, none⟩ = false)
    (hv0 : w.cell? ⟨vb, 0, none⟩ = some v0) (hv1 : w.cell? ⟨vb, 1, none⟩ = some v1) (h1c : ∀ v ∈ cs, v.oneCell' = true) (h10 : v0.oneCell' = true) (h11 : v1.oneCell' = true) (hfv : ∀ j, w.frozen? ⟨vb, j, none⟩ = false) :
    Calls Try.prog 200 #[.slice (some ⟨b, 0, none⟩) n c, .int .i64 i, .slice (some ⟨vb, 0, none⟩) 1 1] w fun e w' =>
      e = .returned (.slice (some ⟨b, 0, none⟩) (n + 1) c) ∧ w' = (w.drew.setCells b ((i + 1) * 2) (cs.drop (i * 2))).setCells b (i * 2) [v0, v1] := by
  obtain ⟨tA, kA, hsa, _, _⟩ := World.shape?_of_cell? hv0
  obtain ⟨u, hu⟩ := Option.isSome_iff_exists.1 (hsp 0 (by omega))
  obtain ⟨tB, kB, hsb, hkB, _⟩ := World.shape?_of_cell? hu
  have hkB : kB ≠ 0 := by omega
  have hz2 : ¬ ((i : Int) = (n : Int)) := by omega
  have hov : ∀ lb cb, (callFunc 209 #[.slice (some ⟨vb, 0, none⟩) 1 1, .slice (some ⟨b, (i + 1) * 2, none⟩) lb cb]).run Try.prog w = .ok (.value (.bool false)) w := fun lb cb => by
    rw [run_callFunc_extern Try.func209 (by kernel_rfl) (by kernel_rfl) (by kernel_rfl) (e := Extern.SlicesOverlaps.overlaps #[82, 82] #[4]) (by kernel_rfl),
      Lib.run_overlaps_apart w 82 4 148 Try.underlying82 2 sizeEntry_cst ⟨vb, 0, none⟩ ⟨b, (i + 1) * 2, none⟩ 1 1 lb cb hvb tA tB kA kB hsa hsb hkB (hfv 0) (hfv kA)]
    rfl
  have hdl : (cs.drop (i * 2)).length = (n - i) * 2 := by rw [List.length_drop, hcl]; omega
  have mixed : Try.prog.follows Departure.mixedOrders = true := by kernel_rfl
  have hw1 : IntKind.i64.wrap ((i : Int) + 1) = (i : Int) + 1 := by rw [IntKind.wrap_i64]; omega
  have hb1 : (0 : Int) ≤ (i : Int) + 1 := by omega
  have htn : ((i : Int) + 1).toNat = i + 1 := by omega
  have hb3 : (i : Int) ≤ (n : Int) + 1 := by omega
  have hin : i ≤ n := by omega
  have hb2 : ¬ (c = i + 1) := by omega
  have hb4 : ¬ (c = i) := by omega
  have hcp1 : ∀ ty dc sc, (Builtin.copy_ #[82, 82] ty #[.slice (some ⟨b, (i + 1) * 2, none⟩) (n - i) dc, .slice (some ⟨b, i * 2, none⟩) (n + 1 - i) sc]).run Try.prog w.drew = .ok (goInt ((n - i : Nat) : Int)) (w.drew.setCells b ((i + 1) * 2) (cs.drop (i * 2))) := fun ty dc sc => by
    have hmin : Nat.min (n + 1 - i) (n - i) = n - i := by simp only [Nat.min_def]; split <;> omega
    have := run_copyN (P := Try.prog) w.drew 82 82 ty 148 2 b ((i + 1) * 2) (n - i) dc ⟨b, i * 2, none⟩ (n + 1 - i) sc (cs.drop (i * 2)) Try.underlying82 infoSize_cst (by rw [hdl, hmin])
      (fun j v hj => by rw [Addr.add_lit]; exact hcs (i * 2 + j) v (by rwa [List.getElem?_drop] at hj))
      (fun j hj => hsp _ (by omega)) (fun j hj => hfz _) (fun v hv => h1c v (List.mem_of_mem_drop hv))
    rwa [hmin] at this
  obtain ⟨W1, hW1⟩ : ∃ W1, W1 = w.drew.setCells b ((i + 1) * 2) (cs.drop (i * 2)) := ⟨_, rfl⟩
  have hsp1 : ∀ k, k < (n + 1) * 2 → (W1.cell? ⟨b, k, none⟩).isSome = true := fun k hk => by
    rw [hW1]
    exact some_setCells b (cs.drop (i * 2)) ((i + 1) * 2) w.drew (fun j hj => hsp ((i + 1) * 2 + j) (by rw [hdl] at hj; omega)) k (hsp k hk)
  have hcp2 : ∀ (W : World), (∀ x, W.cell? x = W1.cell? x) → (∀ x, W.frozen? x = W1.frozen? x) → ∀ ty dc, (Builtin.copy_ #[82, 82] ty #[.slice (some ⟨b, i * 2, none⟩) (n + 1 - i) dc, .slice (some ⟨vb, 0, none⟩) 1 1]).run Try.prog W = .ok (goInt 1) (W.setCells b (i * 2) [v0, v1]) := fun W hWc hWf ty dc => by
    have hmin : Nat.min 1 (n + 1 - i) = 1 := by simp only [Nat.min_def]; split <;> omega
    have := run_copyN (P := Try.prog) W 82 82 ty 148 2 b (i * 2) (n + 1 - i) dc ⟨vb, 0, none⟩ 1 1 [v0, v1] Try.underlying82 infoSize_cst (by rw [hmin]; rfl)
      (fun j v hj => by
        rw [Addr.add_lit, hWc, hW1, World.cell?_setCells_out b _ _ _ _ (fun h _ => absurd h hvb), Nat.zero_add]
        rcases j with _ | _ | j
        · injection hj with hj; subst hj; exact hv0
        · injection hj with hj; subst hj; exact hv1
        · cases hj)
      (fun j hj => by rw [hWc]; exact hsp1 _ (by simp at hj; omega)) (fun j hj => by rw [hWf, hW1, World.frozen?_setCells]; exact hfz _) (fun v hv => by
        simp at hv; rcases hv with rfl | rfl
        · exact h10
        · exact h11)
    rwa [hmin] at this
  rw [← hW1] at hcp1
  clear hsp1
  go_enter Try.func200, Try.ntmps200
  go_wp2_with (simp only [hov])
  go_region_law_o (refine step_copyN rfl _ _ 82 82 rfl _ _ (by simp [Act.eval, Act.put]) (by simp [Act.eval, Act.put]) (hcp1 _ _ _) ?_)
  go_wp2_with (at_builtin; refine wpList_copyN _ rfl _ _ 82 82 rfl _ _ rfl rfl (hcp2 _ (fun _ => rfl) (fun _ => rfl) _ _) ?_)
  go_returns
  first | exact ⟨rfl, rfl⟩ | exact ⟨rfl, by rw [hW1]⟩

theorem zeroE_size_cst (k : Nat) : (Builtin.zeroCells (Value.agg #[.string ByteArray.empty, .slice none 0 0]).cells k).size = k * 2 := by
  simp [Builtin.zeroCells, Value.cells]
set_option maxHeartbeats 4000000 in
set_option maxRecDepth 100000 in
/-- i < len(s), no room: a new row -/
theorem ins_grow_cst (b n c i vb : Nat) (cs : List Value) (v0 v1 : Value) (w : World) (hi : i < n) (hnc : n ≤ c) (hroom : c < n + 1) (hbig : (n + 1) * 40 ≤ 140737488355328) (hcl : cs.length = n * 2)
    (hcs : ∀ j v, cs[j]? = some v → w.cell? ⟨b, j, none⟩ = some v)
    (hv0 : w.cell? ⟨vb, 0, none⟩ = some v0) (hv1 : w.cell? ⟨vb, 1, none⟩ = some v1) (h1c : ∀ v ∈ cs, v.oneCell' = true) (h10 : v0.oneCell' = true) (h11 : v1.oneCell' = true) :
    Calls Try.prog 200 #[.slice (some ⟨b, 0, none⟩) n c, .int .i64 i, .slice (some ⟨vb, 0, none⟩) 1 1] w fun e w' =>
      ∃ G ROW, n + 1 ≤ G ∧ G ≤ maxLen ∧ ROW.size = G * 2 ∧ (∀ j, j < i * 2 → ROW[j]? = cs[j]?) ∧ e = .returned (.slice (some ⟨w.heap.size, 0, none⟩) (n + 1) G) ∧
      w' = (((w.alloc (.cells ROW 148)).drew.setCells w.heap.size (i * 2) [v0, v1]).drew).setCells w.heap.size ((i + 1) * 2) (cs.drop (i * 2)) := by
  have mixed : Try.prog.follows Departure.mixedOrders = true := by kernel_rfl
  obtain ⟨i0, hi0, hz0, hzs, hzb⟩ := info_parts cstInfo
  have hz2 : ¬ ((i : Int) = (n : Int)) := by omega
  have hz3 : (c : Int) < (n : Int) + 1 := by omega
  have hbw : b < w.heap.size := cell_lt (hcs 0 _ (List.getElem?_eq_getElem (by omega)))
  have hvw : vb < w.heap.size := cell_lt hv0
  have hkk : (n : Int) + 1 - (i : Int) = ((n + 1 - i : Nat) : Int) := by omega
  have hik : i + (n + 1 - i) = n + 1 := by omega
  have hold : (Builtin.firstCells i0.size i (.slice (some ⟨b, 0, none⟩) i c)).run Try.prog w.drew = .ok (cs.take (i * 2)).toArray w.drew := by
    rw [hzs]
    exact run_firstCells_some w.drew 2 i ⟨b, 0, none⟩ i c (cs.take (i * 2)) (by rw [List.length_take]; omega) (fun j v hj => by
      rw [Addr.add_lit, Nat.zero_add]
      rw [List.getElem?_take] at hj
      split at hj
      · exact hcs j v hj
      · cases hj)
  obtain ⟨G, hG⟩ : ∃ G, G = grownCap w (n + 1) c 148 := ⟨_, rfl⟩
  obtain ⟨ROW, hROW⟩ : ∃ ROW : Array Value, ROW = (cs.take (i * 2)).toArray ++ Builtin.zeroCells (Value.agg #[.string ByteArray.empty, .slice none 0 0]).cells (n + 1 - i) ++ Builtin.zeroCells (Value.agg #[.string ByteArray.empty, .slice none 0 0]).cells (G - (n + 1)) := ⟨_, rfl⟩
  have hrz : ∀ ty, (Builtin.append_ #[82, 3] ty #[.slice (some ⟨b, 0, none⟩) i c, .int .i64 ((n : Int) + 1 - (i : Int))]).run Try.prog w =
      .ok (.slice (some ⟨w.heap.size, 0, none⟩) (n + 1) G) (w.drew.alloc (.cells ROW 148)) := fun ty => by
    have h := Lib.run_append_grow_zeros w 82 3 ty 148 i0 _ .i64 .i64 Try.underlying82 Try.underlying3 hi0 hz0 (some ⟨b, 0, none⟩) i c (cs.take (i * 2)) hold (n + 1 - i) (by omega) (by omega) (by omega) (by omega) (by rw [hzb]; omega) (by rw [hzb, hik]; exact growslice_fits hroom hbig)
    rw [hik, ← hG, ← hROW] at h
    rw [hkk]
    exact h
  have hGn : n + 1 ≤ G := by rw [hG]; exact grownCap_ge w _ _ _
  have hGm : G ≤ maxLen := by rw [hG]; exact grownCap_le_maxLen w (n + 1) c 148 (by unfold maxLen; omega)
  have hG63 : G ≤ 9223372036854775807 := by unfold maxLen at hGm; omega
  have hRl : ROW.size = G * 2 := by
    rw [hROW, Array.size_append, Array.size_append, zeroE_size_cst, zeroE_size_cst]
    simp [hcl]
    omega
  have hRc : ∀ j, j < i * 2 → ROW[j]? = cs[j]? := fun j hj => by
    have hl : (cs.take (i * 2)).length = i * 2 := by rw [List.length_take]; omega
    rw [hROW, Array.getElem?_append, if_pos (by simp [hcl, zeroE_size_cst]; omega), Array.getElem?_append, if_pos (by simp [hcl]; omega)]
    simp [hj]
  obtain ⟨W1, hW1⟩ : ∃ W1, W1 = w.drew.alloc (.cells ROW 148) := ⟨_, rfl⟩
  rw [← hW1] at hrz
  have hN : ∀ j, j < (n + 1) * 2 → (W1.cell? ⟨w.heap.size, j, none⟩).isSome = true := fun j hj => by
    rw [hW1, World.cell?_alloc_at (w := w.drew) ROW _ w.heap.size j rfl, Array.getElem?_eq_getElem (by omega)]; rfl
  have hNf : ∀ j, W1.frozen? ⟨w.heap.size, j, none⟩ = false := fun j => by rw [hW1]; exact World.frozen?_alloc_at (w := w.drew) ROW _ w.heap.size j rfl
  have hOb : ∀ j v, w.cell? ⟨b, j, none⟩ = some v → W1.cell? ⟨b, j, none⟩ = some v := fun j v h => by rw [hW1, World.cell?_alloc_past (w := w.drew) _ b j hbw]; exact h
  have hOv : ∀ j v, w.cell? ⟨vb, j, none⟩ = some v → W1.cell? ⟨vb, j, none⟩ = some v := fun j v h => by rw [hW1, World.cell?_alloc_past (w := w.drew) _ vb j hvw]; exact h
  have hcpA : ∀ (W : World), (∀ x, W.cell? x = W1.cell? x) → (∀ x, W.frozen? x = W1.frozen? x) → ∀ ty dc, (Builtin.copy_ #[82, 82] ty #[.slice (some ⟨w.heap.size, i * 2, none⟩) (n + 1 - i) dc, .slice (some ⟨vb, 0, none⟩) 1 1]).run Try.prog W = .ok (goInt 1) (W.setCells w.heap.size (i * 2) [v0, v1]) := fun W hWc hWf ty dc => by
    have hmin : Nat.min 1 (n + 1 - i) = 1 := by simp only [Nat.min_def]; split <;> omega
    have := run_copyN (P := Try.prog) W 82 82 ty 148 2 w.heap.size (i * 2) (n + 1 - i) dc ⟨vb, 0, none⟩ 1 1 [v0, v1] Try.underlying82 infoSize_cst (by rw [hmin]; rfl)
      (fun j v hj => by
        rw [Addr.add_lit, hWc, Nat.zero_add]
        rcases j with _ | _ | j
        · injection hj with hj; subst hj; exact hOv _ _ hv0
        · injection hj with hj; subst hj; exact hOv _ _ hv1
        · cases hj)
      (fun j hj => by rw [hWc]; exact hN _ (by simp at hj; omega)) (fun j hj => by rw [hWf]; exact hNf _) (fun v hv => by
        simp at hv; rcases hv with rfl | rfl
        · exact h10
        · exact h11)
    rwa [hmin] at this
  have hGi : ¬ (G = i) := by omega
  have hGim : ¬ (G = i + 1) := by omega
  have hci : ¬ (c = i) := by omega
  have hbN : b ≠ w.heap.size := by omega
  have hdl : (cs.drop (i * 2)).length = (n - i) * 2 := by rw [List.length_drop, hcl]; omega
  have hcpB : ∀ (W : World), (∀ x, W.cell? x = (W1.setCells w.heap.size (i * 2) [v0, v1]).cell? x) → (∀ x, W.frozen? x = (W1.setCells w.heap.size (i * 2) [v0, v1]).frozen? x) → ∀ ty dc sc, (Builtin.copy_ #[82, 82] ty #[.slice (some ⟨w.heap.size, (i + 1) * 2, none⟩) (n - i) dc, .slice (some ⟨b, i * 2, none⟩) (n - i) sc]).run Try.prog W = .ok (goInt ((n - i : Nat) : Int)) (W.setCells w.heap.size ((i + 1) * 2) (cs.drop (i * 2))) := fun W hWc hWf ty dc sc => by
    have hmin : Nat.min (n - i) (n - i) = n - i := by simp only [Nat.min_def]; split <;> omega
    have := run_copyN (P := Try.prog) W 82 82 ty 148 2 w.heap.size ((i + 1) * 2) (n - i) dc ⟨b, i * 2, none⟩ (n - i) sc (cs.drop (i * 2)) Try.underlying82 infoSize_cst (by rw [hdl, hmin])
      (fun j v hj => by
        rw [Addr.add_lit, hWc, World.cell?_setCells_out _ _ _ _ _ (fun h _ => absurd h hbN)]
        exact hOb _ v (hcs (i * 2 + j) v (by rwa [List.getElem?_drop] at hj)))
      (fun j hj => by rw [hWc]; exact some_setCells _ _ _ _ (fun t ht => hN _ (by simp at ht; omega)) _ (hN _ (by omega)))
      (fun j hj => by rw [hWf, World.frozen?_setCells]; exact hNf _) (fun v hv => h1c v (List.mem_of_mem_drop hv))
    rwa [hmin] at this
  subst hW1
  have hE1 : ∀ x, ((w.alloc (.cells ROW 148)).drew).cell? x = (w.drew.alloc (.cells ROW 148)).cell? x := fun x => rfl
  have hE2 : ∀ x, ((w.alloc (.cells ROW 148)).drew).frozen? x = (w.drew.alloc (.cells ROW 148)).frozen? x := fun x => rfl
  have hF1 : ∀ x, (((w.alloc (.cells ROW 148)).drew.setCells w.heap.size (i * 2) [v0, v1]).drew).cell? x = ((w.drew.alloc (.cells ROW 148)).setCells w.heap.size (i * 2) [v0, v1]).cell? x := fun x => rfl
  have hF2 : ∀ x, (((w.alloc (.cells ROW 148)).drew.setCells w.heap.size (i * 2) [v0, v1]).drew).frozen? x = ((w.drew.alloc (.cells ROW 148)).setCells w.heap.size (i * 2) [v0, v1]).frozen? x := fun x => rfl
  have hw1 : IntKind.i64.wrap ((i : Int) + 1) = (i : Int) + 1 := by rw [IntKind.wrap_i64]; omega
  have hb1 : (0 : Int) ≤ (i : Int) + 1 := by omega
  have hin : i ≤ n := by omega
  have htn : ((i : Int) + 1).toNat = i + 1 := by omega
  have hb3 : (i : Int) ≤ (n : Int) := by omega
  clear hkk hik hold hROW hG hN hNf hOb hOv
  go_enter Try.func200, Try.ntmps200
  go_wp2_with (first
    | (at_builtin; refine Lib.wpList_append_run _ rfl _ _ _ _ rfl _ _ rfl rfl _ _ (hrz _) ?_)
    | (at_builtin; refine wpList_copyN _ rfl _ _ 82 82 rfl _ _ rfl rfl (hcpA _ hE1 hE2 _ _) ?_)
    | (at_builtin; refine wpList_copyN _ rfl _ _ 82 82 rfl _ _ rfl rfl (hcpB _ (fun _ => rfl) (fun _ => rfl) _ _ _) ?_))
  go_region_law_o (refine step_copyN rfl _ _ 82 82 rfl (.slice (some ⟨w.heap.size, (i + 1) * 2, none⟩) (n - i) (G - (i + 1))) (.slice (some ⟨b, i * 2, none⟩) (n - i) (c - i)) (by simp [Act.eval, Act.put]) (by simp [Act.eval, Act.put]) (hcpB _ hF1 hF2 3 (G - (i + 1)) (c - i)) ?_)
  go_wp2
  go_returns
  exact ⟨G, ROW, hGn, hGm, hRl, hRc, rfl, rfl⟩

set_option maxRecDepth 100000 in
/-- at the end: as an append -/
theorem ins_end_cst (lo vb n c : Nat) (A : Option Addr) (xs : List Value) (v0 v1 : Value) (w : World) (hown : w.ownsRow lo 148 2 (.slice A n c) n xs) (hlo : lo ≤ w.heap.size) (hn : n ≤ 1048576)
    (hv0 : w.cell? ⟨vb, 0, none⟩ = some v0) (hv1 : w.cell? ⟨vb, 1, none⟩ = some v1) (h10 : v0.oneCell' = true) (h11 : v1.oneCell' = true) :
    Calls Try.prog 200 #[.slice A n c, .int .i64 n, .slice (some ⟨vb, 0, none⟩) 1 1] w fun e w' =>
      ∃ A' c', e = .returned (.slice A' (n + 1) c') ∧ w'.ownsRow lo 148 2 (.slice A' (n + 1) c') (n + 1) (xs ++ [v0, v1]) ∧ w.grownBy w' (Value.slice A n c).ownBlock ∧
      ((Value.slice A' (n + 1) c').ownBlock = (Value.slice A n c).ownBlock ∨ (Value.slice A' (n + 1) c').ownBlock = some w.heap.size) := by
  have mixed : Try.prog.follows Departure.mixedOrders = true := by kernel_rfl
  have hsrc : CellsAt w (some ⟨vb, 0, none⟩) 1 2 [v0, v1] := by
    refine ⟨rfl, fun _ => ⟨vb, 0, rfl, fun j u hu => ?_⟩⟩
    rcases j with _ | _ | j
    · injection hu with hu; subst hu; exact hv0
    · injection hu with hu; subst hu; exact hv1
    · cases hu
  have hle := own_le hown
  have hle1 := hle.1
  have hle2 := hle.2
  rcases own_form hown with ⟨rfl, rfl, rfl, rfl⟩ | ⟨g, rfl, _, _⟩
  · go_enter Try.func200, Try.ntmps200
    go_wp2_with (at_builtin; refine wpList_app (P := Try.prog) w rfl _ _ 82 rfl lo 148 _ 2 40 Try.underlying82 cstInfo rfl (by omega) (.slice none 0 0) 0 [] rfl hown (some ⟨vb, 0, none⟩) 1 1 [v0, v1] rfl hsrc (by simp [h10, h11]) (fun h => by cases h) (by unfold maxLen; omega) (by omega) hlo ?_; intro A' c' w1 hown1 hg1 hb1 hob1)
    go_returns
    exact ⟨A', c', rfl, hown1, hg1, hob1⟩
  · go_enter Try.func200, Try.ntmps200
    go_wp2_with (at_builtin; refine wpList_app (P := Try.prog) w rfl _ _ 82 rfl lo 148 _ 2 40 Try.underlying82 cstInfo rfl (by omega) (.slice (some ⟨g, 0, none⟩) n c) n xs rfl hown (some ⟨vb, 0, none⟩) 1 1 [v0, v1] rfl hsrc (by simp [h10, h11]) (fun h => by cases h) (by unfold maxLen; omega) (by omega) hlo ?_; intro A' c' w1 hown1 hg1 hb1 hob1)
    all_goals (go_returns; exact ⟨A', c', rfl, hown1, hg1, hob1⟩)

/-- the cells with an element inserted -/
theorem ins_ext_cst {ys xs : List Value} {v0 v1 : Value} {n i : Nat} (hi : i ≤ n) (hx : xs.length = n * 2) (hy : ys.length = (n + 1) * 2) (h0 : ∀ t, t < i * 2 → ys[t]? = xs[t]?) (h1 : ∀ j, j < 2 → ys[i * 2 + j]? = [v0, v1][j]?)
    (h2 : ∀ j, j < (n - i) * 2 → ys[(i + 1) * 2 + j]? = (xs.drop (i * 2))[j]?) : ys = xs.take (i * 2) ++ [v0, v1] ++ xs.drop (i * 2) := by
  have hl : (xs.take (i * 2)).length = i * 2 := by rw [List.length_take]; omega
  apply List.ext_getElem?
  intro t
  rw [List.append_assoc, List.getElem?_append, hl]
  by_cases c1 : t < i * 2
  · rw [if_pos c1, h0 t c1, List.getElem?_take_of_lt c1]
  · rw [if_neg c1]
    by_cases c2 : t < (i + 1) * 2
    · rw [List.getElem?_append, if_pos (by simp; omega), ← h1 (t - i * 2) (by omega), show i * 2 + (t - i * 2) = t by omega]
    · rw [List.getElem?_append, if_neg (by simp; omega)]
      by_cases c3 : t < (n + 1) * 2
      · rw [show t - i * 2 - [v0, v1].length = t - (i + 1) * 2 by simp; omega, ← h2 (t - (i + 1) * 2) (by omega), show (i + 1) * 2 + (t - (i + 1) * 2) = t by omega]
      · rw [List.getElem?_eq_none (by omega), List.getElem?_eq_none (by simp; omega)]

theorem insert_own_cst (lo vb n c i : Nat) (A : Option Addr) (xs : List Value) (v0 v1 : Value) (w : World) (hown : w.ownsRow lo 148 2 (.slice A n c) n xs) (hlo : lo ≤ w.heap.size) (hn : n ≤ 1048576) (hi : i ≤ n)
    (hvb : ∀ g, BlkOf A g → vb ≠ g) (hfv : ∀ j, w.frozen? ⟨vb, j, none⟩ = false) (hv0 : w.cell? ⟨vb, 0, none⟩ = some v0) (hv1 : w.cell? ⟨vb, 1, none⟩ = some v1)
    (h1c : ∀ v ∈ xs, v.oneCell' = true) (h10 : v0.oneCell' = true) (h11 : v1.oneCell' = true) :
    Calls Try.prog 200 #[.slice A n c, .int .i64 i, .slice (some ⟨vb, 0, none⟩) 1 1] w fun e w' =>
      ∃ A' c', e = .returned (.slice A' (n + 1) c') ∧ w'.ownsRow lo 148 2 (.slice A' (n + 1) c') (n + 1) (xs.take (i * 2) ++ [v0, v1] ++ xs.drop (i * 2)) ∧ Ch (fun k => (Value.slice A n c).ownBlock = some k) w w' ∧
      ((Value.slice A' (n + 1) c').ownBlock = (Value.slice A n c).ownBlock ∨ (Value.slice A' (n + 1) c').ownBlock = some w.heap.size) := by
  have hxl := hown.1
  by_cases hin : i = n
  · subst hin
    refine (ins_end_cst lo vb i c A xs v0 v1 w hown hlo hn hv0 hv1 h10 h11).mono ?_
    rintro e w' ⟨A', c', rfl, h1, h2, h3⟩
    refine ⟨A', c', rfl, ?_, Ch.of_grow h2, h3⟩
    rwa [List.take_of_length_le (by omega), List.drop_eq_nil_of_le (by omega), List.append_nil]
  · have hle := own_le hown
    obtain ⟨g, rfl, hlg, hgh⟩ : ∃ g, A = some ⟨g, 0, none⟩ ∧ lo ≤ g ∧ g < w.heap.size := by
      rcases own_form hown with ⟨_, h0, _⟩ | h
      · omega
      · exact h
    have hcell : ∀ j v, xs[j]? = some v → w.cell? ⟨g, j, none⟩ = some v := fun j v hj => by
      exact (hown.cellAt j (by have := (List.getElem?_eq_some_iff.1 hj).1; omega)).trans hj
    have hdl : (xs.drop (i * 2)).length = (n - i) * 2 := by rw [List.length_drop, hxl]; omega
    by_cases hroom : n + 1 ≤ c
    · obtain ⟨ys, hy, hyx⟩ := own_more hown (Nat.le_succ n) hroom
      refine (ins_shift_cst g n c i vb xs v0 v1 w (by omega) hroom hle.2 (hvb g (by simp [BlkOf])) hxl hcell (fun j hj => ?_) (fun j => hown.frozenAt j) hv0 hv1 h1c h10 h11 hfv).mono ?_
      · obtain ⟨u, hu⟩ := own_cell hy (j := j) (by omega)
        rw [hu]; rfl
      rintro e w' ⟨rfl, rfl⟩
      obtain ⟨y1, a1, a2, a3, a4⟩ := own_sets (xs.drop (i * 2)) ((i + 1) * 2) w.drew ys hy
      obtain ⟨y2, b1, b2, b3, b4⟩ := own_sets [v0, v1] (i * 2) _ y1 a1
      have hE : y2 = xs.take (i * 2) ++ [v0, v1] ++ xs.drop (i * 2) := by
        refine ins_ext_cst (by omega) hxl b1.1 (fun t ht => ?_) (fun j hj => ?_) (fun j hj => ?_)
        · rw [b2 t (.inl ht), a2 t (.inl (by omega)), hyx t (by omega)]
        · exact b3 j hj (by omega)
        · rw [b2 _ (.inr (by simp; omega)), a3 j (by omega) (by omega)]
      rw [hE] at b1
      refine ⟨_, _, rfl, b1, ?_, .inl rfl⟩
      have h0 : Ch (fun k => k = g) w w.drew := (Ch.refl w).drew
      exact ((h0.trans a4).trans b4).mono (fun k hk => by subst hk; rfl)
    · refine (ins_grow_cst g n c i vb xs v0 v1 w (by omega) hle.1 (by omega) (by omega) hxl hcell hv0 hv1 h1c h10 h11).mono ?_
      rintro e w' ⟨G, ROW, hG1, hG2, hR, hRc, rfl, rfl⟩
      have h0 : Ch (fun k => k = w.heap.size) w ((w.alloc (.cells ROW 148)).drew) := ((Ch.refl w).alloc _).drew
      have ho : ((w.alloc (.cells ROW 148)).drew).ownsRow lo 148 2 (.slice (some ⟨w.heap.size, 0, none⟩) (n + 1) G) (n + 1) (ROW.toList.take ((n + 1) * 2)) :=
        ⟨by simp [hR]; omega, .inr ⟨w.heap.size, G, ROW, rfl, hlo, by show (w.heap.push _)[w.heap.size]? = _; simp, hG1, hG2, hR, rfl⟩⟩
      obtain ⟨y1, a1, a2, a3, a4⟩ := own_sets [v0, v1] (i * 2) _ _ ho
      have a1' : (((w.alloc (.cells ROW 148)).drew.setCells w.heap.size (i * 2) [v0, v1]).drew).ownsRow lo 148 2 (.slice (some ⟨w.heap.size, 0, none⟩) (n + 1) G) (n + 1) y1 := a1
      obtain ⟨y2, b1, b2, b3, b4⟩ := own_sets (xs.drop (i * 2)) ((i + 1) * 2) _ y1 a1'
      have hE : y2 = xs.take (i * 2) ++ [v0, v1] ++ xs.drop (i * 2) := by
        refine ins_ext_cst (by omega) hxl b1.1 (fun t ht => ?_) (fun j hj => ?_) (fun j hj => ?_)
        · rw [b2 t (.inl (by omega)), a2 t (.inl ht), List.getElem?_take_of_lt (by omega), Array.getElem?_toList, hRc t ht]
        · rw [b2 _ (.inl (by omega)), a3 j hj (by omega)]
        · rw [b3 j (by omega) (by omega)]
      rw [hE] at b1
      refine ⟨_, _, rfl, b1, ?_, .inr rfl⟩
      have hC := ((h0.trans a4).drew).trans b4
      exact ⟨hC.os, hC.tape, hC.output, hC.size, fun k hk _ => hC.block k hk (by omega)⟩
end Go.Proofs.Ytdphdnllhmnelaa
/- What the program does to a catalog of its own: create. -/
namespace Go.Proofs.Ytdphdnllhmnelaa
open Go.RowKit
attribute [local go_sem] Grow.cell Grow.frozen
/-- how many sets stand ahead of a name -/
def atS : List Cst → ByteArray → Nat
  | [], _ => 0
  | s :: l, nm => if sLt s.nm nm then atS l nm + 1 else 0
theorem atS_le (nm : ByteArray) : ∀ l : List Cst, atS l nm ≤ l.length
  | [] => Nat.le_refl _
  | s :: l => by have := atS_le nm l; unfold atS; simp only [List.length_cons]; split <;> omega
theorem atS_drop {l : List Cst} {k : Nat} {x : Cst} (nm : ByteArray) (hx : l[k]? = some x) : atS (l.drop k) nm = if sLt x.nm nm then atS (l.drop (k + 1)) nm + 1 else 0 := by
  obtain ⟨hk, rfl⟩ := List.getElem?_eq_some_iff.1 hx
  rw [List.drop_eq_getElem_cons hk, atS]
/-- the sets with one more -/
def insS (l : List Cst) (nm : ByteArray) : List Cst := l.take (atS l nm) ++ ⟨nm, []⟩ :: l.drop (atS l nm)
attribute [local irreducible] StrsAt StrR StrO RowR RowO cstFnd sLt atS
set_option maxRecDepth 8000 in
set_option maxHeartbeats 8000000 in
theorem create_impl (l : List Cst) (nm : ByteArray) (b : Nat) (A : Option Addr) (n c : Nat) (fq : List Nat) (w : World) (hc0 : w.cell? ⟨b, 0, none⟩ = some (.slice A n c)) (hfz : w.frozen? ⟨b, 0, none⟩ = false)
    (hA : RowO cstF 148 2 fq w A n c l) (hN : fq.Nodup) (hbq : b ∉ fq) (hn : n ≤ 1000) :
    Calls Try.prog 186 #[.pointer (some ⟨b, 0, none⟩), .string nm] w fun e w' => (e = .returned (.string exT) ∧ 0 ≤ cstFnd l 0 nm ∧ Below w.heap.size w w') ∨ (e = .returned (.string fuT) ∧ cstFnd l 0 nm < 0 ∧ n = 5 ∧ Below w.heap.size w w') ∨
      (e = .returned (.string okT) ∧ cstFnd l 0 nm < 0 ∧ n ≠ 5 ∧ ∃ w1 A' c' fq', w' = w1.setCell ⟨b, 0, none⟩ (.slice A' (n + 1) c') ∧ Ch (fun t => t ∈ fq) w w1 ∧ RowO cstF 148 2 fq' w1 A' (n + 1) c' (insS l nm) ∧ fq'.Nodup ∧ ∀ t ∈ fq', t ∈ fq ∨ w.heap.size ≤ t) := by
  have hbl := cell_lt hc0
  have hnq : ∀ t ∈ fq, t < w.heap.size := hA.lt cstK
  have HL := Lib.hid hA.len
  have hR := hA.at_ cstK (by omega)
  have hfnd := cstFnd_impl ⟨l⟩ nm A n c w hR (by omega)
  unfold ctlV at hfnd
  go_enter Try.func186, Try.ntmps186
  go_wp2_with fail
  refine hfnd.mono ?_
  rintro r w1 ⟨rfl, hb1⟩
  obtain ⟨t, ht⟩ : ∃ t, cstFnd l 0 nm = t := ⟨_, rfl⟩
  have T := Lib.hid ht
  simp only [ht]
  clear ht hfnd
  have q0 := keep_cell hb1 hc0
  have hb1s := hb1.size
  have hbW := cell_lt q0
  by_cases ht0 : 0 ≤ t
  · have gd : decide (t ≥ 0) = true := decide_eq_true ht0
    have HT0 := Lib.hid ht0; have hnl : ¬ t < 0 := by omega
    go_wp2
    go_returns
    exact .inl ⟨rfl, by rw [T.out]; exact HT0.out, hb1⟩
  have gd : decide (t ≥ 0) = false := decide_eq_false ht0
  have HT0 := Lib.hid ht0; have hlt0 : t < 0 := (by omega); clear ht0
  by_cases h5 : n = 5
  · have g5 : ((n : Int) == 5) = true := beq_iff_eq.2 (by omega)
    have H5 := Lib.hid h5; clear h5
    go_wp2
    go_returns
    exact .inr (.inl ⟨rfl, by rw [T.out]; have := HT0.out; omega, H5.out, hb1⟩)
  have g5 : ((n : Int) == 5) = false := beq_eq_false_iff_ne.2 (by omega)
  have H5 := Lib.hid h5; clear h5
  go_wp2
  have hR1 := hR.keep cstK hb1
  go_loopw [5] (fun i wr => ∃ k : Nat, k ≤ n ∧ i = .int .i64 k ∧ atS l nm = k + atS (l.drop k) nm ∧ Below w1.heap.size w1 wr) (fun i _ => n - (intOf i).toNat)
  case atStart => exact ⟨0, Nat.zero_le _, rfl, by simp, Below.refl _ _⟩
  case round =>
    obtain ⟨k, hk, rfl, hp, hbr⟩ := hrel
    have HP := Lib.hid hp; clear hp
    have r0 := keep_cell hbr q0
    by_cases hlt : k < n
    · have k1 := hR1.keep cstK hbr
      obtain ⟨qb, qo, rfl⟩ := k1.head (by omega)
      obtain ⟨bl, y, cs, hy, ⟨B1, m1, d1, rfl, y1⟩, hcell⟩ := k1.elem_at hlt
      have f0 : wr.cell? ⟨qb, qo + k * 2, none⟩ = some (.string y.nm) := hcell 0 _ rfl
      have HD := Lib.hid (atS_drop nm hy)
      clear hcell hy y1
      obtain ⟨q, hq⟩ : ∃ q, Op.bytesLess y.nm.toList nm.toList = q := ⟨_, rfl⟩
      have HQ := Lib.hid (show sLt y.nm nm = q by unfold sLt; exact hq)
      cases q
      · go_wp2_with fail
        have HK := Lib.hid (show atS l nm = k by rw [HP.out, HD.out, if_neg (by rw [HQ.out]; simp)]; omega)
        have hbB := bthen hb1 hbr
        have al := (Below.refl wr.heap.size wr).alloc (Nat.le_refl _) (.cells #[.string nm, .slice none 0 0] 148)
        have hfv : ∀ j, (wr.alloc (.cells #[.string nm, .slice none 0 0] 148)).frozen? ⟨wr.heap.size, j, none⟩ = false := fun j => World.frozen?_alloc_at (w := wr) _ _ wr.heap.size j rfl
        obtain ⟨W, hW⟩ : ∃ W, W = wr.alloc (.cells #[.string nm, .slice none 0 0] 148) := ⟨_, rfl⟩
        obtain ⟨g, hg⟩ : ∃ g, wr.heap.size = g := ⟨_, rfl⟩
        have BX := BoxL.new wr [.string nm, .slice none 0 0] 148
        rw [← hW] at al BX hfv ⊢
        simp only [hg] at BX hfv ⊢
        have AW := (hA.keep cstK hbB).keep cstK al
        have hgw : w.heap.size ≤ g := by have := hbB.size; omega
        have BW := (Ch.of_below (S := fun t => t ∈ fq) hbB).trans (Ch.of_below (S := fun t => t ∈ fq) al)
        obtain ⟨css, fps, rfl, own, hlQ, EQ⟩ := AW.ex
        clear hlQ
        have v0 := BX.cell 0 _ rfl
        have v1 := BX.cell 1 _ rfl
        have hgW := BX.lt
        have s0 := keep_cell al r0
        have sf : W.frozen? ⟨b, 0, none⟩ = false := (al.frozen (p := ⟨b, 0, none⟩) (cell_lt r0)).trans ((hbB.frozen (p := ⟨b, 0, none⟩) hbl).trans hfz)
        have hbW2 := cell_lt s0
        have hbA : b ∉ blkL _ := fun h => hbq (List.mem_append_left _ h)
        clear hW hg hA hR hR1 AW al r0 q0 hc0
        refine (insert_own_cst 0 g n c k _ css.flatten (.string nm) (.slice none 0 0) W own (Nat.zero_le _) (by omega) hk (fun q hq he => by have := hnq q (List.mem_append_left _ (mem_blkL.2 hq)); omega) hfv v0 v1 (EQ.ones cstK) rfl rfl).mono ?_
        rintro e w4 ⟨A', c', rfl, own4, hch4, hob4⟩
        obtain ⟨fp', R4, N4, F4, C4⟩ := row_ins1 (x := (⟨nm, []⟩ : Cst)) cstK hk HL.out EQ ⟨none, 0, 0, [], rfl, rfl, RowO.nil⟩ hN own4 hch4 hob4 (Nat.le_refl _)
        have t0 := C4.cell s0 hbA
        have tf : w4.frozen? ⟨b, 0, none⟩ = false := (World.frozen?_of_block (C4.block b hbW2 hbA)).trans sf
        go_wp2
        go_returns
        exact .inr (.inr ⟨rfl, by rw [T.out]; have := HT0.out; omega, H5.out, w4, A', c', fp', rfl, BW.trans (C4.mono (fun t ht => List.mem_append_left _ ht)), by unfold insS; rw [HK.out]; exact R4, N4, fun t ht => by rcases F4 t ht with h1 | h1; (exact .inl h1); (exact .inr (by omega))⟩)
      · go_wp2
        exact ⟨⟨k + 1, by omega, by go_num, by rw [HP.out, HD.out, if_pos HQ.out]; omega, hbr⟩, by simp [intOf]; omega⟩
    · go_wp2_with fail
      have HK := Lib.hid (show atS l nm = k by rw [HP.out, List.drop_eq_nil_of_le (by have := HL.out; omega)]; unfold atS; omega)
      have hbB := bthen hb1 hbr
      have al := (Below.refl wr.heap.size wr).alloc (Nat.le_refl _) (.cells #[.string nm, .slice none 0 0] 148)
      have hfv : ∀ j, (wr.alloc (.cells #[.string nm, .slice none 0 0] 148)).frozen? ⟨wr.heap.size, j, none⟩ = false := fun j => World.frozen?_alloc_at (w := wr) _ _ wr.heap.size j rfl
      obtain ⟨W, hW⟩ : ∃ W, W = wr.alloc (.cells #[.string nm, .slice none 0 0] 148) := ⟨_, rfl⟩
      obtain ⟨g, hg⟩ : ∃ g, wr.heap.size = g := ⟨_, rfl⟩
      have BX := BoxL.new wr [.string nm, .slice none 0 0] 148
      rw [← hW] at al BX hfv ⊢
      simp only [hg] at BX hfv ⊢
      have AW := (hA.keep cstK hbB).keep cstK al
      have hgw : w.heap.size ≤ g := by have := hbB.size; omega
      have BW := (Ch.of_below (S := fun t => t ∈ fq) hbB).trans (Ch.of_below (S := fun t => t ∈ fq) al)
      obtain ⟨css, fps, rfl, own, hlQ, EQ⟩ := AW.ex
      clear hlQ
      have v0 := BX.cell 0 _ rfl
      have v1 := BX.cell 1 _ rfl
      have hgW := BX.lt
      have s0 := keep_cell al r0
      have sf : W.frozen? ⟨b, 0, none⟩ = false := (al.frozen (p := ⟨b, 0, none⟩) (cell_lt r0)).trans ((hbB.frozen (p := ⟨b, 0, none⟩) hbl).trans hfz)
      have hbW2 := cell_lt s0
      have hbA : b ∉ blkL _ := fun h => hbq (List.mem_append_left _ h)
      clear hW hg hA hR hR1 AW al r0 q0 hc0
      refine (insert_own_cst 0 g n c k _ css.flatten (.string nm) (.slice none 0 0) W own (Nat.zero_le _) (by omega) hk (fun q hq he => by have := hnq q (List.mem_append_left _ (mem_blkL.2 hq)); omega) hfv v0 v1 (EQ.ones cstK) rfl rfl).mono ?_
      rintro e w4 ⟨A', c', rfl, own4, hch4, hob4⟩
      obtain ⟨fp', R4, N4, F4, C4⟩ := row_ins1 (x := (⟨nm, []⟩ : Cst)) cstK hk HL.out EQ ⟨none, 0, 0, [], rfl, rfl, RowO.nil⟩ hN own4 hch4 hob4 (Nat.le_refl _)
      have t0 := C4.cell s0 hbA
      have tf : w4.frozen? ⟨b, 0, none⟩ = false := (World.frozen?_of_block (C4.block b hbW2 hbA)).trans sf
      go_wp2
      go_returns
      exact .inr (.inr ⟨rfl, by rw [T.out]; have := HT0.out; omega, H5.out, w4, A', c', fp', rfl, BW.trans (C4.mono (fun t ht => List.mem_append_left _ ht)), by unfold insS; rw [HK.out]; exact R4, N4, fun t ht => by rcases F4 t ht with h1 | h1; (exact .inl h1); (exact .inr (by omega))⟩)
end Go.Proofs.Ytdphdnllhmnelaa
/- slices.Delete of one CSet out of a row of the call's own (printed by delc.py). -/
namespace Go.Proofs.Ytdphdnllhmnelaa
open Go.Shelf Go.RowKit Go.Lib
/-! ### a row that is cut -/
theorem own_cut {w : World} {base e sz n c g i : Nat} {xs : List Value} (h : w.ownsRow base e sz (.slice (some ⟨g, 0, none⟩) n c) n xs) (hi : i ≤ n) : w.ownsRow base e sz (.slice (some ⟨g, 0, none⟩) i c) i (xs.take (i * sz)) := by
  have hle : i * sz ≤ n * sz := Nat.mul_le_mul_right _ hi
  obtain ⟨hl, h2⟩ := h
  rcases h2 with ⟨hv, _⟩ | ⟨g', cap, cur, hv, hb, hg, hn, hm, hs, ht⟩
  · cases hv
  · injection hv with e1 e2 e3
    injection e1 with e1
    injection e1 with e1 _ _
    subst e1 e3
    refine ⟨by rw [List.length_take, hl]; omega, .inr ⟨g, c, cur, rfl, hb, hg, by omega, hm, hs, ?_⟩⟩
    rw [← ht, List.take_take, Nat.min_eq_left hle]
theorem run_clear2 {P : Program} (w : World) (t e : TypeId) (z : Value) (ht : P.underlying t = some (.slice e)) (hv : ∀ w, (zeroValue e).run P w = .ok z w) (h1 : ∀ v ∈ z.cells, v.oneCell' = true) (b o n c : Nat)
    (hc : ∀ j, j < n * z.cells.size → (w.cell? ⟨b, o + j, none⟩).isSome = true) (hf : ∀ j, j < n * z.cells.size → w.frozen? ⟨b, o + j, none⟩ = false) :
    ∃ zs, ∀ ty, (Builtin.clear_ #[t] ty #[.slice (some ⟨b, o, none⟩) n c]).run P w = .ok (.tuple #[]) (w.setCells b o zs) := by
  rcases Nat.eq_zero_or_pos n with rfl | hn
  · exact ⟨[], fun ty => by simp [Builtin.clear_, run_underlying ht, World.setCells]⟩
  · refine ⟨(Builtin.zeroCells z.cells n).toList, fun ty => ?_⟩
    have hlen : (Builtin.zeroCells z.cells n).toList.length = n * z.cells.size := by simp [Builtin.zeroCells]
    have hst := run_storeCells_cells (P := P) b o (Builtin.zeroCells z.cells n).toList 0 w (by rw [hlen]; simpa using hc) (by rw [hlen]; simpa using hf) (by
      intro v hv'
      simp only [Builtin.zeroCells, Array.toList_map, List.mem_map] at hv'
      obtain ⟨i, hi, rfl⟩ := hv'
      have hsz : 0 < z.cells.size := by
        rcases Nat.eq_zero_or_pos z.cells.size with h0 | h0
        · rw [h0] at hi; simp at hi
        · exact h0
      rw [getElem!_pos z.cells _ (Nat.mod_lt _ hsz)]
      exact h1 _ (Array.getElem_mem _))
    simp only [Nat.add_zero] at hst
    obtain ⟨m, rfl⟩ : ∃ m, n = m + 1 := ⟨n - 1, by omega⟩
    simp [Builtin.clear_, run_underlying ht, hv, hst]

/-! ### the walk -/

theorem step_appN {P : Program} {ops : Array Oper} {o : Oper} {a : Act} {w : World} {K : Act → World → Prop} {Q : Exit → Act → World → Prop} {E : Prop}
    (hg : o.guard = none) (d x : Operand) (dT sT : TypeId) (hop : o.op = Op.call { callee := Callee.builtin Builtin.append, args := #[d, x], argTypes := #[dT, sT] })
    (v u : Value) (hd : a.eval d = v) (hx : a.eval x = u) {v' : Value} {w' : World} (hr : (Builtin.append_ #[dT, sT] o.type #[v, u]).run P w = .ok v' w') (hK : K (a.put o.dst v') w') :
    if Region.wanted o (yielded ops a.tmps) = true then Oper.wp P o a w K Q else E := by
  have hw : Region.wanted o (yielded ops a.tmps) = true := by simp [Region.wanted, hg]
  rw [if_pos hw]
  unfold Oper.wp execOp
  simp only [hop, resolve, invoke, builtin, Sem.run_bind, Sem.run_pure, Result.andThen_ok, List.map_toArray, List.map_cons, List.map_nil, hd, hx, hr]
  exact hK
theorem zeroCst (w : World) : (zeroValue 148).run Try.prog w = .ok (.agg #[.string ByteArray.empty, .slice none 0 0]) w := by
  first | (unfold zeroValue; kernel_rfl) | kernel_rfl | rfl
theorem zeroCst1 : ∀ v ∈ (Value.agg #[.string ByteArray.empty, .slice none 0 0]).cells, v.oneCell' = true := by
  intro v hv
  simp [Value.cells] at hv
  rcases hv with rfl | rfl <;> rfl
set_option maxHeartbeats 4000000 in
set_option maxRecDepth 100000 in
theorem del_cells (g n c i : Nat) (cs : List Value) (w : World) (hi : i < n) (hnc : n ≤ c) (hc63 : c ≤ 9223372036854775807) (hcl : cs.length = n * 2)
    (hcs : ∀ j v, cs[j]? = some v → w.cell? ⟨g, j, none⟩ = some v) (hfz : ∀ j, w.frozen? ⟨g, j, none⟩ = false) (h1c : ∀ v ∈ cs, v.oneCell' = true) :
    Calls Try.prog 189 #[.slice (some ⟨g, 0, none⟩) n c, .int .i64 i, .int .i64 ((i : Int) + 1)] w fun e w' =>
      ∃ zs, e = .returned (.slice (some ⟨g, 0, none⟩) (n - 1) c) ∧ w' = (w.drew.setCells g (i * 2) (cs.drop ((i + 1) * 2))).setCells g ((n - 1) * 2) zs := by
  have mixed : Try.prog.follows Departure.mixedOrders = true := by kernel_rfl
  obtain ⟨i0, hi0, hz0, hzs, hzb⟩ := info_parts cstInfo
  have hdl : (cs.drop ((i + 1) * 2)).length = (n - (i + 1)) * 2 := by rw [List.length_drop, hcl]; omega
  have hic : (i + (n - (i + 1))) = n - 1 := by omega
  have hsp : ∀ j, j < n * 2 → (w.cell? ⟨g, j, none⟩).isSome = true := fun j hj => by rw [hcs j _ (List.getElem?_eq_getElem (by omega))]; rfl
  have hap : ∀ ty q, (cs.drop ((i + 1) * 2) ≠ [] → q = (⟨g, (i + 1) * 2, none⟩ : Addr)) → (Builtin.append_ #[82, 82] ty #[.slice (some ⟨g, 0, none⟩) i c, .slice (some q) (n - (i + 1)) (c - (i + 1))]).run Try.prog w.drew = .ok (.slice (some ⟨g, 0, none⟩) (n - 1) c) (w.drew.setCells g (i * 2) (cs.drop ((i + 1) * 2))) := fun ty q hq => by
    have h := run_append_room_cells (P := Try.prog) w.drew 82 ty 148 i0 Try.underlying82 hi0 g 0 i c q (n - (i + 1)) (c - (i + 1)) (cs.drop ((i + 1) * 2)) (by rw [hzs]; exact hdl)
      (fun j u hu => by
        have hne : cs.drop ((i + 1) * 2) ≠ [] := fun h => by rw [h] at hu; simp at hu
        rw [hq hne, Addr.add_lit]
        exact hcs ((i + 1) * 2 + j) u (by rwa [List.getElem?_drop] at hu))
      (fun v hv => h1c v (List.mem_of_mem_drop hv)) (by omega) (fun j hj => by rw [hzs]; exact hsp _ (by omega)) (fun j hj => hfz _)
    rw [hic, hzs, Nat.zero_add] at h
    exact h
  obtain ⟨W1, hW1⟩ : ∃ W1, W1 = w.drew.setCells g (i * 2) (cs.drop ((i + 1) * 2)) := ⟨_, rfl⟩
  have hsp1 : ∀ k, k < n * 2 → (W1.cell? ⟨g, k, none⟩).isSome = true := fun k hk => by
    rw [hW1]
    exact some_setCells g (cs.drop ((i + 1) * 2)) (i * 2) w.drew (fun j hj => hsp _ (by omega)) k (hsp k hk)
  have hfz1 : ∀ k, W1.frozen? ⟨g, k, none⟩ = false := fun k => by rw [hW1, World.frozen?_setCells]; exact hfz k
  rw [← hW1] at hap ⊢
  obtain ⟨zs, hcl⟩ := run_clear2 (P := Try.prog) W1 82 148 (.agg #[.string ByteArray.empty, .slice none 0 0]) Try.underlying82 zeroCst zeroCst1 g ((n - 1) * 2) 1 (c - (n - 1)) (fun t ht => hsp1 _ (by simp [Value.cells] at ht; omega)) (fun t ht => hfz1 _)
  have hn1 : ((n - 1 : Nat) : Int) = (n : Int) - 1 := by omega
  have hb1 : (0 : Int) ≤ (i : Int) + 1 := by omega
  have htn : ((i : Int) + 1).toNat = i + 1 := by omega
  have hb2 : (i : Int) + 1 ≤ (n : Int) := by omega
  have hne : ¬ ((i : Int) = (i : Int) + 1) := by omega
  have h11 : n - (n - 1) = 1 := by omega
  have hc1 : ¬ (c = n - 1) := by omega
  have hnn : n - 1 ≤ n := by omega
  have hin : i ≤ n := by omega
  have hcii : i ≤ c := by omega
  have HWD := Lib.hid (show c = i + 1 → W1 = w.drew from fun hc => by rw [hW1, List.drop_eq_nil_of_le (by omega)]; rfl)
  clear hW1 hsp hsp1 hcs hfz hfz1 hdl
  by_cases hci : c = i + 1
  · have hnil : cs.drop ((i + 1) * 2) = [] := List.drop_eq_nil_of_le (by omega)
    have hn : n = i + 1 := by omega
    have HNIL := Lib.hid hnil
    rw [HWD.out hci] at hap hcl ⊢
    clear hnil
    subst hn hci
    have hii : (i : Int) ≤ (i : Int) + 1 := by omega
    have e1 : i + 1 - 1 = i := by omega
    have e2 : i + 1 - i = 1 := by omega
    have e3 : i + 1 - (i + 1) = 0 := by omega
    simp only [e1, e2, e3] at hap hcl hic h11 hc1 hnn ⊢
    go_enter Try.func189, Try.ntmps189
    go_wp2
    go_region_law_o (refine step_appN rfl _ _ 82 82 rfl _ _ (by simp [Act.eval, Act.put]) (by simp [Act.eval, Act.put]) (hap _ _ (fun h => absurd HNIL.out h)) ?_)
    go_wp2
    go_returns
    exact ⟨zs, rfl, rfl⟩
  · go_enter Try.func189, Try.ntmps189
    go_wp2
    go_region_law_o (refine step_appN rfl _ _ 82 82 rfl _ _ (by simp [Act.eval, Act.put]) (by simp [Act.eval, Act.put]) (hap _ _ (fun _ => rfl)) ?_)
    go_wp2
    go_returns
    exact ⟨zs, rfl, rfl⟩
end Go.Proofs.Ytdphdnllhmnelaa
/- slices.Delete of one CSet: on the row. -/
namespace Go.Proofs.Ytdphdnllhmnelaa
open Go.RowKit
theorem del_row (l : List Cst) (A : Option Addr) (n c i : Nat) (fq : List Nat) (w : World) (hA : RowO cstF 148 2 fq w A n c l) (hN : fq.Nodup) (hi : i < n) :
    Calls Try.prog 189 #[.slice A n c, .int .i64 i, .int .i64 ((i : Int) + 1)] w fun e w' => ∃ fq', e = .returned (.slice A (n - 1) c) ∧ RowO cstF 148 2 fq' w' A (n - 1) c (l.take i ++ l.drop (i + 1)) ∧
      fq'.Nodup ∧ (∀ t ∈ fq', t ∈ fq) ∧ Ch (fun t => t ∈ fq) w w' := by
  obtain ⟨css, fps, rfl, own, hl, E⟩ := hA.ex
  have hle := own_le own
  obtain ⟨x, hx⟩ : ∃ x, l[i]? = some x := ⟨_, List.getElem?_eq_getElem (by omega)⟩
  obtain ⟨g, rfl, hlg, hgh⟩ : ∃ g, A = some ⟨g, 0, none⟩ ∧ 0 ≤ g ∧ g < w.heap.size := by
    rcases own_form own with ⟨_, h0, _⟩ | h
    · omega
    · exact h
  have hone := E.ones cstK
  have hxl := own.1
  refine (del_cells g n c i css.flatten w hi hle.1 hle.2 hxl (fun j v hj => (own.cellAt j (by have := (List.getElem?_eq_some_iff.1 hj).1; omega)).trans hj) (fun j => own.frozenAt j) hone).mono ?_
  rintro e w' ⟨zs, rfl, rfl⟩
  obtain ⟨d1, d2, f1, f2, cs, f, rfl, rfl, E1, hF, E2⟩ := els_cut E hx
  have hc1 : d1.flatten.length = i * 2 := by rw [E1.flat cstK, List.length_take]; congr 1; omega
  have hcs : cs.length = 2 := cstK.rlen (cstK.fr hF)
  have hfl : (d1 ++ cs :: d2).flatten = (d1.flatten ++ cs) ++ d2.flatten := by simp
  have hdr : (d1 ++ cs :: d2).flatten.drop ((i + 1) * 2) = d2.flatten := by rw [hfl]; exact List.drop_left' (by rw [List.length_append, hc1, hcs]; omega)
  have hc2 : d2.flatten.length = (n - (i + 1)) * 2 := by rw [← hdr, List.length_drop, hxl]; omega
  rw [hdr]
  obtain ⟨y1, a1, a2, a3, a4⟩ := own_sets d2.flatten (i * 2) w.drew _ own
  obtain ⟨y2, b1, b2, b3, b4⟩ := own_sets zs ((n - 1) * 2) _ y1 a1
  have hcut := own_cut b1 (show n - 1 ≤ n by omega)
  have hy : y2.take ((n - 1) * 2) = (d1 ++ d2).flatten := by
    rw [List.flatten_append]
    apply List.ext_getElem?
    intro t
    rw [List.getElem?_append, hc1]
    by_cases c0 : t < (n - 1) * 2
    · rw [List.getElem?_take_of_lt c0, b2 t (.inl c0)]
      by_cases c1 : t < i * 2
      · rw [if_pos c1, a2 t (.inl c1), hfl, List.append_assoc, List.getElem?_append, hc1, if_pos c1]
      · rw [if_neg c1, ← a3 (t - i * 2) (by omega) (by omega), show i * 2 + (t - i * 2) = t by omega]
    · rw [List.getElem?_eq_none (by rw [List.length_take]; omega), if_neg (by omega), List.getElem?_eq_none (by omega)]
  rw [hy] at hcut
  have h0 : Ch (fun k => k = g) w w.drew := (Ch.refl w).drew
  have hch := (h0.trans a4).trans b4
  have hN2 := List.nodup_append.1 hN
  have hgA : g ∈ blkL (some ⟨g, 0, none⟩) := by simp [blkL]
  have E3 := (E1.app E2).ch cstK hch (fun b hb e => by
    subst e
    refine hN2.2.2 b hgA b ?_ rfl
    simp only [List.flatten_append, List.flatten_cons, List.mem_append] at hb ⊢
    rcases hb with h | h
    · exact .inl h
    · exact .inr (.inr h))
  refine ⟨_, rfl, RowO.intro hcut (by simp; omega) E3, ?_, fun t ht => ?_, hch.mono (fun k hk => by subst hk; exact List.mem_append_left _ hgA)⟩
  · refine hN.sublist (List.Sublist.append (List.Sublist.refl _) ?_)
    simp only [List.flatten_append, List.flatten_cons]
    exact List.Sublist.append (List.Sublist.refl _) (List.sublist_append_right _ _)
  · simp only [List.flatten_append, List.flatten_cons, List.mem_append] at ht ⊢
    rcases ht with h | h | h
    · exact .inl h
    · exact .inr (.inl h)
    · exact .inr (.inr (.inr h))
end Go.Proofs.Ytdphdnllhmnelaa
/- Plain laws on a catalog: its bounds; what a command makes of it. -/
namespace Go.Proofs.Ytdphdnllhmnelaa
open Go.RowKit
theorem all_at {n : Nat} {p : Nat → Bool} (h : (List.range n).all p = true) {k : Nat} (hk : k < n) : p k = true := by
  rw [List.all_eq_true] at h
  exact h k (List.mem_range.2 hk)
theorem tagB_size {t : ByteArray} (h : tagB t = true) : t.size ≤ 8 := by
  unfold tagB at h
  simp only [Bool.or_eq_true, decide_eq_true_eq] at h
  rcases h with rfl | h
  · exact Nat.zero_le _
  · exact wordB_size h
theorem snpOk_bd {p : Snp} (h : snpOkB p = true) : p.nm.size ≤ 8 ∧ p.tg.size ≤ 8 ∧ p.ch.length ≤ 4 := by
  unfold snpOkB at h
  simp only [Bool.and_eq_true] at h
  obtain ⟨⟨⟨h1, h2⟩, h3⟩, _⟩ := h
  have := inB_le h3
  exact ⟨wordB_size h1, tagB_size h2, by omega⟩
theorem cstOk_bd {s : Cst} (h : cstOkB s = true) : s.nm.size ≤ 8 ∧ s.snaps.length ≤ 5 ∧ ∀ p ∈ s.snaps, p.nm.size ≤ 8 ∧ p.tg.size ≤ 8 ∧ p.ch.length ≤ 4 := by
  unfold cstOkB at h
  simp only [Bool.and_eq_true, decide_eq_true_eq] at h
  obtain ⟨⟨h1, h2⟩, h3⟩ := h
  refine ⟨wordB_size h2, h3, fun p hp => ?_⟩
  obtain ⟨k, hk, rfl⟩ := List.getElem_of_mem hp
  unfold snpsOkB at h1
  have := all_at h1 hk
  unfold snpAtB at this
  rw [Bool.and_eq_true] at this
  have e := snpAt_of (List.getElem?_eq_getElem hk)
  rw [e] at this
  exact snpOk_bd this.1
theorem catOk_bd {x : Ctl} (h : catOkB x = true) : x.sets.length ≤ 5 ∧ ∀ s ∈ x.sets, s.nm.size ≤ 8 ∧ s.snaps.length ≤ 5 ∧ ∀ p ∈ s.snaps, p.nm.size ≤ 8 ∧ p.tg.size ≤ 8 ∧ p.ch.length ≤ 4 := by
  unfold catOkB at h
  rw [Bool.and_eq_true, decide_eq_true_eq] at h
  refine ⟨h.2, fun s hs => ?_⟩
  obtain ⟨k, hk, rfl⟩ := List.getElem_of_mem hs
  have := all_at h.1 hk
  unfold cstAtB at this
  rw [Bool.and_eq_true] at this
  have e := cstAt_of (List.getElem?_eq_getElem hk)
  rw [e] at this
  exact cstOk_bd this.1
/-- what a command makes of the set at k -/
def setDo (s : Cst) (m : Cm) : Cst × ByteArray :=
  if m.kd = 3 then (if 0 ≤ snpFnd s.snaps 0 m.nm then (s, exT) else if s.snaps.length = 5 then (s, fuT) else (comS s m, okT))
  else if m.kd = 4 then (if snpFnd s.snaps 0 m.nm < 0 then (s, noT) else (tagS s m (snpFnd s.snaps 0 m.nm).toNat, okT))
  else if m.kd = 5 then (⟨s.nm, pruL s.snaps (goneN s.snaps m.n.toNat)⟩, dgT (goneN s.snaps m.n.toNat))
  else (s, spTo (s.snaps.map tdT) s.snaps.length)
/-- what a command makes of a catalog -/
def catDo (x : Ctl) (m : Cm) : Ctl × ByteArray :=
  if catOkB x = false then (⟨[]⟩, ByteArray.empty) else if cmOkB m = false then (x, ByteArray.empty) else if m.kd = 0 then (x, ByteArray.empty)
  else if m.kd = 1 then (if 0 ≤ cstFnd x.sets 0 m.s then (x, exT) else if x.sets.length = 5 then (x, fuT) else (⟨insS x.sets m.s⟩, okT))
  else if m.kd = 7 then (x, spTo (x.sets.map Cst.nm) x.sets.length)
  else if cstFnd x.sets 0 m.s < 0 then (x, noT)
  else if m.kd = 2 then (⟨x.sets.take (cstFnd x.sets 0 m.s).toNat ++ x.sets.drop ((cstFnd x.sets 0 m.s).toNat + 1)⟩, okT)
  else (⟨x.sets.set (cstFnd x.sets 0 m.s).toNat (setDo (cstAt x.sets (cstFnd x.sets 0 m.s).toNat) m).1⟩, (setDo (cstAt x.sets (cstFnd x.sets 0 m.s).toNat) m).2)
end Go.Proofs.Ytdphdnllhmnelaa
/- Plain laws on a catalog: the bounds that a command keeps. -/
namespace Go.Proofs.Ytdphdnllhmnelaa
open Go.RowKit
/-- the bounds of a snapshot, a set, a catalog -/
def SnpBd (p : Snp) : Prop := p.nm.size ≤ 8 ∧ p.tg.size ≤ 8 ∧ p.ch.length ≤ 4 ∧ ∀ t ∈ p.ch, t.size ≤ 8
def CstBd (s : Cst) : Prop := s.nm.size ≤ 8 ∧ s.snaps.length ≤ 6 ∧ ∀ p ∈ s.snaps, SnpBd p
def CatBd (x : Ctl) : Prop := x.sets.length ≤ 6 ∧ ∀ s ∈ x.sets, CstBd s
theorem ok8_mem {l : List ByteArray} (h : ok8 l = true) : ∀ t ∈ l, t.size ≤ 8 := by
  intro t ht
  obtain ⟨j, hj, rfl⟩ := List.getElem_of_mem ht
  have := ok8_at h hj
  rw [show sAt l j = l[j] by simp [sAt, hj]] at this
  omega
theorem snpOk_bd8 {p : Snp} (h : snpOkB p = true) : SnpBd p := by
  obtain ⟨h1, h2, h3⟩ := snpOk_bd h
  unfold snpOkB at h
  simp only [Bool.and_eq_true] at h
  exact ⟨h1, h2, h3, ok8_mem h.2⟩
theorem cstOk_bd8 {s : Cst} (h : cstOkB s = true) : CstBd s := by
  obtain ⟨h1, h2, h3⟩ := cstOk_bd h
  refine ⟨h1, by omega, fun p hp => ?_⟩
  unfold cstOkB at h
  simp only [Bool.and_eq_true, decide_eq_true_eq] at h
  obtain ⟨⟨h4, _⟩, _⟩ := h
  obtain ⟨k, hk, rfl⟩ := List.getElem_of_mem hp
  unfold snpsOkB at h4
  have := all_at h4 hk
  unfold snpAtB at this
  rw [Bool.and_eq_true, snpAt_of (List.getElem?_eq_getElem hk)] at this
  exact snpOk_bd8 this.1
theorem catOk_bd8 {x : Ctl} (h : catOkB x = true) : x.sets.length ≤ 5 ∧ ∀ s ∈ x.sets, CstBd s ∧ s.snaps.length ≤ 5 := by
  obtain ⟨h1, h2⟩ := catOk_bd h
  refine ⟨h1, fun s hs => ⟨?_, (h2 s hs).2.1⟩⟩
  unfold catOkB at h
  rw [Bool.and_eq_true, decide_eq_true_eq] at h
  obtain ⟨k, hk, rfl⟩ := List.getElem_of_mem hs
  have := all_at h.1 hk
  unfold cstAtB at this
  rw [Bool.and_eq_true, cstAt_of (List.getElem?_eq_getElem hk)] at this
  exact cstOk_bd8 this.1
theorem catBd_W {x : Ctl} (h : CatBd x) : ctlW x := ⟨by have := h.1; omega, fun s hs => ⟨by have := (h.2 s hs).2.1; omega, fun p hp => by have := ((h.2 s hs).2.2 p hp).2.2.1; omega⟩⟩
theorem catBd_B {x : Ctl} (h : CatBd x) : ctlB x := ⟨by have := h.1; omega, fun s hs => ⟨by have := (h.2 s hs).1; omega, ⟨by have := (h.2 s hs).2.1; omega, fun p hp => by
  have k := (h.2 s hs).2.2 p hp
  exact ⟨by have := k.1; omega, by have := k.2.1; omega, ⟨by have := k.2.2.1; omega, fun t ht => by have := k.2.2.2 t ht; omega⟩⟩⟩⟩⟩
theorem catBd_nil : CatBd ⟨[]⟩ := ⟨by simp, fun s hs => by cases hs⟩
theorem pruL_mem : ∀ (l : List Snp) (g : Nat), (pruL l g).length ≤ l.length ∧ ∀ p ∈ pruL l g, p ∈ l
  | [], g => ⟨by simp [pruL], fun p hp => by simp [pruL] at hp⟩
  | x :: l, g => by
    unfold pruL
    split
    · obtain ⟨h1, h2⟩ := pruL_mem l (g - 1)
      exact ⟨by simp only [List.length_cons]; omega, fun p hp => List.mem_cons_of_mem _ (h2 p hp)⟩
    · obtain ⟨h1, h2⟩ := pruL_mem l g
      exact ⟨by simp only [List.length_cons]; omega, fun p hp => by
        rcases List.mem_cons.1 hp with h | h
        · exact h ▸ List.mem_cons_self
        · exact List.mem_cons_of_mem _ (h2 p h)⟩
theorem ch_bd {m : Cm} (hm : CmBd m) : ∀ t ∈ m.ch, t.size ≤ 8 := fun t ht => by
  obtain ⟨j, hj, rfl⟩ := List.getElem_of_mem ht
  have := hm.c8 j hj
  rw [show sAt m.ch j = m.ch[j] by simp [sAt, hj]] at this
  omega
theorem snpNil_bd : SnpBd snpNil := ⟨Nat.zero_le _, Nat.zero_le _, by simp [snpNil], fun t ht => by cases ht⟩
theorem snpAt_bd {l : List Snp} (h : ∀ p ∈ l, SnpBd p) (k : Nat) : SnpBd (snpAt l k) := by
  by_cases hk : k < l.length
  · rw [snpAt_of (List.getElem?_eq_getElem hk)]; exact h _ (List.getElem_mem hk)
  · rw [show snpAt l k = snpNil by unfold snpAt; simp [List.getElem?_eq_none (Nat.not_lt.1 hk)]]; exact snpNil_bd
theorem setDo_bd {s : Cst} {m : Cm} (h : CstBd s) (h5 : s.snaps.length ≤ 5) (hm : CmBd m) : CstBd (setDo s m).1 ∧ (setDo s m).2.size ≤ 600 := by
  have hs2 : (spTo (s.snaps.map tdT) s.snaps.length).size ≤ 600 := by
    have := spTo_size (l := s.snaps.map tdT) (fun j => sAt_size (m := 100) (fun x hx => tdT_size (by have := (h.2.2 x hx).1; omega) (by have := (h.2.2 x hx).2.1; omega)) j) s.snaps.length
    omega
  unfold setDo
  split
  · split
    · exact ⟨h, by simp [exT, ByteArray.size]⟩
    · split
      · exact ⟨h, by simp [fuT, ByteArray.size]⟩
      · refine ⟨⟨h.1, by simp only [comS, List.length_append, List.length_singleton]; omega, fun p hp => ?_⟩, by simp [okT, ByteArray.size]⟩
        simp only [comS, List.mem_append, List.mem_singleton] at hp
        rcases hp with hp | rfl
        · exact h.2.2 p hp
        · exact ⟨hm.nm, Nat.zero_le _, hm.ch, ch_bd hm⟩
  · split
    · split
      · exact ⟨h, by simp [noT, ByteArray.size]⟩
      · refine ⟨⟨h.1, by simp only [tagS, List.length_set]; omega, fun p hp => ?_⟩, by simp [okT, ByteArray.size]⟩
        simp only [tagS] at hp
        rcases List.mem_or_eq_of_mem_set hp with hp | rfl
        · exact h.2.2 p hp
        · have k := snpAt_bd h.2.2 (snpFnd s.snaps 0 m.nm).toNat
          exact ⟨k.1, hm.tg, k.2.2⟩
    · split
      · have k := pruL_mem s.snaps (goneN s.snaps m.n.toNat)
        exact ⟨⟨h.1, by have := k.1; simp only []; omega, fun p hp => h.2.2 p (k.2 p hp)⟩, by simp [dgT, ByteArray.size]⟩
      · exact ⟨h, hs2⟩
theorem insS_mem {l : List Cst} {nm : ByteArray} : (insS l nm).length = l.length + 1 ∧ ∀ s ∈ insS l nm, s ∈ l ∨ s = ⟨nm, []⟩ := by
  unfold insS
  have ha := atS_le nm l
  refine ⟨by simp only [List.length_append, List.length_take, List.length_cons, List.length_drop]; omega, fun s hs => ?_⟩
  rcases List.mem_append.1 hs with h | h
  · exact .inl (List.mem_of_mem_take h)
  · rcases List.mem_cons.1 h with h | h
    · exact .inr h
    · exact .inl (List.mem_of_mem_drop h)
/-- a command keeps the bounds, and its answer is short -/
theorem catDo_bd {x : Ctl} {m : Cm} : CatBd x → CatBd (catDo x m).1 ∧ (catDo x m).2.size ≤ 700 := by
  intro hx
  unfold catDo
  split
  · exact ⟨catBd_nil, Nat.zero_le _⟩
  rename_i h1
  have hc := catOk_bd8 (by simpa using h1)
  split
  · exact ⟨hx, Nat.zero_le _⟩
  rename_i h2
  have hm := cmOk_bd (by simpa using h2)
  split
  · exact ⟨hx, Nat.zero_le _⟩
  split
  · split
    · exact ⟨hx, by simp [exT, ByteArray.size]⟩
    · split
      · exact ⟨hx, by simp [fuT, ByteArray.size]⟩
      · have k := insS_mem (l := x.sets) (nm := m.s)
        refine ⟨⟨by have := k.1; simp only []; omega, fun s hs => ?_⟩, by simp [okT, ByteArray.size]⟩
        rcases k.2 s hs with h | rfl
        · exact (hc.2 s h).1
        · exact ⟨hm.s, by simp, fun p hp => by cases hp⟩
  split
  · refine ⟨hx, ?_⟩
    have := spTo_size (l := x.sets.map Cst.nm) (fun j => sAt_size (m := 100) (fun s hs => by have := (hx.2 s hs).1; omega) j) x.sets.length
    have := hc.1
    simp only []
    omega
  split
  · exact ⟨hx, by simp [noT, ByteArray.size]⟩
  split
  · refine ⟨⟨by have := hc.1; simp only [List.length_append, List.length_take, List.length_drop]; omega, fun s hs => ?_⟩, by simp [okT, ByteArray.size]⟩
    rcases List.mem_append.1 hs with h | h
    · exact hx.2 s (List.mem_of_mem_take h)
    · exact hx.2 s (List.mem_of_mem_drop h)
  rename_i hf _
  have hin : ∃ k, k < x.sets.length ∧ (cstFnd x.sets 0 m.s).toNat = k := by
    rcases cstFnd_in m.s x.sets 0 with ⟨h, _⟩ | ⟨j, hj, h, _⟩
    · omega
    · exact ⟨j, hj, by omega⟩
  obtain ⟨k, hk, e⟩ := hin
  rw [e, cstAt_of (List.getElem?_eq_getElem hk)]
  have hs := hc.2 _ (List.getElem_mem hk)
  obtain ⟨k1, k2⟩ := setDo_bd hs.1 hs.2 hm
  refine ⟨⟨by have := hc.1; simp only [List.length_set]; omega, fun s hs => ?_⟩, by simp only []; omega⟩
  rcases List.mem_or_eq_of_mem_set hs with h | rfl
  · exact hx.2 s h
  · exact k1
end Go.Proofs.Ytdphdnllhmnelaa
/- Plain laws on a state: what a command makes of it. -/
namespace Go.Proofs.Ytdphdnllhmnelaa
open Go.RowKit
/-- the first place with a client not below c -/
def saiFnd : List Sai → Nat → Int → Int
  | [], _, _ => -1
  | x :: l, k, c => if c ≤ x.cl then (k : Int) else saiFnd l (k + 1) c
theorem saiFnd_drop {l : List Sai} {k : Nat} (c : Int) (hk : k < l.length) : saiFnd (l.drop k) k c = if c ≤ (saiAt l k).cl then (k : Int) else saiFnd (l.drop (k + 1)) (k + 1) c := by
  rw [List.drop_eq_getElem_cons hk, saiFnd, saiAt_get hk]
theorem saiFnd_in (c : Int) : ∀ (l : List Sai) (k : Nat), saiFnd l k c = -1 ∧ (∀ x ∈ l, x.cl < c) ∨ ∃ j : Nat, j < l.length ∧ saiFnd l k c = ((k + j : Nat) : Int) ∧ c ≤ (saiAt l j).cl ∧ ∀ i, i < j → (saiAt l i).cl < c
  | [], k => .inl ⟨rfl, fun x hx => by cases hx⟩
  | x :: l, k => by
    unfold saiFnd
    by_cases h : c ≤ x.cl
    · rw [if_pos h]
      exact .inr ⟨0, by simp, by simp, by simpa [saiAt] using h, fun i hi => absurd hi (by omega)⟩
    · rw [if_neg h]
      rcases saiFnd_in c l (k + 1) with ⟨h1, h2⟩ | ⟨j, hj, h1, h2, h3⟩
      · exact .inl ⟨h1, fun y hy => by
          rcases List.mem_cons.1 hy with rfl | hy
          · omega
          · exact h2 y hy⟩
      · refine .inr ⟨j + 1, by simpa using hj, by rw [h1]; congr 1; omega, by simpa [saiAt] using h2, fun i hi => ?_⟩
        rcases i with _ | i
        · simp only [saiAt, List.getD_cons_zero]; omega
        · have := h3 i (by omega)
          simpa [saiAt] using this
def saiAtB (l : List Sai) (k : Nat) : Bool := inB (saiAt l k).cl 1 9 && inB (saiAt l k).no 1 1000 && (k == 0 || decide ((saiAt l (k - 1)).cl < (saiAt l k).cl))
def saisOkB (l : List Sai) : Bool := (List.range l.length).all (fun k => saiAtB l k)
theorem saisOk_yes {l : List Sai} (h : ∀ k, k < l.length → saiAtB l k = true) : saisOkB l = true := all_yes h
theorem saisOk_no {l : List Sai} {k : Nat} (hk : k < l.length) (h : saiAtB l k = false) : saisOkB l = false := all_no hk h
/-- a right state -/
def staOkB (x : Sta) : Bool := saisOkB x.said && catOkB x.cat
/-- the clients rise -/
def Rising (l : List Sai) : Prop := l.Pairwise (fun a b => a.cl < b.cl)
theorem saisOk_lt {l : List Sai} (h : saisOkB l = true) : ∀ j i, i < j → j < l.length → (saiAt l i).cl < (saiAt l j).cl
  | 0, i, hi, _ => absurd hi (by omega)
  | j + 1, i, hi, hj => by
    have h1 := all_at h hj
    unfold saiAtB at h1
    simp only [Bool.and_eq_true, Bool.or_eq_true, decide_eq_true_eq, Nat.add_sub_cancel] at h1
    have h2 : (saiAt l j).cl < (saiAt l (j + 1)).cl := by
      rcases h1.2 with h | h
      · simp at h
      · exact h
    by_cases e : i = j
    · subst e; exact h2
    · have := saisOk_lt h j i (by omega) (by omega)
      omega
theorem saisOk_rise {l : List Sai} (h : saisOkB l = true) : Rising l := by
  unfold Rising
  rw [List.pairwise_iff_getElem]
  intro i j hi hj hij
  have := saisOk_lt h j i hij hj
  rwa [saiAt_get hi, saiAt_get hj] at this
theorem saisOk_cl {l : List Sai} (h : saisOkB l = true) : ∀ k, k < l.length → (k : Int) + 1 ≤ (saiAt l k).cl ∧ (saiAt l k).cl ≤ 9
  | 0, hk => by
    have h1 := all_at h hk
    unfold saiAtB at h1
    simp only [Bool.and_eq_true] at h1
    have := inB_le h1.1.1
    omega
  | k + 1, hk => by
    have h1 := all_at h hk
    unfold saiAtB at h1
    simp only [Bool.and_eq_true] at h1
    have := inB_le h1.1.1
    have h2 := saisOk_lt h (k + 1) k (by omega) hk
    have h3 := saisOk_cl h k (by omega)
    omega
theorem saisOk_len {l : List Sai} (h : saisOkB l = true) : l.length ≤ 9 := by
  by_cases h0 : l.length = 0
  · omega
  · have := saisOk_cl h (l.length - 1) (by omega)
    omega
def oldT : ByteArray := ⟨#[111, 108, 100]⟩
/-- the answer that lies ready -/
def repS : List Sai → Cm → Option ByteArray
  | [], _ => none
  | s :: l, m => if s.cl ≠ m.cl then repS l m else if s.no = m.no then some s.tx else if m.no < s.no then some oldT else repS l m
/-- what was said, with one more, in the place of its client -/
def putS : List Sai → Sai → List Sai
  | [], x => [x]
  | y :: l, x => if y.cl < x.cl then y :: putS l x else if y.cl = x.cl then x :: l else x :: y :: l
/-- the same, as the reference goes -/
def putF : List Sai → Sai → Bool → List Sai
  | [], x, put => if put then [] else [x]
  | y :: l, x, put => (if put = false ∧ x.cl ≤ y.cl then [x] else []) ++ ((if y.cl = x.cl then [] else [y]) ++ putF l x (put || decide (x.cl ≤ y.cl)))
theorem putS_end (x : Sai) : ∀ {l : List Sai}, (∀ y ∈ l, y.cl < x.cl) → putS l x = l ++ [x]
  | [], _ => rfl
  | y :: l, h => by
    unfold putS
    rw [if_pos (h y List.mem_cons_self), putS_end x (fun z hz => h z (List.mem_cons_of_mem _ hz))]
    rfl
theorem putS_at (x : Sai) : ∀ {l : List Sai} {k : Nat}, k < l.length → x.cl ≤ (saiAt l k).cl → (∀ i, i < k → (saiAt l i).cl < x.cl) → putS l x = if (saiAt l k).cl = x.cl then l.set k x else l.take k ++ x :: l.drop k
  | [], k, hk, _, _ => absurd hk (by simp)
  | y :: l, 0, _, h, _ => by
    simp only [saiAt, List.getD_cons_zero] at h ⊢
    unfold putS
    rw [if_neg (by omega)]
    split <;> simp
  | y :: l, k + 1, hk, h, hi => by
    have h0 := hi 0 (by omega)
    simp only [saiAt, List.getD_cons_zero, List.getD_cons_succ] at h h0 ⊢
    have ih := putS_at x (l := l) (k := k) (by simpa using hk) h (fun i hik => by have := hi (i + 1) (by omega); simpa [saiAt] using this)
    unfold putS
    rw [if_pos h0, ih]
    unfold saiAt
    split <;> simp
theorem repS_none {m : Cm} : ∀ {l : List Sai}, (∀ y ∈ l, y.cl ≠ m.cl) → repS l m = none
  | [], _ => rfl
  | y :: l, h => by
    unfold repS
    rw [if_pos (h y List.mem_cons_self), repS_none (fun z hz => h z (List.mem_cons_of_mem _ hz))]
theorem repS_at {m : Cm} : ∀ {l : List Sai} {k : Nat}, Rising l → k < l.length → m.cl ≤ (saiAt l k).cl → (∀ i, i < k → (saiAt l i).cl < m.cl) →
    repS l m = if (saiAt l k).cl ≠ m.cl then none else if (saiAt l k).no = m.no then some (saiAt l k).tx else if m.no < (saiAt l k).no then some oldT else none
  | [], k, _, hk, _, _ => absurd hk (by simp)
  | y :: l, 0, hr, _, h, _ => by
    unfold Rising at hr
    rw [List.pairwise_cons] at hr
    simp only [saiAt, List.getD_cons_zero] at h ⊢
    have hn : repS l m = none := repS_none (fun z hz => by have := hr.1 z hz; omega)
    unfold repS
    rw [hn]
  | y :: l, k + 1, hr, hk, h, hi => by
    unfold Rising at hr
    rw [List.pairwise_cons] at hr
    have h0 := hi 0 (by omega)
    simp only [saiAt, List.getD_cons_zero, List.getD_cons_succ] at h h0 ⊢
    have ih := repS_at (m := m) (l := l) (k := k) hr.2 (by simpa using hk) h (fun i hik => by have := hi (i + 1) (by omega); simpa [saiAt] using this)
    unfold repS
    rw [if_pos (by omega), ih]
    rfl
def saiNew (x : Sta) (m : Cm) : Sai := ⟨m.cl, m.no, (catDo x.cat m).2⟩
/-- what a command makes of a state, behind the answers that lie ready -/
def stGo (x : Sta) (m : Cm) : Sta × ByteArray :=
  match repS x.said m with
  | some t => (x, t)
  | none => (⟨(catDo x.cat m).1, putS x.said (saiNew x m)⟩, (catDo x.cat m).2)
/-- what a command makes of a state -/
def stDo (x : Sta) (m : Cm) : Sta × ByteArray :=
  if staOkB x = false then (⟨⟨[]⟩, []⟩, ByteArray.empty) else if cmOkB m = false then (x, ByteArray.empty) else if m.kd = 0 then (x, ByteArray.empty) else stGo x m
theorem stGo_some {x : Sta} {m : Cm} {t : ByteArray} (h : repS x.said m = some t) : stGo x m = (x, t) := by unfold stGo; rw [h]
theorem stGo_none {x : Sta} {m : Cm} (h : repS x.said m = none) : stGo x m = (⟨(catDo x.cat m).1, putS x.said (saiNew x m)⟩, (catDo x.cat m).2) := by unfold stGo; rw [h]
/-- commands one by one -/
def stPlay (x : Sta) : List Cm → Sta
  | [] => x
  | m :: l => stPlay (stDo x m).1 l
def staNew : Sta := ⟨⟨[]⟩, []⟩
theorem stPlay_snoc (x : Sta) (l : List Cm) (m : Cm) : stPlay x (l ++ [m]) = (stDo (stPlay x l) m).1 := by
  induction l generalizing x with
  | nil => rfl
  | cons a l ih => exact ih _
/-- the commands at the places of an order -/
def pickL (l : List Cm) : List Int → List Cm
  | [] => []
  | i :: o => if 0 ≤ i ∧ i < (l.length : Int) then cmAt l i.toNat :: pickL l o else pickL l o
def runL (l : List Cm) (o : List Int) : Sta := stPlay staNew (pickL l o)
/-- the bounds of a state -/
def StaBd (x : Sta) : Prop := CatBd x.cat ∧ x.said.length ≤ 10 ∧ ∀ y ∈ x.said, y.tx.size ≤ 700
theorem staBd_nil : StaBd staNew := ⟨catBd_nil, by simp [staNew], fun y hy => by cases hy⟩
theorem putS_mem {x : Sai} : ∀ {l : List Sai}, (putS l x).length ≤ l.length + 1 ∧ ∀ y ∈ putS l x, y ∈ l ∨ y = x
  | [] => ⟨by simp [putS], fun y hy => by simpa [putS] using hy⟩
  | z :: l => by
    unfold putS
    split
    · obtain ⟨h1, h2⟩ := putS_mem (x := x) (l := l)
      refine ⟨by simp only [List.length_cons]; omega, fun y hy => ?_⟩
      rcases List.mem_cons.1 hy with h | h
      · exact .inl (h ▸ List.mem_cons_self)
      · rcases h2 y h with h | h
        · exact .inl (List.mem_cons_of_mem _ h)
        · exact .inr h
    · split
      · refine ⟨by simp only [List.length_cons]; omega, fun y hy => ?_⟩
        rcases List.mem_cons.1 hy with h | h
        · exact .inr h
        · exact .inl (List.mem_cons_of_mem _ h)
      · refine ⟨by simp only [List.length_cons]; omega, fun y hy => ?_⟩
        rcases List.mem_cons.1 hy with h | h
        · exact .inr h
        · exact .inl h
theorem stDo_bd {x : Sta} {m : Cm} (h : StaBd x) : StaBd (stDo x m).1 := by
  unfold stDo
  split
  · exact staBd_nil
  rename_i h1
  have h2 : saisOkB x.said = true := by
    have : staOkB x = true := by simpa using h1
    unfold staOkB at this
    rw [Bool.and_eq_true] at this
    exact this.1
  have h3 := saisOk_len h2
  split
  · exact h
  split
  · exact h
  unfold stGo
  split
  · exact h
  · have k := catDo_bd (m := m) h.1
    have p := putS_mem (x := saiNew x m) (l := x.said)
    refine ⟨k.1, by have := p.1; simp only []; omega, fun y hy => ?_⟩
    rcases p.2 y hy with h5 | rfl
    · exact h.2.2 y h5
    · exact k.2
theorem stPlay_bd : ∀ (l : List Cm) {x : Sta}, StaBd x → StaBd (stPlay x l)
  | [], _, h => h
  | m :: l, _, h => stPlay_bd l (stDo_bd h)
end Go.Proofs.Ytdphdnllhmnelaa
/- Plain laws: the reference's create and prune make what the program's make. -/
namespace Go.Proofs.Ytdphdnllhmnelaa
open Go.RowKit
/-- a set put in, as the reference goes -/
def insF : List Cst → ByteArray → Bool → List Cst
  | [], nm, put => if put then [] else [⟨nm, []⟩]
  | s :: l, nm, put => if put = false ∧ sLt s.nm nm = false then ⟨nm, []⟩ :: s :: insF l nm true else s :: insF l nm put
theorem insF_true (nm : ByteArray) : ∀ l : List Cst, insF l nm true = l
  | [] => rfl
  | s :: l => by unfold insF; rw [if_neg (by simp), insF_true nm l]
theorem insF_ins (nm : ByteArray) : ∀ l : List Cst, insF l nm false = insS l nm
  | [] => rfl
  | s :: l => by
    unfold insF insS atS
    cases h : sLt s.nm nm
    · rw [if_pos ⟨rfl, rfl⟩, if_neg (by simp), insF_true]; rfl
    · rw [if_neg (by simp), if_pos rfl, insF_ins nm l]; rfl
/-- the snapshots that stay, as the reference goes: bare are still to come -/
def pruF : List Snp → Int → Int → List Snp
  | [], _, _ => []
  | p :: l, b, n => if p.tg = ByteArray.empty then (if n ≤ b - 1 then pruF l (b - 1) n else p :: pruF l (b - 1) n) else p :: pruF l b n
/-- snapshots without a tag -/
def bareL : List Snp → Nat
  | [] => 0
  | p :: l => bareL l + if p.tg = ByteArray.empty then 1 else 0
end Go.Proofs.Ytdphdnllhmnelaa
/- A state: the place of a client, is it right (both sides). -/
namespace Go.Proofs.Ytdphdnllhmnelaa
open Go.RowKit
attribute [local go_sem] Grow.cell Grow.frozen
theorem sizeSaid0 : (Try.prog.info? 153).map (·.size) = some 3 := by kernel_rfl
theorem sai_el {l : List Sai} {w : World} {n c b off i : Nat} (h : RowR saiR 3 w (some ⟨b, off, none⟩) n c l) (hi : i < n) : b < w.heap.size ∧ ∃ x, l[i]? = some x ∧ w.rangeAt b (off + i * 3) [.int .i64 x.cl, .int .i64 x.no, .string x.tx] := by
  obtain ⟨bl, x, cs, hx, rfl, hcell⟩ := h.elem_at hi
  exact ⟨bl, x, hx, hcell⟩
attribute [local irreducible] RowR saiFnd
set_option maxRecDepth 8000 in
theorem sai_fn (x : Sai) (cl : Int) (B : Nat) (w : World) (h0 : w.cell? ⟨B, 1, none⟩ = some (.int .i64 cl)) :
    Calls Try.prog 174 #[saiV x, .pointer (some ⟨B, 0, none⟩)] w fun r w' => r = .returned (.bool (decide (cl ≤ x.cl))) ∧ Below w.heap.size w w' := by
  have hlt := cell_lt h0
  unfold saiV
  by_cases hx : cl ≤ x.cl
  · have HX := Lib.hid hx
    have gd : decide (x.cl ≥ cl) = true := decide_eq_true hx
    clear hx
    go_enter Try.func174, Try.ntmps174
    go_wp2
    go_returns
    exact ⟨ret_bool (by simp [HX.out]), by go_grown⟩
  · have HX := Lib.hid hx
    have gd : decide (x.cl ≥ cl) = false := decide_eq_false hx
    clear hx
    go_enter Try.func174, Try.ntmps174
    go_wp2
    go_returns
    exact ⟨ret_bool (by simp [HX.out]), by go_grown⟩
set_option maxRecDepth 8000 in
theorem sai_idx (A : Option Addr) (n c : Nat) (l : List Sai) (cl : Int) (B : Nat) (w : World) (h : RowR saiR 3 w A n c l) (hn : n ≤ 9223372036854775807) (h0 : w.cell? ⟨B, 1, none⟩ = some (.int .i64 cl)) :
    Calls Try.prog 173 #[.slice A n c, .func (.func 174) #[] #[.pointer (some ⟨B, 0, none⟩)]] w fun r w' => r = .returned (.int .i64 (saiFnd l 0 cl)) ∧ Below w.heap.size w w' := by
  have HL := Lib.hid h.len.symm
  go_enter Try.func173, Try.ntmps173
  go_wp2
  go_loopw [8] (fun i wr => ∃ k : Nat, k ≤ n ∧ i = .int .i64 k ∧ saiFnd l 0 cl = saiFnd (l.drop k) k cl ∧ Below w.heap.size w wr) (fun i _ => n - (intOf i).toNat)
  case atStart => exact ⟨0, Nat.zero_le _, rfl, rfl, Below.refl _ _⟩
  case round =>
    obtain ⟨k, hk, rfl, hx, hbr⟩ := hrel
    have HX := Lib.hid hx; clear hx
    by_cases hlt : k < n
    · have hR := h.keep saiK hbr
      obtain ⟨b, off, rfl⟩ := hR.head (by omega)
      obtain ⟨bl, x, hx, hcr⟩ := sai_el hR hlt
      have HP := Lib.hid (saiFnd_drop cl (show k < l.length by have := HL.out; omega))
      have HA := Lib.hid (saiAt_of hx)
      have g0 := keep_cell hbr h0
      clear hx
      repeat (first | ((with_reducible refine wpList_load_o 153 (.tmp 14) b (off + k * 3) _ _ hcr Try.underlying153 sizeSaid0 ?_ ?_ ?_ ?_ ?_ ?_); (rfl); (rfl); (rfl); (rfl); (rfl)) | go_values | go_skip | go_guarded | go_step | go_upon | (simp only []; go_at_K))
      refine (sai_fn x cl B _ g0).mono ?_
      rintro r w1 ⟨rfl, hb1⟩
      by_cases hq : cl ≤ x.cl
      · rw [decide_eq_true hq]
        have HQ := Lib.hid hq
        clear hq
        go_wp2
        go_returns
        exact ⟨by rw [HX.out, HP.out, HA.out, if_pos HQ.out]; rfl, bthen hbr hb1⟩
      · rw [decide_eq_false hq]
        have HQ := Lib.hid hq
        clear hq
        go_wp2
        exact ⟨⟨k + 1, by omega, by go_num, by rw [HX.out, HP.out, HA.out, if_neg (by have := HQ.out; omega)], bthen hbr hb1⟩, by simp [intOf]; omega⟩
    · go_wp2
      go_returns
      obtain rfl : k = n := by omega
      exact ⟨by rw [HX.out, List.drop_eq_nil_of_le (by have := HL.out; omega), saiFnd]; rfl, hbr⟩
attribute [local irreducible] saiAtB saisOkB catOkB
set_option maxRecDepth 8000 in
set_option maxHeartbeats 4000000 in
theorem staOk_impl (x : Sta) (A1 : Option Addr) (n1 c1 : Nat) (A2 : Option Addr) (n2 c2 : Nat) (w : World) (h1 : RowR cstR 2 w A1 n1 c1 x.cat.sets) (h2 : RowR saiR 3 w A2 n2 c2 x.said) (hb : ctlB x.cat) (hn : n2 ≤ 1000) :
    Calls Try.prog 172 #[staV x (.slice A1 n1 c1) (.slice A2 n2 c2)] w fun e w' => e = .returned (.bool (staOkB x)) ∧ Below w.heap.size w w' := by
  have HL := Lib.hid h2.len
  have al := (Below.refl w.heap.size w).alloc (Nat.le_refl _) (.cells #[.slice A1 n1 c1, .slice A2 n2 c2] 87)
  have BX := BoxL.new w [.slice A1 n1 c1, .slice A2 n2 c2] 87
  unfold staV
  go_enter Try.func172, Try.ntmps172
  go_wp2_with fail
  obtain ⟨W, hW⟩ : ∃ W, W = w.alloc (.cells #[.slice A1 n1 c1, .slice A2 n2 c2] 87) := ⟨_, rfl⟩
  obtain ⟨g, hg⟩ : ∃ g, w.heap.size = g := ⟨_, rfl⟩
  have HG := Lib.hid hg
  rw [← hW] at BX al ⊢
  simp only [hg] at BX ⊢
  clear hW hg
  go_loopw [8] (fun i wr => ∃ (k : Nat), k ≤ n2 ∧ i = .int .i64 k ∧ (∀ j : Nat, j < k → saiAtB x.said j = true) ∧ Below W.heap.size W wr) (fun i _ => n2 - (intOf i).toNat)
  case atStart => exact ⟨0, Nat.zero_le _, rfl, fun j h => absurd h (by omega), Below.refl _ _⟩
  case round =>
    obtain ⟨k, hk, rfl, hcl, hbr⟩ := hrel
    have HCL := Lib.hid hcl; clear hcl
    have BR := BX.keep hbr
    have e0 := BR.cell 0 _ rfl
    have e1 := BR.cell 1 _ rfl
    have hgl := BR.lt
    have hB := bthen al hbr
    by_cases hlt : k < n2
    · have k1 := h2.keep saiK hB
      obtain ⟨b, off, rfl⟩ := k1.head (by omega)
      obtain ⟨bl, y, hy, hcr⟩ := sai_el k1 hlt
      have f0 : wr.cell? ⟨b, off + k * 3, none⟩ = some (.int .i64 y.cl) := hcr 0 _ rfl
      have f1 : wr.cell? ⟨b, off + k * 3 + 1, none⟩ = some (.int .i64 y.no) := hcr 1 _ rfl
      have f2 : wr.cell? ⟨b, off + k * 3 + 2, none⟩ = some (.string y.tx) := hcr 2 _ rfl
      have HAX := Lib.hid (saiAt_of hy)
      clear hy hcr
      have aly := (Below.refl wr.heap.size wr).alloc (Nat.le_refl _) (.cells #[.int .i64 y.cl, .int .i64 y.no, .string y.tx] 153)
      have BY := BoxL.new wr [.int .i64 y.cl, .int .i64 y.no, .string y.tx] 153
      go_wp2_with fail
      obtain ⟨V, hV⟩ : ∃ V, V = wr.alloc (.cells #[.int .i64 y.cl, .int .i64 y.no, .string y.tx] 153) := ⟨_, rfl⟩
      obtain ⟨gy, hgy⟩ : ∃ g, wr.heap.size = g := ⟨_, rfl⟩
      rw [← hV] at BY aly ⊢
      simp only [hgy] at BY ⊢
      have HGY := Lib.hid hgy
      clear hV hgy
      have z0 := BY.cell 0 _ rfl; have z1 := BY.cell 1 _ rfl; have zl := BY.lt
      have BR2 := BR.keep aly
      have f0' := keep_cell aly f0
      clear e0 e1 hgl f0 f1 f2
      have e0 := BR2.cell 0 _ rfl
      have e1 := BR2.cell 1 _ rfl
      have hgl := BR2.lt
      have hbl := cell_lt f0'
      have hB2 := bthen hB aly
      have hbr2 := bthen hbr aly
      have k2 := h2.keep saiK hB2
      have HV := Lib.hid (show saiAtB x.said k = (inB y.cl 1 9 && inB y.no 1 1000 && (k == 0 || decide ((saiAt x.said (k - 1)).cl < y.cl))) by unfold saiAtB; rw [HAX.out])
      obtain ⟨q0, hq0⟩ : ∃ q, inB y.cl 1 9 = q := ⟨_, rfl⟩
      obtain ⟨q1, hq1⟩ : ∃ q, inB y.no 1 1000 = q := ⟨_, rfl⟩
      have Q0 := Lib.hid hq0; have Q1 := Lib.hid hq1
      cases q0
      · have HB := Lib.hid (show staOkB x = false by unfold staOkB; rw [saisOk_no (l := x.said) (k := k) (by have := HL.out; omega) (by rw [HV.out, Q0.out]; rfl)]; rfl)
        clear hq1
        refine wp_region_grow (by kernel_rfl) (by kernel_rfl) ?_
        repeat (first | go_big_quiet_step ((go_at_call 113; exact grow_same (within_any _ _ _ _))))
        refine wpQuiet_nil ?_
        intro _ hw'
        obtain ⟨⟨w4, hb4⟩, hw''⟩ := hw'
        change _ = w4 at hw''
        subst hw''
        go_wp2
        go_returns
        exact ⟨ret_bool HB.out.symm, bthen hB2 hb4⟩
      cases q1
      · have HB := Lib.hid (show staOkB x = false by unfold staOkB; rw [saisOk_no (l := x.said) (k := k) (by have := HL.out; omega) (by rw [HV.out, Q0.out, Q1.out]; rfl)]; rfl)
        refine wp_region_grow (by kernel_rfl) (by kernel_rfl) ?_
        repeat (first | go_big_quiet_step ((go_at_call 113; exact grow_same (within_any _ _ _ _))))
        refine wpQuiet_nil ?_
        intro _ hw'
        obtain ⟨⟨w4, hb4⟩, hw''⟩ := hw'
        change _ = w4 at hw''
        subst hw''
        go_wp2
        go_returns
        exact ⟨ret_bool HB.out.symm, bthen hB2 hb4⟩
      by_cases hk0 : k = 0
      · have HK := Lib.hid (show saiAtB x.said k = true by rw [HV.out, Q0.out, Q1.out, hk0]; rfl)
        have gd0 : decide ((k : Int) > 0) = false := by rw [decide_eq_false_iff_not]; omega
        have gd00 : decide (0 < k) = false := by rw [decide_eq_false_iff_not]; omega
        have gd000 : ¬ 0 < k := by omega
        clear hk0
        refine wp_region_grow (by kernel_rfl) (by kernel_rfl) ?_
        repeat (first | go_big_quiet_step ((go_at_call 113; exact grow_same (within_any _ _ _ _))))
        refine wpQuiet_nil ?_
        intro _ hw'
        obtain ⟨⟨w4, hb4⟩, hw''⟩ := hw'
        change _ = w4 at hw''
        subst hw''
        go_wp2
        exact ⟨⟨k + 1, by omega, by go_num, upto_succ HCL.out HK.out, bthen hbr2 hb4⟩, by simp [intOf]; omega⟩
      · skip
        obtain ⟨k', rfl⟩ : ∃ k', k = k' + 1 := ⟨k - 1, by omega⟩
        clear hk0
        obtain ⟨_, u, hu, hcru⟩ := sai_el k2 (show k' < n2 by omega)
        have u0 : V.cell? ⟨b, off + k' * 3, none⟩ = some (.int .i64 u.cl) := hcru 0 _ rfl
        have HAU := Lib.hid (saiAt_of hu)
        clear hcru hu
        have gd0 : decide (((k' + 1 : Nat) : Int) > 0) = true := by rw [decide_eq_true_eq]; omega
        have gd1 : (((k' + 1 : Nat) : Int)) - 1 = (k' : Int) := by omega
        have HV2 := Lib.hid (show saiAtB x.said (k' + 1) = decide (u.cl < y.cl) by rw [HV.out, Nat.add_sub_cancel, HAU.out, Q0.out, Q1.out]; simp)
        by_cases hlu : u.cl < y.cl
        · have gd2 : decide (u.cl ≥ y.cl) = false := decide_eq_false (by omega)
          have HU := Lib.hid hlu; clear hlu
          refine wp_region_grow (by kernel_rfl) (by kernel_rfl) ?_
          repeat (first | go_big_quiet_step ((go_at_call 113; exact grow_same (within_any _ _ _ _))))
          refine wpQuiet_nil ?_
          intro _ hw'
          obtain ⟨⟨w4, hb4⟩, hw''⟩ := hw'
          change _ = w4 at hw''
          subst hw''
          go_wp2
          exact ⟨⟨k' + 1 + 1, by omega, by go_num, upto_succ HCL.out (by rw [HV2.out]; exact decide_eq_true HU.out), bthen hbr2 hb4⟩, by simp [intOf]; omega⟩
        · have gd2 : decide (u.cl ≥ y.cl) = true := decide_eq_true (by omega)
          have HB := Lib.hid (show staOkB x = false by unfold staOkB; rw [saisOk_no (l := x.said) (k := k' + 1) (by have := HL.out; omega) (by rw [HV2.out]; exact decide_eq_false hlu)]; rfl)
          clear hlu
          refine wp_region_grow (by kernel_rfl) (by kernel_rfl) ?_
          repeat (first | go_big_quiet_step ((go_at_call 113; exact grow_same (within_any _ _ _ _))))
          refine wpQuiet_nil ?_
          intro _ hw'
          obtain ⟨⟨w4, hb4⟩, hw''⟩ := hw'
          change _ = w4 at hw''
          subst hw''
          go_wp2
          go_returns
          exact ⟨ret_bool HB.out.symm, bthen hB2 hb4⟩
    · have HK := Lib.hid (saisOk_yes (l := x.said) (fun j hj => HCL.out j (by have := HL.out; omega)))
      go_wp2_with fail
      have hco := catOk_impl x.cat A1 n1 c1 wr (h1.keep cstK hB) hb
      unfold ctlV at hco
      refine hco.mono ?_
      rintro e w5 ⟨rfl, hb5⟩
      clear hco
      go_wp2
      go_returns
      exact ⟨ret_bool (by unfold staOkB; rw [HK.out, Bool.true_and]), bthen hB hb5⟩
set_option maxRecDepth 8000 in
set_option maxHeartbeats 4000000 in
theorem staOk_spec (x : Sta) (A1 : Option Addr) (n1 c1 : Nat) (A2 : Option Addr) (n2 c2 : Nat) (w : World) (h1 : RowR cstR 2 w A1 n1 c1 x.cat.sets) (h2 : RowR saiR 3 w A2 n2 c2 x.said) (hb : ctlB x.cat) (hn : n2 ≤ 1000) :
    Calls Try.prog 116 #[staV x (.slice A1 n1 c1) (.slice A2 n2 c2)] w fun e w' => e = .returned (.bool (staOkB x)) ∧ Below w.heap.size w w' := by
  have HL := Lib.hid h2.len
  have al := (Below.refl w.heap.size w).alloc (Nat.le_refl _) (.cells #[.slice A1 n1 c1, .slice A2 n2 c2] 87)
  have BX := BoxL.new w [.slice A1 n1 c1, .slice A2 n2 c2] 87
  unfold staV
  go_enter Try.func116, Try.ntmps116
  go_wp2_with fail
  obtain ⟨W, hW⟩ : ∃ W, W = w.alloc (.cells #[.slice A1 n1 c1, .slice A2 n2 c2] 87) := ⟨_, rfl⟩
  obtain ⟨g, hg⟩ : ∃ g, w.heap.size = g := ⟨_, rfl⟩
  have HG := Lib.hid hg
  rw [← hW] at BX al ⊢
  simp only [hg] at BX ⊢
  clear hW hg
  have hco := catOk_spec x.cat A1 n1 c1 W (h1.keep cstK al) hb
  unfold ctlV at hco
  refine hco.mono ?_
  rintro e w1 ⟨rfl, hb1⟩
  clear hco
  obtain ⟨qc, hqc⟩ : ∃ q, catOkB x.cat = q := ⟨_, rfl⟩
  have QC := Lib.hid hqc
  rw [hqc]
  clear hqc
  have BX1 := BX.keep hb1
  have al1 := bthen al hb1
  clear BX al
  have BX := BX1
  have al := al1
  clear BX1 al1
  cases qc
  · have HB := Lib.hid (show staOkB x = false by unfold staOkB; rw [QC.out, Bool.and_false])
    go_wp2
    go_returns
    exact ⟨ret_bool HB.out.symm, al⟩
  go_wp2_with fail
  clear hb1
  obtain ⟨U, hU⟩ : ∃ U, U = w1 := ⟨_, rfl⟩
  subst hU
  go_loopw [3] (fun i wr => ∃ (k : Nat), k ≤ n2 ∧ i = .int .i64 k ∧ (∀ j : Nat, j < k → saiAtB x.said j = true) ∧ Below U.heap.size U wr) (fun i _ => n2 - (intOf i).toNat)
  case atStart => exact ⟨0, Nat.zero_le _, rfl, fun j h => absurd h (by omega), Below.refl _ _⟩
  case round =>
    obtain ⟨k, hk, rfl, hcl, hbr⟩ := hrel
    have HCL := Lib.hid hcl; clear hcl
    have BR := BX.keep hbr
    have e0 := BR.cell 0 _ rfl
    have e1 := BR.cell 1 _ rfl
    have hgl := BR.lt
    have hB := bthen al hbr
    by_cases hlt : k < n2
    · have k1 := h2.keep saiK hB
      obtain ⟨b, off, rfl⟩ := k1.head (by omega)
      obtain ⟨bl, y, hy, hcr⟩ := sai_el k1 hlt
      have f0 : wr.cell? ⟨b, off + k * 3, none⟩ = some (.int .i64 y.cl) := hcr 0 _ rfl
      have f1 : wr.cell? ⟨b, off + k * 3 + 1, none⟩ = some (.int .i64 y.no) := hcr 1 _ rfl
      have f2 : wr.cell? ⟨b, off + k * 3 + 2, none⟩ = some (.string y.tx) := hcr 2 _ rfl
      have HAX := Lib.hid (saiAt_of hy)
      clear hy hcr
      have aly := (Below.refl wr.heap.size wr).alloc (Nat.le_refl _) (.cells #[.int .i64 y.cl, .int .i64 y.no, .string y.tx] 153)
      have BY := BoxL.new wr [.int .i64 y.cl, .int .i64 y.no, .string y.tx] 153
      go_wp2_with fail
      obtain ⟨V, hV⟩ : ∃ V, V = wr.alloc (.cells #[.int .i64 y.cl, .int .i64 y.no, .string y.tx] 153) := ⟨_, rfl⟩
      obtain ⟨gy, hgy⟩ : ∃ g, wr.heap.size = g := ⟨_, rfl⟩
      rw [← hV] at BY aly ⊢
      simp only [hgy] at BY ⊢
      have HGY := Lib.hid hgy
      clear hV hgy
      have z0 := BY.cell 0 _ rfl; have z1 := BY.cell 1 _ rfl; have zl := BY.lt
      have BR2 := BR.keep aly
      have f0' := keep_cell aly f0
      clear e0 e1 hgl f0 f1 f2
      have e0 := BR2.cell 0 _ rfl
      have e1 := BR2.cell 1 _ rfl
      have hgl := BR2.lt
      have hbl := cell_lt f0'
      have hB2 := bthen hB aly
      have hbr2 := bthen hbr aly
      have k2 := h2.keep saiK hB2
      have HV := Lib.hid (show saiAtB x.said k = (inB y.cl 1 9 && inB y.no 1 1000 && (k == 0 || decide ((saiAt x.said (k - 1)).cl < y.cl))) by unfold saiAtB; rw [HAX.out])
      obtain ⟨q0, hq0⟩ : ∃ q, inB y.cl 1 9 = q := ⟨_, rfl⟩
      obtain ⟨q1, hq1⟩ : ∃ q, inB y.no 1 1000 = q := ⟨_, rfl⟩
      have Q0 := Lib.hid hq0; have Q1 := Lib.hid hq1
      cases q0
      · have HB := Lib.hid (show staOkB x = false by unfold staOkB; rw [saisOk_no (l := x.said) (k := k) (by have := HL.out; omega) (by rw [HV.out, Q0.out]; rfl)]; rfl)
        clear hq1
        refine wp_region_grow (by kernel_rfl) (by kernel_rfl) ?_
        repeat (first | go_big_quiet_step ((go_at_call 125; exact grow_same (l1In_any _ _ _ _))))
        refine wpQuiet_nil ?_
        intro _ hw'
        obtain ⟨⟨w4, hb4⟩, hw''⟩ := hw'
        change _ = w4 at hw''
        subst hw''
        go_wp2
        go_returns
        exact ⟨ret_bool HB.out.symm, bthen hB2 hb4⟩
      cases q1
      · have HB := Lib.hid (show staOkB x = false by unfold staOkB; rw [saisOk_no (l := x.said) (k := k) (by have := HL.out; omega) (by rw [HV.out, Q0.out, Q1.out]; rfl)]; rfl)
        refine wp_region_grow (by kernel_rfl) (by kernel_rfl) ?_
        repeat (first | go_big_quiet_step ((go_at_call 125; exact grow_same (l1In_any _ _ _ _))))
        refine wpQuiet_nil ?_
        intro _ hw'
        obtain ⟨⟨w4, hb4⟩, hw''⟩ := hw'
        change _ = w4 at hw''
        subst hw''
        go_wp2
        go_returns
        exact ⟨ret_bool HB.out.symm, bthen hB2 hb4⟩
      by_cases hk0 : k = 0
      · have HK := Lib.hid (show saiAtB x.said k = true by rw [HV.out, Q0.out, Q1.out, hk0]; rfl)
        have gd0 : decide ((k : Int) > 0) = false := by rw [decide_eq_false_iff_not]; omega
        have gd00 : decide (0 < k) = false := by rw [decide_eq_false_iff_not]; omega
        have gd000 : ¬ 0 < k := by omega
        clear hk0
        refine wp_region_grow (by kernel_rfl) (by kernel_rfl) ?_
        repeat (first | go_big_quiet_step ((go_at_call 125; exact grow_same (l1In_any _ _ _ _))))
        refine wpQuiet_nil ?_
        intro _ hw'
        obtain ⟨⟨w4, hb4⟩, hw''⟩ := hw'
        change _ = w4 at hw''
        subst hw''
        go_wp2
        exact ⟨⟨k + 1, by omega, by go_num, upto_succ HCL.out HK.out, bthen hbr2 hb4⟩, by simp [intOf]; omega⟩
      · skip
        obtain ⟨k', rfl⟩ : ∃ k', k = k' + 1 := ⟨k - 1, by omega⟩
        clear hk0
        obtain ⟨_, u, hu, hcru⟩ := sai_el k2 (show k' < n2 by omega)
        have u0 : V.cell? ⟨b, off + k' * 3, none⟩ = some (.int .i64 u.cl) := hcru 0 _ rfl
        have HAU := Lib.hid (saiAt_of hu)
        clear hcru hu
        have gd0 : decide (((k' + 1 : Nat) : Int) > 0) = true := by rw [decide_eq_true_eq]; omega
        have gd1 : (((k' + 1 : Nat) : Int)) - 1 = (k' : Int) := by omega
        have HV2 := Lib.hid (show saiAtB x.said (k' + 1) = decide (u.cl < y.cl) by rw [HV.out, Nat.add_sub_cancel, HAU.out, Q0.out, Q1.out]; simp)
        by_cases hlu : u.cl < y.cl
        · have gd2 : decide (u.cl ≥ y.cl) = false := decide_eq_false (by omega)
          have HU := Lib.hid hlu; clear hlu
          refine wp_region_grow (by kernel_rfl) (by kernel_rfl) ?_
          repeat (first | go_big_quiet_step ((go_at_call 125; exact grow_same (l1In_any _ _ _ _))))
          refine wpQuiet_nil ?_
          intro _ hw'
          obtain ⟨⟨w4, hb4⟩, hw''⟩ := hw'
          change _ = w4 at hw''
          subst hw''
          go_wp2
          exact ⟨⟨k' + 1 + 1, by omega, by go_num, upto_succ HCL.out (by rw [HV2.out]; exact decide_eq_true HU.out), bthen hbr2 hb4⟩, by simp [intOf]; omega⟩
        · have gd2 : decide (u.cl ≥ y.cl) = true := decide_eq_true (by omega)
          have HB := Lib.hid (show staOkB x = false by unfold staOkB; rw [saisOk_no (l := x.said) (k := k' + 1) (by have := HL.out; omega) (by rw [HV2.out]; exact decide_eq_false hlu)]; rfl)
          clear hlu
          refine wp_region_grow (by kernel_rfl) (by kernel_rfl) ?_
          repeat (first | go_big_quiet_step ((go_at_call 125; exact grow_same (l1In_any _ _ _ _))))
          refine wpQuiet_nil ?_
          intro _ hw'
          obtain ⟨⟨w4, hb4⟩, hw''⟩ := hw'
          change _ = w4 at hw''
          subst hw''
          go_wp2
          go_returns
          exact ⟨ret_bool HB.out.symm, bthen hB2 hb4⟩
    · have HK := Lib.hid (saisOk_yes (l := x.said) (fun j hj => HCL.out j (by have := HL.out; omega)))
      go_wp2
      go_returns
      exact ⟨ret_bool (by unfold staOkB; rw [HK.out, QC.out]; rfl), hB⟩
end Go.Proofs.Ytdphdnllhmnelaa
/- Contract of the reference's ShowState at a right catalog, no answers said. -/
namespace Go.Proofs.Ytdphdnllhmnelaa
open Go.RowKit
/-- a text behind its length -/
def pcT (s : ByteArray) : ByteArray := varS s.size ++ s
def pcAdd (o s : ByteArray) : ByteArray := o ++ pcT s
def txT (l : List ByteArray) : ByteArray := l.foldl pcAdd ⟨#[]⟩
def snT (o : ByteArray) (y : Snp) : ByteArray := o ++ pcT y.nm ++ pcT y.tg ++ varS y.ch.length ++ txT y.ch
def stT (o : ByteArray) (x : Cst) : ByteArray := x.snaps.foldl snT (o ++ pcT x.nm ++ varS x.snaps.length)
def catT (x : Ctl) : ByteArray := x.sets.foldl stT (varS x.sets.length) ++ varS 0
theorem pcT_size (s : ByteArray) : (pcT s).size ≤ 2 * s.size + 1 := by
  have := varS_size s.size
  unfold pcT
  rw [ByteArray.size_append]; omega
theorem foldl_size {α : Type} {f : ByteArray → α → ByteArray} {m : Nat} : ∀ {l : List α} {o : ByteArray}, (∀ x ∈ l, ∀ o, (f o x).size ≤ o.size + m) → (l.foldl f o).size ≤ o.size + l.length * m
  | [], o, _ => by simp
  | x :: l, o, h => by
    have h1 := h x (List.mem_cons_self ..) o
    have h2 := foldl_size (l := l) (o := f o x) (fun y hy => h y (List.mem_cons_of_mem _ hy))
    rw [List.foldl_cons, List.length_cons, Nat.add_mul]
    omega
theorem take_foldl {α : Type} {f : ByteArray → α → ByteArray} {l : List α} {o : ByteArray} {k : Nat} {x : α} (h : l[k]? = some x) : (l.take (k + 1)).foldl f o = f ((l.take k).foldl f o) x := by
  have hk : k < l.length := by
    by_cases hk : k < l.length
    · exact hk
    · rw [List.getElem?_eq_none (by omega)] at h; cases h
  rw [List.getElem?_eq_getElem hk] at h
  injection h with h
  rw [List.take_succ_eq_append_getElem hk, List.foldl_append, h]
  rfl
theorem txT_size {l : List ByteArray} (h : ∀ x ∈ l, x.size ≤ 9) (hl : l.length ≤ 4) : (txT l).size ≤ 76 := by
  have := foldl_size (f := pcAdd) (m := 19) (l := l) (o := ⟨#[]⟩) (fun x hx o => by
    have h1 := h x hx
    have h2 := pcT_size x
    unfold pcAdd
    rw [ByteArray.size_append]; omega)
  have h0 : (⟨#[]⟩ : ByteArray).size = 0 := rfl
  unfold txT
  omega
theorem StrR.at_w {w : World} {A : Option Addr} {n c : Nat} {l : List ByteArray} (h : StrR w A n c l) : StrsAt w A n l := by unfold StrR at h; exact h.1
attribute [local irreducible] StrsAt StrR RowR varS
set_option maxRecDepth 8000 in
theorem l26Texts_spec (l : List ByteArray) (A : Option Addr) (n c : Nat) (w : World) (h : StrsAt w A n l) (hs : ∀ x ∈ l, x.size ≤ 9) (hn : l.length ≤ 1000) :
    Calls Try.prog 117 #[.slice A n c] w fun e w' => e = .returned (.string (txT l)) ∧ Below w.heap.size w w' := by
  have hln : l.length = n := by unfold StrsAt at h; exact h.1.symm
  have HLN := Lib.hid hln
  have hn1 : n ≤ 1000 := by omega
  clear hln
  go_enter Try.func117, Try.ntmps117
  go_wp2
  go_loopw [3, 4] (fun o i wr => ∃ k : Nat, k ≤ n ∧ i = .int .i64 k ∧ o = .string ((l.take k).foldl pcAdd ⟨#[]⟩) ∧ Below w.heap.size w wr) (fun _ i _ => n - (intOf i).toNat)
  case atStart => exact ⟨0, by omega, rfl, rfl, Below.refl _ _⟩
  case round =>
    obtain ⟨k, hk, rfl, rfl, hB⟩ := hrel
    have hat := h.keep hB
    by_cases hlt : k < n
    · have hi : (k : Int) < (n : Int) := by omega
      obtain ⟨b, off, rfl, hbl, hcell⟩ := hat.at_ (by omega)
      have hck := hcell k hlt
      have hx : l[k]? = some (sAt l k) := by have := HLN.out; simp [sAt, show k < l.length by omega]
      have hsz := hs (sAt l k) (List.mem_of_getElem? hx)
      have hfs := foldl_size (f := pcAdd) (m := 19) (l := l.take k) (o := ⟨#[]⟩) (fun x hx o => by
        have h1 := hs x (List.mem_of_mem_take hx)
        have h2 := pcT_size x
        unfold pcAdd
        rw [ByteArray.size_append]; omega)
      have h0 : (⟨#[]⟩ : ByteArray).size = 0 := rfl
      have hlk : (l.take k).length ≤ 1000 := by rw [List.length_take]; omega
      have HF := Lib.hid (take_foldl (f := pcAdd) (o := ⟨#[]⟩) hx)
      generalize sAt l k = s at *
      generalize (l.take k).foldl pcAdd ⟨#[]⟩ = o at *
      have hob : o.size ≤ 19000 := by
        have : (l.take k).length * 19 ≤ 1000 * 19 := Nat.mul_le_mul_right _ hlk
        omega
      clear hfs hlk h0 hx hcell hat
      go_wp2_with fail
      refine (l4Piece_spec s _ (by omega)).mono ?_
      rintro e w2 ⟨rfl, hb2⟩
      have hps := pcT_size s
      unfold pcT at hps
      go_wp2
      exact ⟨⟨k + 1, by omega, by congr 1, by rw [HF.out]; rfl, bthen hB hb2⟩, by simp [intOf]; omega⟩
    · have hkn : k = n := by omega
      subst hkn
      have ilt : ¬ ((k : Int) < (k : Int)) := by omega
      have HT := Lib.hid (show (l.take k).foldl pcAdd ⟨#[]⟩ = txT l by rw [List.take_of_length_le (by have := HLN.out; omega)]; rfl)
      go_wp2
      go_returns
      exact ⟨by rw [HT.out]; rfl, hB⟩
theorem snT_size {y : Snp} (h : y.nm.size ≤ 8 ∧ y.tg.size ≤ 8 ∧ y.ch.length ≤ 4) (hc : ∀ t ∈ y.ch, t.size ≤ 9) (o : ByteArray) : (snT o y).size ≤ o.size + 120 := by
  have h1 := pcT_size y.nm
  have h2 := pcT_size y.tg
  have h3 := varS_size y.ch.length
  have h4 := txT_size hc h.2.2
  unfold snT
  simp only [ByteArray.size_append]
  omega
theorem stT_size {x : Cst} (h : x.nm.size ≤ 8) (hl : x.snaps.length ≤ 5) (hs : ∀ p ∈ x.snaps, (p.nm.size ≤ 8 ∧ p.tg.size ≤ 8 ∧ p.ch.length ≤ 4) ∧ ∀ t ∈ p.ch, t.size ≤ 9) (o : ByteArray) : (stT o x).size ≤ o.size + 700 := by
  have h1 := pcT_size x.nm
  have h2 := varS_size x.snaps.length
  have h3 := foldl_size (f := snT) (m := 120) (l := x.snaps) (o := o ++ pcT x.nm ++ varS x.snaps.length) (fun p hp o => snT_size (hs p hp).1 (hs p hp).2 o)
  unfold stT
  simp only [ByteArray.size_append] at h3
  omega
/-- the bounds of a catalog's texts -/
def CatSm (x : Ctl) : Prop := x.sets.length ≤ 5 ∧ ∀ s ∈ x.sets, s.nm.size ≤ 8 ∧ s.snaps.length ≤ 5 ∧ ∀ p ∈ s.snaps, (p.nm.size ≤ 8 ∧ p.tg.size ≤ 8 ∧ p.ch.length ≤ 4) ∧ ∀ t ∈ p.ch, t.size ≤ 9
attribute [local go_sem] Grow.cell Grow.frozen
set_option maxHeartbeats 4000000 in
set_option maxRecDepth 8000 in
theorem showState_spec (x : Ctl) (A : Option Addr) (n c : Nat) (w : World) (h1 : RowR cstR 2 w A n c x.sets) (hok : staOkB ⟨x, []⟩ = true) (hsm : CatSm x) (hcb : ctlB x) :
    Calls Try.prog 49 #[staV ⟨x, []⟩ (.slice A n c) (.slice none 0 0)] w fun e w' => e = .returned (.string (catT x)) ∧ Below w.heap.size w w' := by
  have HL := Lib.hid h1.len
  have hn5 : n ≤ 5 := by have := h1.len; have := hsm.1; omega
  have HSM := Lib.hid hsm.2
  have al := (Below.refl w.heap.size w).alloc (Nat.le_refl _) (.cells #[.slice A n c, .slice none 0 0] 87)
  have BX := BoxL.new w [.slice A n c, .slice none 0 0] 87
  have hS : RowR saiR 3 (w.alloc (.cells #[.slice A n c, .slice none 0 0] 87)) none 0 0 [] := (RowO.nil (F := saiF) (e := 153)).at_ saiK (by omega)
  have HOK := Lib.hid hok
  clear hok hsm
  unfold staV
  go_enter Try.func49, Try.ntmps49
  go_wp2_with fail
  refine (staOk_spec ⟨x, []⟩ _ _ _ _ _ _ _ (h1.keep cstK al) hS hcb (by omega)).mono ?_
  rintro e w1 ⟨rfl, hb1⟩
  rw [HOK.out]
  have BX1 := BX.keep hb1
  have hB1 := bthen al hb1
  obtain ⟨g, hg⟩ : ∃ g, w.heap.size = g := ⟨_, rfl⟩
  have HG := Lib.hid hg
  simp only [hg] at BX1 ⊢
  have e0 := BX1.cell 0 _ rfl
  have e1 := BX1.cell 1 _ rfl
  clear BX al hb1 hS hg
  go_wp2_with fail
  refine (var_spec n _ (by omega)).mono ?_
  rintro e w2 ⟨rfl, hb2⟩
  have BX2 := BX1.keep hb2
  have hB2 := bthen hB1 hb2
  have hv := varS_size n
  clear BX1 hB1 hb2 e0 e1
  go_wp2
  go_loopw [3, 4] (fun o i wr => ∃ k : Nat, k ≤ n ∧ i = .int .i64 k ∧ o = .string ((x.sets.take k).foldl stT (varS n)) ∧ Below w2.heap.size w2 wr) (fun _ i _ => n - (intOf i).toNat)
  case atStart => exact ⟨0, by omega, rfl, rfl, Below.refl _ _⟩
  case round =>
    obtain ⟨k, hk, rfl, rfl, hbr⟩ := hrel
    have BR := BX2.keep hbr
    have hB := bthen hB2 hbr
    have e0 := BR.cell 0 _ rfl
    have e1 := BR.cell 1 _ rfl
    have hgl := BR.lt
    have hfo := foldl_size (f := stT) (m := 700) (l := x.sets.take k) (o := varS n) (fun s hs o => by
      have := HSM.out s (List.mem_of_mem_take hs)
      exact stT_size this.1 this.2.1 this.2.2 o)
    have hlk : (x.sets.take k).length ≤ 5 := by rw [List.length_take]; omega
    have hfo5 : ((x.sets.take k).foldl stT (varS n)).size ≤ 4000 := by
      have : (x.sets.take k).length * 700 ≤ 5 * 700 := Nat.mul_le_mul_right _ hlk
      omega
    clear hfo hlk
    by_cases hlt : k < n
    · have k1 := h1.keep cstK hB
      obtain ⟨b, off, rfl⟩ := k1.head (by omega)
      obtain ⟨bl, y, cs, hy, ⟨B1, m1, d1, rfl, y1⟩, hcell⟩ := k1.elem_at hlt
      have HF := Lib.hid (take_foldl (f := stT) (o := varS n) hy)
      generalize (x.sets.take k).foldl stT (varS n) = o at *
      have f0 := hcell 0 _ rfl
      have f1 := hcell 1 _ rfl
      simp only [Nat.add_zero] at f0
      obtain ⟨sb1, sb2, sb3⟩ := HSM.out y (List.mem_of_getElem? hy)
      have HSB := Lib.hid sb3; clear sb3
      have HM := Lib.hid y1.len
      have hm5 : m1 ≤ 5 := by have := y1.len; omega
      have klt : (k : Int) < (n : Int) := by omega
      have u1 := varS_size y.nm.size
      have u2 := varS_size m1
      clear hcell hy k1
      go_wp2
      refine wp_region_grow (by kernel_rfl) (by kernel_rfl) ?_
      repeat (first | go_big_quiet_step (first | (go_at_call 71; exact grow_of (l4Piece_spec _ _ (by omega))) | (go_at_call 70; exact grow_of (var_spec _ _ (by omega)))))
      refine wpQuiet_nil ?_
      intro _ hw'
      obtain ⟨⟨w3, hb3⟩, hw''⟩ := hw'
      change _ = w3 at hw''
      subst hw''
      rename_i w3
      have al3 := (Below.refl wr.heap.size wr).alloc (Nat.le_refl _) (.cells #[.string y.nm, .slice B1 m1 d1] 148)
      have BP := (BoxL.new wr [.string y.nm, .slice B1 m1 d1] 148).keep hb3
      have hb3' := bthen al3 hb3
      have BR3 := BR.keep hb3'
      have hB3 := bthen hB hb3'
      have hbr3 := bthen hbr hb3'
      have y3 := y1.keep snpK hb3'
      obtain ⟨p, hp⟩ : ∃ p, wr.heap.size = p := ⟨_, rfl⟩
      simp only [hp] at BP ⊢
      clear al3 hb3 hb3' BR hB hbr e0 e1 hgl f0 f1 y1 hp
      go_wp2
      go_loopw [3, 6] (fun o2 i wq => ∃ j : Nat, j ≤ m1 ∧ i = .int .i64 j ∧ o2 = .string ((y.snaps.take j).foldl snT (o ++ (varS y.nm.size ++ y.nm) ++ varS m1)) ∧ Below w3.heap.size w3 wq) (fun _ i _ => m1 - (intOf i).toNat)
      case atStart => exact ⟨0, by omega, rfl, by rfl, Below.refl _ _⟩
      case round =>
        obtain ⟨j, hj, rfl, rfl, hbq⟩ := hrel
        have BPq := BP.keep hbq
        have BRq := BR3.keep hbq
        have p0 := BPq.cell 0 _ rfl
        have p1 := BPq.cell 1 _ rfl
        have hpl := BPq.lt
        have hfo := foldl_size (f := snT) (m := 120) (l := y.snaps.take j) (o := o ++ (varS y.nm.size ++ y.nm) ++ varS m1) (fun v hv o => snT_size (HSB.out v (List.mem_of_mem_take hv)).1 (HSB.out v (List.mem_of_mem_take hv)).2 o)
        have hlk : (y.snaps.take j).length ≤ 5 := by rw [List.length_take]; omega
        have hfo6 : ((y.snaps.take j).foldl snT (o ++ (varS y.nm.size ++ y.nm) ++ varS m1)).size ≤ 5000 := by
          have : (y.snaps.take j).length * 120 ≤ 5 * 120 := Nat.mul_le_mul_right _ hlk
          simp only [ByteArray.size_append] at hfo
          omega
        clear hfo hlk
        by_cases jlt : j < m1
        · have k2 := y3.keep snpK hbq
          obtain ⟨b2, off2, rfl⟩ := k2.head (by omega)
          obtain ⟨bl2, v, cs2, hv, ⟨C1, q1, r1, rfl, v1⟩, hcell2⟩ := k2.elem_at jlt
          have HG2 := Lib.hid (take_foldl (f := snT) (o := o ++ (varS y.nm.size ++ y.nm) ++ varS m1) hv)
          generalize (y.snaps.take j).foldl snT (o ++ (varS y.nm.size ++ y.nm) ++ varS m1) = o3 at *
          have f0 := hcell2 0 _ rfl
          have f1 := hcell2 1 _ rfl
          have f2 := hcell2 2 _ rfl
          simp only [Nat.add_zero] at f0
          obtain ⟨⟨t1, t2, t3⟩, t4⟩ := HSB.out v (List.mem_of_getElem? hv)
          have st1 : StrsAt wr C1 q1 v.ch := v1.at_w
          have hq4 : v.ch.length = q1 := by unfold StrsAt at st1; exact st1.1.symm
          have HQ := Lib.hid hq4
          have hq5 : q1 ≤ 4 := by omega
          have hx1 := txT_size t4 t3
          have hch : v.ch.length ≤ 1000 := by omega
          have T4 := Lib.hid t4
          have jlti : (j : Int) < (m1 : Int) := by omega
          have u3 := varS_size v.nm.size
          have u4 := varS_size v.tg.size
          have u5 := varS_size q1
          have al5 := (Below.refl wr.heap.size wr).alloc (Nat.le_refl _) (.cells #[.string v.nm, .string v.tg, .slice C1 q1 r1] 150)
          have st5 := st1.keep al5
          clear hcell2 hv k2 v1 t4 hq4
          go_wp2
          refine wp_region_grow (by kernel_rfl) (by kernel_rfl) ?_
          repeat (first | go_big_quiet_step (first | (go_at_call 71; exact grow_of (l4Piece_spec _ _ (by omega))) | (go_at_call 70; exact grow_of (var_spec _ _ (by omega))) | (go_at_call 117; exact grow_of (l26Texts_spec _ _ _ _ _ (st5.keep (Grow.below _)) T4.out hch))))
          refine wpQuiet_nil ?_
          intro _ hw'
          obtain ⟨⟨w5, hb5⟩, hw''⟩ := hw'
          change _ = w5 at hw''
          subst hw''
          go_wp2
          exact ⟨⟨j + 1, by omega, by go_num, by rw [HG2.out]; unfold snT pcT; rw [HQ.out], bthen hbq (bthen al5 hb5)⟩, by simp [intOf]; omega⟩
        · have hjm : j = m1 := by omega
          subst hjm
          have ilt : ¬ ((j : Int) < (j : Int)) := by omega
          have HT := Lib.hid (show (y.snaps.take j).foldl snT (o ++ (varS y.nm.size ++ y.nm) ++ varS j) = stT o y by
            rw [List.take_of_length_le (by have := HM.out; omega)]
            unfold stT pcT
            rw [← HM.out])
          go_wp2
          exact ⟨⟨k + 1, by omega, by go_num, by rw [HF.out, HT.out], bthen hbr3 hbq⟩, by simp [intOf]; omega⟩
    · have hkn : k = n := by omega
      subst hkn
      have ilt : ¬ ((k : Int) < (k : Int)) := by omega
      have HT := Lib.hid (show (x.sets.take k).foldl stT (varS k) ++ varS 0 = catT x by
        rw [List.take_of_length_le (by have := HL.out; omega)]
        unfold catT
        rw [← HL.out])
      generalize (x.sets.take k).foldl stT (varS k) = o at *
      have v0 := varS_size 0
      go_wp2_with fail
      refine (var_spec 0 _ (by omega)).mono ?_
      rintro e w4 ⟨rfl, hb4⟩
      have BR4 := BR.keep hb4
      have d1 := BR4.cell 1 _ rfl
      clear e0 e1
      go_wp2
      have hB4 := bthen hB hb4
      clear hbr hB hb4 BR d1 HSM
      go_loopw [3, 8] (fun o2 i wq => i = .int .i64 0 ∧ o2 = .string (o ++ varS 0) ∧ Below w4.heap.size w4 wq) (fun _ _ _ => 0)
      case atStart => exact ⟨rfl, rfl, Below.refl _ _⟩
      case round =>
        obtain ⟨rfl, rfl, hbq⟩ := hrel
        have BR5 := BR4.keep hbq
        have d1 := BR5.cell 1 _ rfl
        go_wp2
        go_returns
        exact ⟨by rw [HT.out]; rfl, bthen hB4 hbq⟩
end Go.Proofs.Ytdphdnllhmnelaa
