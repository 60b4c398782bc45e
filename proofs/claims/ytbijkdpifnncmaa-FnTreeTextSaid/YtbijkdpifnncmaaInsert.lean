/- slices.Insert of one entry into a row of entries of the call's own. -/
import Derived.Test.YtbijkdpifnncmaaDelEnts
import Derived.Shelf.RegionOpenPlain
import Derived.Lib.Walk
import Derived.Lib.JoinLaws
import Derived.Lib.AppendZeros
import Derived.Lib.AppendZerosOnto
import Derived.Lib.Overlaps
import Derived.Laws.Externs
import Derived.Laws.NewBlocks
import Derived.Laws.LoneSync
import Derived.WalkKit
namespace Go.Proofs.Ytbijkdpifnncmaa
open Go.Shelf Go.RowKit Go.Lib

/-! ### 'copy' at elements of any size -/
theorem run_copyN {P : Program} (w : World) (dT sT ty elem : TypeId) (sz b o dLen dCap : Nat) (a : Addr) (sLen sCap : Nat) (cs : List Value)
    (hu : P.underlying dT = some (.slice elem)) (hs : (P.info? elem).map (·.size) = some sz) (hn : cs.length = Nat.min sLen dLen * sz)
    (hsrc : ∀ j v, cs[j]? = some v → w.cell? (a.add j) = some v) (hc : ∀ j, j < cs.length → (w.cell? ⟨b, o + j, none⟩).isSome = true) (hf : ∀ j, j < cs.length → w.frozen? ⟨b, o + j, none⟩ = false) (h1 : ∀ v ∈ cs, v.oneCell' = true) :
    (Builtin.copy_ #[dT, sT] ty #[.slice (some ⟨b, o, none⟩) dLen dCap, .slice (some a) sLen sCap]).run P w = .ok (goInt (Nat.min sLen dLen)) (w.setCells b o cs) := by
  have hl := run_loadCells_list (P := P) w a cs hsrc
  have hst := run_storeCells_cells (P := P) b o cs 0 w (by simpa using hc) (by simpa using hf) h1
  cases hq : P.info? elem with
  | none => simp [hq] at hs
  | some i =>
    have hi : i.size = sz := by simpa [hq] using hs
    simp [Builtin.copy_, run_underlying hu, Builtin.lenOf, Builtin.firstCells, sizeOf, typeInfo, hq, hi, ← hn, hl, hst]
theorem wp_copyN {P : Program} (w : World) {o : Oper} {a : Act} {K : Act → World → Prop} {Q : Exit → Act → World → Prop} (d s : Operand) (t t' : TypeId)
    (ho : o.op = .call { callee := .builtin .copy, args := #[d, s], argTypes := #[t, t'] }) (v u : Value) (hd : a.eval d = v) (hs : a.eval s = u) {v' : Value} {w' : World}
    (hr : (Builtin.copy_ #[t, t'] o.type #[v, u]).run P w = .ok v' w') (h : K (a.put o.dst v') w') : o.wp P a w K Q := by
  unfold Oper.wp execOp
  simp only [ho, resolve, invoke, builtin, Sem.run_bind, Sem.run_pure, Result.andThen_ok, List.map_toArray, List.map_cons, List.map_nil, hd, hs, hr]
  exact h
theorem wpList_copyN {P : Program} (w : World) {ops : Array Oper} {rest : List Oper} {o : Oper} {a : Act} {Q : Exit → Act → World → Prop} (hgd : o.guard = none) (d s : Operand) (t t' : TypeId)
    (ho : o.op = .call { callee := .builtin .copy, args := #[d, s], argTypes := #[t, t'] }) (v u : Value) (hd : a.eval d = v) (hs : a.eval s = u) {v' : Value} {w' : World}
    (hr : (Builtin.copy_ #[t, t'] o.type #[v, u]).run P w = .ok v' w') (h : wpList P ops Q rest (a.put o.dst v') w') : wpList P ops Q (o :: rest) a w :=
  wpList_plain hgd fun _ hK => wp_copyN w d s t t' ho v u hd hs hr (hK _ _ h)
theorem step_copyN {P : Program} {ops : Array Oper} {o : Oper} {a : Act} {w : World} {K : Act → World → Prop} {Q : Exit → Act → World → Prop} {E : Prop}
    (hg : o.guard = none) (d x : Operand) (dT sT : TypeId) (hop : o.op = Op.call { callee := Callee.builtin Builtin.copy, args := #[d, x], argTypes := #[dT, sT] })
    (v u : Value) (hd : a.eval d = v) (hx : a.eval x = u) {v' : Value} {w' : World} (hr : (Builtin.copy_ #[dT, sT] o.type #[v, u]).run P w = .ok v' w') (hK : K (a.put o.dst v') w') :
    if Region.wanted o (yielded ops a.tmps) = true then Oper.wp P o a w K Q else E := by
  have hw : Region.wanted o (yielded ops a.tmps) = true := by simp [Region.wanted, hg]
  rw [if_pos hw]
  exact wp_copyN w d x dT sT hop v u hd hx hr hK
theorem some_setCells (b : Nat) (vs : List Value) (o : Nat) (w : World) (h : ∀ j, j < vs.length → (w.cell? ⟨b, o + j, none⟩).isSome = true) (k : Nat) (hk : (w.cell? ⟨b, k, none⟩).isSome = true) : ((w.setCells b o vs).cell? ⟨b, k, none⟩).isSome = true := by
  by_cases hin : o ≤ k ∧ k < o + vs.length
  · have := World.cell?_setCells_in b vs o w h (k - o) (by omega)
    rw [show o + (k - o) = k by omega] at this
    rw [this]; rfl
  · rw [World.cell?_setCells_out b vs o w ⟨b, k, none⟩ (fun _ _ => by show k < o ∨ o + vs.length ≤ k; omega)]
    exact hk

theorem sizeEntry (w : World) : (Go.sizeOf 33).run Try.prog w = .ok 2 w := by
  first | (unfold Go.sizeOf; kernel_rfl) | kernel_rfl | rfl
theorem infoSize : (Try.prog.info? 33).map (·.size) = some 2 := by kernel_rfl

set_option maxHeartbeats 4000000 in
set_option maxRecDepth 100000 in
/-- there is room, i < len(s): in place -/
theorem ins_shift (b n c i vb : Nat) (cs : List Value) (v0 v1 : Value) (w : World) (hi : i < n) (hroom : n + 1 ≤ c) (hc63 : c ≤ 9223372036854775807) (hvb : vb ≠ b) (hcl : cs.length = n * 2)
    (hcs : ∀ j v, cs[j]? = some v → w.cell? ⟨b, j, none⟩ = some v) (hsp : ∀ j, j < (n + 1) * 2 → (w.cell? ⟨b, j, none⟩).isSome = true) (hfz : ∀ j, w.frozen? ⟨b, j, none⟩ = false)
    (hv0 : w.cell? ⟨vb, 0, none⟩ = some v0) (hv1 : w.cell? ⟨vb, 1, none⟩ = some v1) (h1c : ∀ v ∈ cs, v.oneCell' = true) (h10 : v0.oneCell' = true) (h11 : v1.oneCell' = true) (hfv : ∀ j, w.frozen? ⟨vb, j, none⟩ = false) :
    Calls Try.prog 46 #[.slice (some ⟨b, 0, none⟩) n c, .int .i64 i, .slice (some ⟨vb, 0, none⟩) 1 1] w fun e w' =>
      e = .returned (.slice (some ⟨b, 0, none⟩) (n + 1) c) ∧ w' = (w.drew.setCells b ((i + 1) * 2) (cs.drop (i * 2))).setCells b (i * 2) [v0, v1] := by
  obtain ⟨tA, kA, hsa, _, _⟩ := World.shape?_of_cell? hv0
  obtain ⟨u, hu⟩ := Option.isSome_iff_exists.1 (hsp 0 (by omega))
  obtain ⟨tB, kB, hsb, hkB, _⟩ := World.shape?_of_cell? hu
  have hkB : kB ≠ 0 := by omega
  have hz2 : ¬ ((i : Int) = (n : Int)) := by omega
  have hov : ∀ lb cb, (callFunc 72 #[.slice (some ⟨vb, 0, none⟩) 1 1, .slice (some ⟨b, (i + 1) * 2, none⟩) lb cb]).run Try.prog w = .ok (.value (.bool false)) w := fun lb cb => by
    rw [run_callFunc_extern Try.func72 (by kernel_rfl) (by kernel_rfl) (by kernel_rfl) (e := Extern.SlicesOverlaps.overlaps #[24, 24] #[4]) (by kernel_rfl),
      Lib.run_overlaps_apart w 24 4 33 Try.underlying24 2 sizeEntry ⟨vb, 0, none⟩ ⟨b, (i + 1) * 2, none⟩ 1 1 lb cb hvb tA tB kA kB hsa hsb hkB (hfv 0) (hfv kA)]
    rfl
  have hdl : (cs.drop (i * 2)).length = (n - i) * 2 := by rw [List.length_drop, hcl]; omega
  have mixed : Try.prog.follows Departure.mixedOrders = true := by kernel_rfl
  have hw1 : IntKind.i64.wrap ((i : Int) + 1) = (i : Int) + 1 := by rw [IntKind.wrap_i64]; omega
  have hb1 : (0 : Int) ≤ (i : Int) + 1 := by omega
  have htn : ((i : Int) + 1).toNat = i + 1 := by omega
  have hb3 : (i : Int) ≤ (n : Int) + 1 := by omega
  have hin : i ≤ n := by omega
  have hb2 : ¬ (c = i + 1) := by omega
  have hb4 : ¬ (c = i) := by omega
  have hcp1 : ∀ ty dc sc, (Builtin.copy_ #[24, 24] ty #[.slice (some ⟨b, (i + 1) * 2, none⟩) (n - i) dc, .slice (some ⟨b, i * 2, none⟩) (n + 1 - i) sc]).run Try.prog w.drew = .ok (goInt ((n - i : Nat) : Int)) (w.drew.setCells b ((i + 1) * 2) (cs.drop (i * 2))) := fun ty dc sc => by
    have hmin : Nat.min (n + 1 - i) (n - i) = n - i := by simp only [Nat.min_def]; split <;> omega
    have := run_copyN (P := Try.prog) w.drew 24 24 ty 33 2 b ((i + 1) * 2) (n - i) dc ⟨b, i * 2, none⟩ (n + 1 - i) sc (cs.drop (i * 2)) Try.underlying24 infoSize (by rw [hdl, hmin])
      (fun j v hj => by rw [Addr.add_lit]; exact hcs (i * 2 + j) v (by rwa [List.getElem?_drop] at hj))
      (fun j hj => hsp _ (by omega)) (fun j hj => hfz _) (fun v hv => h1c v (List.mem_of_mem_drop hv))
    rwa [hmin] at this
  obtain ⟨W1, hW1⟩ : ∃ W1, W1 = w.drew.setCells b ((i + 1) * 2) (cs.drop (i * 2)) := ⟨_, rfl⟩
  have hsp1 : ∀ k, k < (n + 1) * 2 → (W1.cell? ⟨b, k, none⟩).isSome = true := fun k hk => by
    rw [hW1]
    exact some_setCells b (cs.drop (i * 2)) ((i + 1) * 2) w.drew (fun j hj => hsp ((i + 1) * 2 + j) (by rw [hdl] at hj; omega)) k (hsp k hk)
  have hcp2 : ∀ (W : World), (∀ x, W.cell? x = W1.cell? x) → (∀ x, W.frozen? x = W1.frozen? x) → ∀ ty dc, (Builtin.copy_ #[24, 24] ty #[.slice (some ⟨b, i * 2, none⟩) (n + 1 - i) dc, .slice (some ⟨vb, 0, none⟩) 1 1]).run Try.prog W = .ok (goInt 1) (W.setCells b (i * 2) [v0, v1]) := fun W hWc hWf ty dc => by
    have hmin : Nat.min 1 (n + 1 - i) = 1 := by simp only [Nat.min_def]; split <;> omega
    have := run_copyN (P := Try.prog) W 24 24 ty 33 2 b (i * 2) (n + 1 - i) dc ⟨vb, 0, none⟩ 1 1 [v0, v1] Try.underlying24 infoSize (by rw [hmin]; rfl)
      (fun j v hj => by
        rw [Addr.add_lit, hWc, hW1, World.cell?_setCells_out b _ _ _ _ (fun h _ => absurd h hvb), Nat.zero_add]
        rcases j with _ | _ | j
        · injection hj with hj; subst hj; exact hv0
        · injection hj with hj; subst hj; exact hv1
        · cases hj)
      (fun j hj => by rw [hWc]; exact hsp1 _ (by simp at hj; omega)) (fun j hj => by rw [hWf, hW1, World.frozen?_setCells]; exact hfz _) (fun v hv => by
        simp at hv; rcases hv with rfl | rfl
        · exact h10
        · exact h11)
    rwa [hmin] at this
  rw [← hW1] at hcp1
  clear hsp1
  go_enter Try.func46, Try.ntmps46
  go_wp2_with (simp only [hov])
  go_region_law_o (refine step_copyN rfl _ _ 24 24 rfl _ _ (by simp [Act.eval, Act.put]) (by simp [Act.eval, Act.put]) (hcp1 _ _ _) ?_)
  go_wp2_with (at_builtin; refine wpList_copyN _ rfl _ _ 24 24 rfl _ _ rfl rfl (hcp2 _ (fun _ => rfl) (fun _ => rfl) _ _) ?_)
  go_returns
  first | exact ⟨rfl, rfl⟩ | exact ⟨rfl, by rw [hW1]⟩

theorem zeroE_size (k : Nat) : (Builtin.zeroCells (Value.agg #[.string ByteArray.empty, .slice none 0 0]).cells k).size = k * 2 := by
  simp [Builtin.zeroCells, Value.cells]
set_option maxHeartbeats 4000000 in
set_option maxRecDepth 100000 in
/-- i < len(s), no room: a new row -/
theorem ins_grow (b n c i vb : Nat) (cs : List Value) (v0 v1 : Value) (w : World) (hi : i < n) (hnc : n ≤ c) (hroom : c < n + 1) (hbig : (n + 1) * 40 ≤ 140737488355328) (hcl : cs.length = n * 2)
    (hcs : ∀ j v, cs[j]? = some v → w.cell? ⟨b, j, none⟩ = some v)
    (hv0 : w.cell? ⟨vb, 0, none⟩ = some v0) (hv1 : w.cell? ⟨vb, 1, none⟩ = some v1) (h1c : ∀ v ∈ cs, v.oneCell' = true) (h10 : v0.oneCell' = true) (h11 : v1.oneCell' = true) :
    Calls Try.prog 46 #[.slice (some ⟨b, 0, none⟩) n c, .int .i64 i, .slice (some ⟨vb, 0, none⟩) 1 1] w fun e w' =>
      ∃ G ROW, n + 1 ≤ G ∧ G ≤ maxLen ∧ ROW.size = G * 2 ∧ (∀ j, j < i * 2 → ROW[j]? = cs[j]?) ∧ e = .returned (.slice (some ⟨w.heap.size, 0, none⟩) (n + 1) G) ∧
      w' = (((w.alloc (.cells ROW 33)).drew.setCells w.heap.size (i * 2) [v0, v1]).drew).setCells w.heap.size ((i + 1) * 2) (cs.drop (i * 2)) := by
  have mixed : Try.prog.follows Departure.mixedOrders = true := by kernel_rfl
  obtain ⟨i0, hi0, hz0, hzs, hzb⟩ := info_parts infoEntry
  have hz2 : ¬ ((i : Int) = (n : Int)) := by omega
  have hz3 : (c : Int) < (n : Int) + 1 := by omega
  have hbw : b < w.heap.size := cell_lt (hcs 0 _ (List.getElem?_eq_getElem (by omega)))
  have hvw : vb < w.heap.size := cell_lt hv0
  have hkk : (n : Int) + 1 - (i : Int) = ((n + 1 - i : Nat) : Int) := by omega
  have hik : i + (n + 1 - i) = n + 1 := by omega
  have hold : (Builtin.firstCells i0.size i (.slice (some ⟨b, 0, none⟩) i c)).run Try.prog w.drew = .ok (cs.take (i * 2)).toArray w.drew := by
    rw [hzs]
    exact run_firstCells_some w.drew 2 i ⟨b, 0, none⟩ i c (cs.take (i * 2)) (by rw [List.length_take]; omega) (fun j v hj => by
      rw [Addr.add_lit, Nat.zero_add]
      rw [List.getElem?_take] at hj
      split at hj
      · exact hcs j v hj
      · cases hj)
  obtain ⟨G, hG⟩ : ∃ G, G = grownCap w (n + 1) c 33 := ⟨_, rfl⟩
  obtain ⟨ROW, hROW⟩ : ∃ ROW : Array Value, ROW = (cs.take (i * 2)).toArray ++ Builtin.zeroCells (Value.agg #[.string ByteArray.empty, .slice none 0 0]).cells (n + 1 - i) ++ Builtin.zeroCells (Value.agg #[.string ByteArray.empty, .slice none 0 0]).cells (G - (n + 1)) := ⟨_, rfl⟩
  have hrz : ∀ ty, (Builtin.append_ #[24, 3] ty #[.slice (some ⟨b, 0, none⟩) i c, .int .i64 ((n : Int) + 1 - (i : Int))]).run Try.prog w =
      .ok (.slice (some ⟨w.heap.size, 0, none⟩) (n + 1) G) (w.drew.alloc (.cells ROW 33)) := fun ty => by
    have h := Lib.run_append_grow_zeros w 24 3 ty 33 i0 _ .i64 .i64 Try.underlying24 Try.underlying3 hi0 hz0 (some ⟨b, 0, none⟩) i c (cs.take (i * 2)) hold (n + 1 - i) (by omega) (by omega) (by omega) (by omega) (by rw [hzb]; omega) (by rw [hzb, hik]; exact growslice_fits hroom hbig)
    rw [hik, ← hG, ← hROW] at h
    rw [hkk]
    exact h
  have hGn : n + 1 ≤ G := by rw [hG]; exact grownCap_ge w _ _ _
  have hGm : G ≤ maxLen := by rw [hG]; exact grownCap_le_maxLen w (n + 1) c 33 (by unfold maxLen; omega)
  have hG63 : G ≤ 9223372036854775807 := by unfold maxLen at hGm; omega
  have hRl : ROW.size = G * 2 := by
    rw [hROW, Array.size_append, Array.size_append, zeroE_size, zeroE_size]
    simp [hcl]
    omega
  have hRc : ∀ j, j < i * 2 → ROW[j]? = cs[j]? := fun j hj => by
    have hl : (cs.take (i * 2)).length = i * 2 := by rw [List.length_take]; omega
    rw [hROW, Array.getElem?_append, if_pos (by simp [hcl, zeroE_size]; omega), Array.getElem?_append, if_pos (by simp [hcl]; omega)]
    simp [hj]
  obtain ⟨W1, hW1⟩ : ∃ W1, W1 = w.drew.alloc (.cells ROW 33) := ⟨_, rfl⟩
  rw [← hW1] at hrz
  have hN : ∀ j, j < (n + 1) * 2 → (W1.cell? ⟨w.heap.size, j, none⟩).isSome = true := fun j hj => by
    rw [hW1, World.cell?_alloc_at (w := w.drew) ROW _ w.heap.size j rfl, Array.getElem?_eq_getElem (by omega)]; rfl
  have hNf : ∀ j, W1.frozen? ⟨w.heap.size, j, none⟩ = false := fun j => by rw [hW1]; exact World.frozen?_alloc_at (w := w.drew) ROW _ w.heap.size j rfl
  have hOb : ∀ j v, w.cell? ⟨b, j, none⟩ = some v → W1.cell? ⟨b, j, none⟩ = some v := fun j v h => by rw [hW1, World.cell?_alloc_past (w := w.drew) _ b j hbw]; exact h
  have hOv : ∀ j v, w.cell? ⟨vb, j, none⟩ = some v → W1.cell? ⟨vb, j, none⟩ = some v := fun j v h => by rw [hW1, World.cell?_alloc_past (w := w.drew) _ vb j hvw]; exact h
  have hcpA : ∀ (W : World), (∀ x, W.cell? x = W1.cell? x) → (∀ x, W.frozen? x = W1.frozen? x) → ∀ ty dc, (Builtin.copy_ #[24, 24] ty #[.slice (some ⟨w.heap.size, i * 2, none⟩) (n + 1 - i) dc, .slice (some ⟨vb, 0, none⟩) 1 1]).run Try.prog W = .ok (goInt 1) (W.setCells w.heap.size (i * 2) [v0, v1]) := fun W hWc hWf ty dc => by
    have hmin : Nat.min 1 (n + 1 - i) = 1 := by simp only [Nat.min_def]; split <;> omega
    have := run_copyN (P := Try.prog) W 24 24 ty 33 2 w.heap.size (i * 2) (n + 1 - i) dc ⟨vb, 0, none⟩ 1 1 [v0, v1] Try.underlying24 infoSize (by rw [hmin]; rfl)
      (fun j v hj => by
        rw [Addr.add_lit, hWc, Nat.zero_add]
        rcases j with _ | _ | j
        · injection hj with hj; subst hj; exact hOv _ _ hv0
        · injection hj with hj; subst hj; exact hOv _ _ hv1
        · cases hj)
      (fun j hj => by rw [hWc]; exact hN _ (by simp at hj; omega)) (fun j hj => by rw [hWf]; exact hNf _) (fun v hv => by
        simp at hv; rcases hv with rfl | rfl
        · exact h10
        · exact h11)
    rwa [hmin] at this
  have hGi : ¬ (G = i) := by omega
  have hGim : ¬ (G = i + 1) := by omega
  have hci : ¬ (c = i) := by omega
  have hbN : b ≠ w.heap.size := by omega
  have hdl : (cs.drop (i * 2)).length = (n - i) * 2 := by rw [List.length_drop, hcl]; omega
  have hcpB : ∀ (W : World), (∀ x, W.cell? x = (W1.setCells w.heap.size (i * 2) [v0, v1]).cell? x) → (∀ x, W.frozen? x = (W1.setCells w.heap.size (i * 2) [v0, v1]).frozen? x) → ∀ ty dc sc, (Builtin.copy_ #[24, 24] ty #[.slice (some ⟨w.heap.size, (i + 1) * 2, none⟩) (n - i) dc, .slice (some ⟨b, i * 2, none⟩) (n - i) sc]).run Try.prog W = .ok (goInt ((n - i : Nat) : Int)) (W.setCells w.heap.size ((i + 1) * 2) (cs.drop (i * 2))) := fun W hWc hWf ty dc sc => by
    have hmin : Nat.min (n - i) (n - i) = n - i := by simp only [Nat.min_def]; split <;> omega
    have := run_copyN (P := Try.prog) W 24 24 ty 33 2 w.heap.size ((i + 1) * 2) (n - i) dc ⟨b, i * 2, none⟩ (n - i) sc (cs.drop (i * 2)) Try.underlying24 infoSize (by rw [hdl, hmin])
      (fun j v hj => by
        rw [Addr.add_lit, hWc, World.cell?_setCells_out _ _ _ _ _ (fun h _ => absurd h hbN)]
        exact hOb _ v (hcs (i * 2 + j) v (by rwa [List.getElem?_drop] at hj)))
      (fun j hj => by rw [hWc]; exact some_setCells _ _ _ _ (fun t ht => hN _ (by simp at ht; omega)) _ (hN _ (by omega)))
      (fun j hj => by rw [hWf, World.frozen?_setCells]; exact hNf _) (fun v hv => h1c v (List.mem_of_mem_drop hv))
    rwa [hmin] at this
  subst hW1
  have hE1 : ∀ x, ((w.alloc (.cells ROW 33)).drew).cell? x = (w.drew.alloc (.cells ROW 33)).cell? x := fun x => rfl
  have hE2 : ∀ x, ((w.alloc (.cells ROW 33)).drew).frozen? x = (w.drew.alloc (.cells ROW 33)).frozen? x := fun x => rfl
  have hF1 : ∀ x, (((w.alloc (.cells ROW 33)).drew.setCells w.heap.size (i * 2) [v0, v1]).drew).cell? x = ((w.drew.alloc (.cells ROW 33)).setCells w.heap.size (i * 2) [v0, v1]).cell? x := fun x => rfl
  have hF2 : ∀ x, (((w.alloc (.cells ROW 33)).drew.setCells w.heap.size (i * 2) [v0, v1]).drew).frozen? x = ((w.drew.alloc (.cells ROW 33)).setCells w.heap.size (i * 2) [v0, v1]).frozen? x := fun x => rfl
  have hw1 : IntKind.i64.wrap ((i : Int) + 1) = (i : Int) + 1 := by rw [IntKind.wrap_i64]; omega
  have hb1 : (0 : Int) ≤ (i : Int) + 1 := by omega
  have hin : i ≤ n := by omega
  have htn : ((i : Int) + 1).toNat = i + 1 := by omega
  have hb3 : (i : Int) ≤ (n : Int) := by omega
  clear hkk hik hold hROW hG hN hNf hOb hOv
  go_enter Try.func46, Try.ntmps46
  go_wp2_with (first
    | (at_builtin; refine Lib.wpList_append_run _ rfl _ _ _ _ rfl _ _ rfl rfl _ _ (hrz _) ?_)
    | (at_builtin; refine wpList_copyN _ rfl _ _ 24 24 rfl _ _ rfl rfl (hcpA _ hE1 hE2 _ _) ?_)
    | (at_builtin; refine wpList_copyN _ rfl _ _ 24 24 rfl _ _ rfl rfl (hcpB _ (fun _ => rfl) (fun _ => rfl) _ _ _) ?_))
  go_region_law_o (refine step_copyN rfl _ _ 24 24 rfl (.slice (some ⟨w.heap.size, (i + 1) * 2, none⟩) (n - i) (G - (i + 1))) (.slice (some ⟨b, i * 2, none⟩) (n - i) (c - i)) (by simp [Act.eval, Act.put]) (by simp [Act.eval, Act.put]) (hcpB _ hF1 hF2 3 (G - (i + 1)) (c - i)) ?_)
  go_wp2
  go_returns
  exact ⟨G, ROW, hGn, hGm, hRl, hRc, rfl, rfl⟩

set_option maxRecDepth 100000 in
/-- at the end: as an append -/
theorem ins_end (lo vb n c : Nat) (A : Option Addr) (xs : List Value) (v0 v1 : Value) (w : World) (hown : w.ownsRow lo 33 2 (.slice A n c) n xs) (hlo : lo ≤ w.heap.size) (hn : n ≤ 1048576)
    (hv0 : w.cell? ⟨vb, 0, none⟩ = some v0) (hv1 : w.cell? ⟨vb, 1, none⟩ = some v1) (h10 : v0.oneCell' = true) (h11 : v1.oneCell' = true) :
    Calls Try.prog 46 #[.slice A n c, .int .i64 n, .slice (some ⟨vb, 0, none⟩) 1 1] w fun e w' =>
      ∃ A' c', e = .returned (.slice A' (n + 1) c') ∧ w'.ownsRow lo 33 2 (.slice A' (n + 1) c') (n + 1) (xs ++ [v0, v1]) ∧ w.grownBy w' (Value.slice A n c).ownBlock ∧
      ((Value.slice A' (n + 1) c').ownBlock = (Value.slice A n c).ownBlock ∨ (Value.slice A' (n + 1) c').ownBlock = some w.heap.size) := by
  have mixed : Try.prog.follows Departure.mixedOrders = true := by kernel_rfl
  have hsrc : CellsAt w (some ⟨vb, 0, none⟩) 1 2 [v0, v1] := by
    refine ⟨rfl, fun _ => ⟨vb, 0, rfl, fun j u hu => ?_⟩⟩
    rcases j with _ | _ | j
    · injection hu with hu; subst hu; exact hv0
    · injection hu with hu; subst hu; exact hv1
    · cases hu
  have hle := own_le hown
  have hle1 := hle.1
  have hle2 := hle.2
  rcases own_form hown with ⟨rfl, rfl, rfl, rfl⟩ | ⟨g, rfl, _, _⟩
  · go_enter Try.func46, Try.ntmps46
    go_wp2_with (at_builtin; refine wpList_app (P := Try.prog) w rfl _ _ 24 rfl lo 33 _ 2 40 Try.underlying24 infoEntry rfl (by omega) (.slice none 0 0) 0 [] rfl hown (some ⟨vb, 0, none⟩) 1 1 [v0, v1] rfl hsrc (by simp [h10, h11]) (fun h => by cases h) (by unfold maxLen; omega) (by omega) hlo ?_; intro A' c' w1 hown1 hg1 hb1 hob1)
    go_returns
    exact ⟨A', c', rfl, hown1, hg1, hob1⟩
  · go_enter Try.func46, Try.ntmps46
    go_wp2_with (at_builtin; refine wpList_app (P := Try.prog) w rfl _ _ 24 rfl lo 33 _ 2 40 Try.underlying24 infoEntry rfl (by omega) (.slice (some ⟨g, 0, none⟩) n c) n xs rfl hown (some ⟨vb, 0, none⟩) 1 1 [v0, v1] rfl hsrc (by simp [h10, h11]) (fun h => by cases h) (by unfold maxLen; omega) (by omega) hlo ?_; intro A' c' w1 hown1 hg1 hb1 hob1)
    all_goals (go_returns; exact ⟨A', c', rfl, hown1, hg1, hob1⟩)

/-! ### one contract, on the row's cells -/
theorem own_more {w : World} {base e sz n c g m : Nat} {xs : List Value} (h : w.ownsRow base e sz (.slice (some ⟨g, 0, none⟩) n c) n xs) (hm : n ≤ m) (hc : m ≤ c) :
    ∃ ys, w.ownsRow base e sz (.slice (some ⟨g, 0, none⟩) m c) m ys ∧ ∀ t, t < n * sz → ys[t]? = xs[t]? := by
  have hle : n * sz ≤ m * sz := Nat.mul_le_mul_right _ hm
  obtain ⟨hl, h2⟩ := h
  rcases h2 with ⟨hv, _⟩ | ⟨g', cap, cur, hv, hb, hg, hn, hmx, hs, ht⟩
  · cases hv
  · injection hv with e1 e2 e3
    injection e1 with e1
    injection e1 with e1 _ _
    subst e1 e3
    have hcs : m * sz ≤ c * sz := Nat.mul_le_mul_right _ hc
    refine ⟨cur.toList.take (m * sz), ⟨by rw [List.length_take, Array.length_toList, hs]; omega, .inr ⟨g, c, cur, rfl, hb, hg, hc, hmx, hs, rfl⟩⟩, fun t htt => ?_⟩
    rw [← ht, List.getElem?_take_of_lt htt, List.getElem?_take_of_lt (by omega)]
theorem own_sets {base e sz n c g : Nat} (zs : List Value) : ∀ (o : Nat) (w : World) (xs : List Value), w.ownsRow base e sz (.slice (some ⟨g, 0, none⟩) n c) n xs →
    ∃ ys, (w.setCells g o zs).ownsRow base e sz (.slice (some ⟨g, 0, none⟩) n c) n ys ∧ (∀ t, t < o ∨ o + zs.length ≤ t → ys[t]? = xs[t]?) ∧ (∀ j, j < zs.length → o + j < n * sz → ys[o + j]? = zs[j]?) ∧ Ch (fun k => k = g) w (w.setCells g o zs) := by
  induction zs with
  | nil => intro o w xs h; exact ⟨xs, h, fun _ _ => rfl, fun j hj => absurd hj (by simp), Ch.refl _⟩
  | cons z zs ih =>
    intro o w xs h
    have hl := h.1
    obtain ⟨ys, h1, h2, h3, h4⟩ := ih (o + 1) (w.setCell ⟨g, o, none⟩ z) (xs.set o z) (h.stored o z).1
    refine ⟨ys, h1, fun t ht => ?_, fun j hj hx => ?_, ((Ch.refl (S := fun k => k = g) w).setCell (p := ⟨g, o, none⟩) rfl z).trans h4⟩
    · simp only [List.length_cons] at ht
      rw [h2 t (by omega), List.getElem?_set, if_neg (by omega)]
    · rcases j with _ | j
      · rw [Nat.add_zero] at hx ⊢
        rw [h2 o (.inl (by omega)), List.getElem?_set, if_pos rfl, if_pos (by omega)]; rfl
      · simp only [List.length_cons] at hj
        have := h3 j (by omega) (by omega)
        rw [show o + (j + 1) = o + 1 + j by omega, this]; rfl
/-- the cells with an element inserted -/
theorem ins_ext {ys xs : List Value} {v0 v1 : Value} {n i : Nat} (hi : i ≤ n) (hx : xs.length = n * 2) (hy : ys.length = (n + 1) * 2) (h0 : ∀ t, t < i * 2 → ys[t]? = xs[t]?) (h1 : ∀ j, j < 2 → ys[i * 2 + j]? = [v0, v1][j]?)
    (h2 : ∀ j, j < (n - i) * 2 → ys[(i + 1) * 2 + j]? = (xs.drop (i * 2))[j]?) : ys = xs.take (i * 2) ++ [v0, v1] ++ xs.drop (i * 2) := by
  have hl : (xs.take (i * 2)).length = i * 2 := by rw [List.length_take]; omega
  apply List.ext_getElem?
  intro t
  rw [List.append_assoc, List.getElem?_append, hl]
  by_cases c1 : t < i * 2
  · rw [if_pos c1, h0 t c1, List.getElem?_take_of_lt c1]
  · rw [if_neg c1]
    by_cases c2 : t < (i + 1) * 2
    · rw [List.getElem?_append, if_pos (by simp; omega), ← h1 (t - i * 2) (by omega), show i * 2 + (t - i * 2) = t by omega]
    · rw [List.getElem?_append, if_neg (by simp; omega)]
      by_cases c3 : t < (n + 1) * 2
      · rw [show t - i * 2 - [v0, v1].length = t - (i + 1) * 2 by simp; omega, ← h2 (t - (i + 1) * 2) (by omega), show (i + 1) * 2 + (t - (i + 1) * 2) = t by omega]
      · rw [List.getElem?_eq_none (by omega), List.getElem?_eq_none (by simp; omega)]

theorem insert_own (lo vb n c i : Nat) (A : Option Addr) (xs : List Value) (v0 v1 : Value) (w : World) (hown : w.ownsRow lo 33 2 (.slice A n c) n xs) (hlo : lo ≤ w.heap.size) (hn : n ≤ 1048576) (hi : i ≤ n)
    (hvb : ∀ g, BlkOf A g → vb ≠ g) (hfv : ∀ j, w.frozen? ⟨vb, j, none⟩ = false) (hv0 : w.cell? ⟨vb, 0, none⟩ = some v0) (hv1 : w.cell? ⟨vb, 1, none⟩ = some v1)
    (h1c : ∀ v ∈ xs, v.oneCell' = true) (h10 : v0.oneCell' = true) (h11 : v1.oneCell' = true) :
    Calls Try.prog 46 #[.slice A n c, .int .i64 i, .slice (some ⟨vb, 0, none⟩) 1 1] w fun e w' =>
      ∃ A' c', e = .returned (.slice A' (n + 1) c') ∧ w'.ownsRow lo 33 2 (.slice A' (n + 1) c') (n + 1) (xs.take (i * 2) ++ [v0, v1] ++ xs.drop (i * 2)) ∧ Ch (fun k => (Value.slice A n c).ownBlock = some k) w w' ∧
      ((Value.slice A' (n + 1) c').ownBlock = (Value.slice A n c).ownBlock ∨ (Value.slice A' (n + 1) c').ownBlock = some w.heap.size) := by
  have hxl := hown.1
  by_cases hin : i = n
  · subst hin
    refine (ins_end lo vb i c A xs v0 v1 w hown hlo hn hv0 hv1 h10 h11).mono ?_
    rintro e w' ⟨A', c', rfl, h1, h2, h3⟩
    refine ⟨A', c', rfl, ?_, Ch.of_grow h2, h3⟩
    rwa [List.take_of_length_le (by omega), List.drop_eq_nil_of_le (by omega), List.append_nil]
  · have hle := own_le hown
    obtain ⟨g, rfl, hlg, hgh⟩ : ∃ g, A = some ⟨g, 0, none⟩ ∧ lo ≤ g ∧ g < w.heap.size := by
      rcases own_form hown with ⟨_, h0, _⟩ | h
      · omega
      · exact h
    have hcell : ∀ j v, xs[j]? = some v → w.cell? ⟨g, j, none⟩ = some v := fun j v hj => by
      exact (hown.cellAt j (by have := (List.getElem?_eq_some_iff.1 hj).1; omega)).trans hj
    have hdl : (xs.drop (i * 2)).length = (n - i) * 2 := by rw [List.length_drop, hxl]; omega
    by_cases hroom : n + 1 ≤ c
    · obtain ⟨ys, hy, hyx⟩ := own_more hown (Nat.le_succ n) hroom
      refine (ins_shift g n c i vb xs v0 v1 w (by omega) hroom hle.2 (hvb g (by simp [BlkOf])) hxl hcell (fun j hj => ?_) (fun j => hown.frozenAt j) hv0 hv1 h1c h10 h11 hfv).mono ?_
      · obtain ⟨u, hu⟩ := own_cell hy (j := j) (by omega)
        rw [hu]; rfl
      rintro e w' ⟨rfl, rfl⟩
      obtain ⟨y1, a1, a2, a3, a4⟩ := own_sets (xs.drop (i * 2)) ((i + 1) * 2) w.drew ys hy
      obtain ⟨y2, b1, b2, b3, b4⟩ := own_sets [v0, v1] (i * 2) _ y1 a1
      have hE : y2 = xs.take (i * 2) ++ [v0, v1] ++ xs.drop (i * 2) := by
        refine ins_ext (by omega) hxl b1.1 (fun t ht => ?_) (fun j hj => ?_) (fun j hj => ?_)
        · rw [b2 t (.inl ht), a2 t (.inl (by omega)), hyx t (by omega)]
        · exact b3 j hj (by omega)
        · rw [b2 _ (.inr (by simp; omega)), a3 j (by omega) (by omega)]
      rw [hE] at b1
      refine ⟨_, _, rfl, b1, ?_, .inl rfl⟩
      have h0 : Ch (fun k => k = g) w w.drew := (Ch.refl w).drew
      exact ((h0.trans a4).trans b4).mono (fun k hk => by subst hk; rfl)
    · refine (ins_grow g n c i vb xs v0 v1 w (by omega) hle.1 (by omega) (by omega) hxl hcell hv0 hv1 h1c h10 h11).mono ?_
      rintro e w' ⟨G, ROW, hG1, hG2, hR, hRc, rfl, rfl⟩
      have h0 : Ch (fun k => k = w.heap.size) w ((w.alloc (.cells ROW 33)).drew) := ((Ch.refl w).alloc _).drew
      have ho : ((w.alloc (.cells ROW 33)).drew).ownsRow lo 33 2 (.slice (some ⟨w.heap.size, 0, none⟩) (n + 1) G) (n + 1) (ROW.toList.take ((n + 1) * 2)) :=
        ⟨by simp [hR]; omega, .inr ⟨w.heap.size, G, ROW, rfl, hlo, by show (w.heap.push _)[w.heap.size]? = _; simp, hG1, hG2, hR, rfl⟩⟩
      obtain ⟨y1, a1, a2, a3, a4⟩ := own_sets [v0, v1] (i * 2) _ _ ho
      have a1' : (((w.alloc (.cells ROW 33)).drew.setCells w.heap.size (i * 2) [v0, v1]).drew).ownsRow lo 33 2 (.slice (some ⟨w.heap.size, 0, none⟩) (n + 1) G) (n + 1) y1 := a1
      obtain ⟨y2, b1, b2, b3, b4⟩ := own_sets (xs.drop (i * 2)) ((i + 1) * 2) _ y1 a1'
      have hE : y2 = xs.take (i * 2) ++ [v0, v1] ++ xs.drop (i * 2) := by
        refine ins_ext (by omega) hxl b1.1 (fun t ht => ?_) (fun j hj => ?_) (fun j hj => ?_)
        · rw [b2 t (.inl (by omega)), a2 t (.inl ht), List.getElem?_take_of_lt (by omega), Array.getElem?_toList, hRc t ht]
        · rw [b2 _ (.inl (by omega)), a3 j hj (by omega)]
        · rw [b3 j (by omega) (by omega)]
      rw [hE] at b1
      refine ⟨_, _, rfl, b1, ?_, .inr rfl⟩
      have hC := ((h0.trans a4).drew).trans b4
      exact ⟨hC.os, hC.tape, hC.output, hC.size, fun k hk _ => hC.block k hk (by omega)⟩
end Go.Proofs.Ytbijkdpifnncmaa
