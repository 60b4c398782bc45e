/- The frame of a law whose row lists the table of SHA-256's keys: a call that answers true and leaves old memory alone meets the given row. -/
import Derived.Test.YtfbfomlgjghcmaaDoorRows
import Derived.Test.YtfbfomlgjghcmaaDoorFrame
import Derived.Test.YtfbfomlgjghcmaaDoorShaI
import Derived.LaidMore
import Derived.MakeChecks
import Derived.ChangeVars
namespace Go.Proofs.YtfbfomlgjghcmaaDoor
open Go.ChangeShapes Go.WideShapes Go.ChangeAt Go.RowKit Go.Joins

section
variable {H : Type} {enc : TypeId × Value → H} {P : Program}
/-- listed variables read behind a call as they did, where old memory stands -/
theorem trodVars_below (hl : laidOutB P = true) {W W' : World} (hb : Below W.heap.size W W') : ∀ {ns : List String} {ds : List (DataW H)} {q : List MemPlace},
    (∀ n ∈ ns, ∀ g t, P.globalNamed n = some g → (P.globals[g]?).map (·.type) = some t → P.readableRec t = true ∧ t < P.types.size) →
    DataW.TrodVars enc P W (fun _ => true) ns ds q → (∀ x ∈ q, x.block < W.heap.size) → DataW.TrodVars enc P W' (fun b => decide (b < W.heap.size)) ns ds q
  | [], [], q, _, h, _ => h
  | [], _ :: _, q, _, h, _ => h
  | n :: ns, [], q, _, h, _ => h
  | n :: ns, d :: ds, q, hr, h, hlt => by
    obtain ⟨g, t, cs, fuel, p, q', h1, h2, h3, h4, h5, rfl⟩ := h
    have ht := hr n (List.mem_cons_self ..) g t h1 h2
    have hg : g < W.heap.size := by
      unfold World.var? at h3
      rw [h1] at h3
      simp only [Option.bind_some] at h3
      cases hh : W.heap[g]? with
      | none => rw [hh] at h3; simp at h3
      | some o => exact (Array.getElem?_eq_some_iff.1 hh).1
    have hv : W'.var? P n = some cs := by
      unfold World.var? at h3 ⊢
      simp only [h1, Option.bind_some] at h3 ⊢
      rw [hb.block g hg]
      exact h3
    refine ⟨g, t, cs, fuel, p, q', h1, h2, hv, ?_, trodVars_below hl hb (fun n' h' => hr n' (List.mem_cons_of_mem _ h')) h5 (fun x hx => hlt x (List.mem_append_right _ hx)), rfl⟩
    exact DataW.trod_stays (kids_book hl ht.1) (book_sized ht.1) (fun h => by cases h) ⟨ht.2, book_self t⟩ h4
      (fun x hx => hb.same (hlt x (List.mem_append_left _ (List.mem_append_right _ hx)))) (fun x hx => by simpa using hlt x (List.mem_append_left _ (List.mem_append_right _ hx)))

theorem law_post_vars (hl : laidOutB P = true) {f : Func} {s : ChangeSpec} {W W' : World} {args : Array Value} {ds gs : List (DataW H)} {before : List MemPlace} {tb : TypeId}
    (hread : ∀ t ∈ f.params.toList, P.readableRec t = true ∧ t < P.types.size) (hrt : f.resultTypes = #[tb]) (htb : P.underlying tb = some .bool)
    (hW : DataW.Whole enc P f.params.toList s.vars false W args.toList ds gs before)
    (hvr : ∀ n ∈ s.vars, ∀ g t, P.globalNamed n = some g → (P.globals[g]?).map (·.type) = some t → P.readableRec t = true ∧ t < P.types.size)
    (hres : (s.fn H (ds ++ gs)).results = [.lit (.bool true)]) (hargs : (s.fn H (ds ++ gs)).args = ds) (hvars : (s.fn H (ds ++ gs)).vars = gs)
    (hb : Below W.heap.size W W') : s.post enc P f false true false false W args (.bool true) W' := by
  have hW0 := hW
  obtain ⟨p, q, hA, hV, rfl, hfz, hnd⟩ := hW
  have hlt : ∀ x ∈ p, x.block < W.heap.size := fun x hx => hW0.lt x (List.mem_append_left _ hx)
  have hlq : ∀ x ∈ q, x.block < W.heap.size := fun x hx => hW0.lt x (List.mem_append_right _ hx)
  have hlast : (Value.bool true).resultList f.resultTypes.size = [.bool true] := by rw [hrt]; rfl
  refine ⟨ds, gs, p ++ q, [], p, q, hW0, ?_, ?_, ?_, ?_, fun h => by cases h⟩
  · rw [hlast, hres, hrt]
    exact trodAll_mk1 (shut_bool htb true)
  · rw [hargs]
    exact trodAll_spare hl hb hread hA hlt _ (fun x hx => by simpa using hlt x hx)
  · rw [hvars]
    exact trodVars_below hl hb hvr hV hlq
  · exact hb.frame _
end

theorem gWords : Tryd.prog.globalNamed "loop.example/g00954/impl.shaWords" = some 0 := by kernel_rfl
theorem tWords : (Tryd.prog.globals[0]?).map (·.type) = some 79 := by kernel_rfl
def wordsD : DataW Unit := Rows.laid_loop_example_g00954_impl_shaWords
def laidS : List (String × DataW Unit) := [("loop.example/g00954/impl.shaWords", Rows.laid_loop_example_g00954_impl_shaWords)]
theorem words_eq : wordsD = .agg (kList.map (fun (k : Nat) => .lit (.int .u32 (k : Int)))) := by kernel_rfl
theorem cells64 : Tryd.prog.cellsOf 60 = 1 := by kernel_rfl
/-- the listed table is the table of the 64 keys, in block 0 -/
theorem keys_of_laid {W : World} (h : laidMetH Tryd.prog laidS W) : KeysAt W := by
  rw [MakeChecks.laidMetH_plain _ _ _ (by kernel_rfl)] at h
  obtain ⟨ps, ⟨g0, t0, cs0, f0, p0, q0, hg0, ht0, hv0, hd0, _, _⟩, _, _⟩ := h
  obtain rfl := Option.some.inj (gWords.symm.trans hg0)
  obtain rfl := Option.some.inj (tWords.symm.trans ht0)
  obtain ⟨xs, m, rfl, hx, hlen, hn, hel⟩ := DataW.trod_array Tryd.underlying79 hd0
  simp only [Prod.mk.injEq] at hx
  have hx1 := (show wordsD = .agg (xs.map (·.1)) from hx.1)
  rw [words_eq] at hx1
  injection hx1 with hx1
  intro j hj
  have hj' : j < xs.length := by omega
  have e := hel j hj
  rw [List.getElem?_eq_getElem hj', cells64, Nat.mul_one] at e
  obtain ⟨n, e1, e2, _⟩ := DataW.trod_int Tryd.underlying60 e
  have h1 : (xs.map (·.1))[j]? = some (.lit (.int .u32 n)) := by rw [List.getElem?_map, List.getElem?_eq_getElem hj', e2]; rfl
  rw [← hx1, List.getElem?_map] at h1
  have hk : j < kList.length := hj
  rw [List.getElem?_eq_getElem hk] at h1
  simp only [Option.map_some, Option.some.injEq, DataW.lit.injEq, Lit.int.injEq, true_and] at h1
  have hc : cs0[j]? = some (.int .u32 n) := by
    have e3 : (cs0.toList.drop j)[0]? = some (.int .u32 n) := by
      have := congrArg (fun l => l[0]?) e1
      simpa using this
    simpa using e3
  have hw := World.var?_cell hg0 hv0 j
  rw [hw, hc, ← h1]
  show some (Value.int .u32 (kList[j] : Int)) = some (.int .u32 (kF j : Int))
  unfold kF
  rw [List.getD_eq_getElem?_getD, List.getElem?_eq_getElem hk]
  rfl
/-- the door's own heap meets the condition -/
theorem door_met (os : Os) (args : Array Value) : laidMetH Tryd.prog laidS ((World.doorLaid Tryd.prog 400 os).forCall (fun _ _ => 0) ⟨#[], args, []⟩).memory :=
  laidMetH_of_parts3 (fuel := 8) (laidMet_of_run' 8 (by kernel_rfl) (by kernel_rfl)) (by kernel_rfl) (by kernel_rfl)
end Go.Proofs.YtfbfomlgjghcmaaDoor
