/- Contracts and lemmas: Mem, Own, Row, Nest, CopyK, ByteRow, Var, VarLaw. -/
import Derived.Test.YtdphdnllhmnelaaJ0
import Derived.Maps.AppendAt
import Derived.Deep.AppendLies
import Derived.OwnWalk
import Derived.Laws.Bits128
/- Laws on rows of the call's own: append, make. -/
namespace Go.Proofs.Ytdphdnllhmnelaa
open Go.RowKit

/-- n elements of sz cells lie at A, the cells news -/
def CellsAt (w : World) (A : Option Addr) (n sz : Nat) (news : List Value) : Prop :=
  news.length = n * sz ∧ (0 < n → ∃ b off, A = some ⟨b, off, none⟩ ∧ ∀ j u, news[j]? = some u → w.cell? ⟨b, off + j, none⟩ = some u)

theorem CellsAt.keep {w w' : World} {A : Option Addr} {n sz : Nat} {news : List Value} (h : CellsAt w A n sz news) (hb : Below w.heap.size w w') : CellsAt w' A n sz news :=
  ⟨h.1, fun hn => by
    obtain ⟨b, off, rfl, hc⟩ := h.2 hn
    exact ⟨b, off, rfl, fun j u hu => keep_cell hb (hc j u hu)⟩⟩
theorem StrsAt.cells {w : World} {A : Option Addr} {n : Nat} {l : List ByteArray} (h : StrsAt w A n l) : CellsAt w A n 1 (l.map Value.string) := by
  refine ⟨by simp [h.1], fun hn => ?_⟩
  obtain ⟨b, off, rfl, _, hc⟩ := h.2 hn
  refine ⟨b, off, rfl, fun j u hu => ?_⟩
  have hj : j < l.length := by
    rcases Nat.lt_or_ge j l.length with h' | h'
    · exact h'
    · rw [List.getElem?_eq_none (by simpa using h')] at hu; cases hu
  have hl := h.1
  rw [hc j (by omega)]
  simp [hj] at hu
  rw [← hu, sAt_get hj]
/-- an owned row's cells -/
theorem own_cells {w : World} {base e sz n c : Nat} {A : Option Addr} {xs : List Value} (h : w.ownsRow base e sz (.slice A n c) n xs) : CellsAt w A n sz xs := by
  refine ⟨h.1, fun hn => ?_⟩
  rcases h.2 with ⟨_, h0⟩ | ⟨g, cap, cur, hv, hb, hg, _⟩
  · omega
  · injection hv with hA _ _
    subst hA
    exact ⟨g, 0, rfl, fun j u hu => by have := h.cells (g := g) rfl j u hu; rwa [Addr.add_lit] at this⟩
/-- an owned row: nil, or the head of a block -/
theorem own_form {w : World} {base e sz n c : Nat} {A : Option Addr} {xs : List Value} (h : w.ownsRow base e sz (.slice A n c) n xs) : (A = none ∧ n = 0 ∧ c = 0 ∧ xs = []) ∨ ∃ g, A = some ⟨g, 0, none⟩ ∧ base ≤ g ∧ g < w.heap.size := by
  rcases h.2 with ⟨hv, h0⟩ | ⟨g, cap, cur, hv, hb, hg, _⟩
  · injection hv with hA _ hc
    refine .inl ⟨hA, h0, hc, List.eq_nil_of_length_eq_zero ?_⟩
    rw [h.1, h0]; simp
  · injection hv with hA _ _
    exact .inr ⟨g, hA, hb, (Array.getElem?_eq_some_iff.1 hg).1⟩
theorem own_val {w : World} {base e sz n : Nat} {v : Value} {xs : List Value} (h : w.ownsRow base e sz v n xs) : ∃ A c, v = .slice A n c := by
  rcases h.2 with ⟨rfl, rfl⟩ | ⟨g, cap, cur, rfl, _⟩
  · exact ⟨none, 0, rfl⟩
  · exact ⟨_, cap, rfl⟩
theorem below_own {w w' : World} {base e sz n : Nat} {v : Value} {xs : List Value} (h : w.ownsRow base e sz v n xs) (hg : w.grownBy w' v.ownBlock) (hb : base ≤ w.heap.size) : Below base w w' :=
  (Below.refl base w).grown hg hb (fun k hk => (h.lt k hk).1)

/-- '[]T{}' -/
theorem own_empty (w : World) (e sz : Nat) {base : Nat} (hb : base ≤ w.heap.size) : (w.alloc (.cells #[] e)).ownsRow base e sz (.slice (some ⟨w.heap.size, 0, none⟩) 0 0) 0 [] :=
  World.ownsRow_lit w #[] 0 hb (by unfold maxLen; omega) (by simp)
section
variable {P : Program} (w : World)
theorem run_app (base t ty e : TypeId) (z : Value) (size bytes : Nat) (ht : P.underlying t = some (.slice e)) (hinfo : (P.info? e).map (fun i => (i.zero, i.size, i.bytes)) = some (some z, size, bytes))
    (hzs : z.cells.size = size) (hsz : 0 < size) (v : Value) (n : Nat) (xs : List Value) (hown : w.ownsRow base e size v n xs)
    (A : Option Addr) (m c : Nat) (news : List Value) (hsrc : CellsAt w A m size news) (h1 : ∀ u ∈ news, u.oneCell' = true) (hn : A = none → c = 0)
    (h63 : n + m ≤ maxLen) (hbytes : (n + m) * bytes ≤ 140737488355328) (hbase : base ≤ w.heap.size) :
    ∃ A' c' w', (Builtin.append_ #[t, t] ty #[v, .slice A m c]).run P w = .ok (.slice A' (n + m) c') w' ∧ w'.ownsRow base e size (.slice A' (n + m) c') (n + m) (xs ++ news) ∧ w.grownBy w' v.ownBlock ∧
      ((Value.slice A' (n + m) c').ownBlock = v.ownBlock ∨ (Value.slice A' (n + m) c').ownBlock = some w.heap.size) := by
  obtain ⟨i, hi, hz, hsize, hby⟩ := info_parts hinfo
  rcases A with _ | ad
  · have hm : m = 0 := by
      rcases Nat.eq_zero_or_pos m with h0 | h0
      · exact h0
      · obtain ⟨b, off, h, _⟩ := hsrc.2 h0
        cases h
    subst hm
    obtain rfl := hn rfl
    have hnil : news = [] := List.eq_nil_of_length_eq_zero (by simpa using hsrc.1)
    subst hnil
    obtain ⟨A0, c0, rfl⟩ := own_val hown
    exact ⟨A0, c0, w, run_append_owned_none w base t ty e i size ht hi _ n xs hown, by simpa using hown, World.grownBy.refl w _, .inl rfl⟩
  · have hcells : ∀ j u, news[j]? = some u → w.cell? (ad.add j) = some u := by
      intro j u hu
      rcases Nat.eq_zero_or_pos m with h0 | h0
      · subst h0
        have hnil : news = [] := List.eq_nil_of_length_eq_zero (by simpa using hsrc.1)
        subst hnil
        simp at hu
      · obtain ⟨b, off, h, hc⟩ := hsrc.2 h0
        injection h with h
        subst h
        rw [Addr.add_lit]
        exact hc j u hu
    obtain ⟨v', w', hrun, h2, h3, _, h5⟩ := run_append_own_at (P := P) w base t ty e i z size bytes ht hi hz hsize hby hzs hsz v n xs hown ad m c news hsrc.1 hcells h1 h63 hbytes hbase
    obtain ⟨A0, c0, rfl⟩ := own_val h2
    exact ⟨A0, c0, w', hrun, h2, h3, h5⟩

/-- 'append(s, x...)', s of the call's own, x read from wherever it lies -/
theorem wpList_app {ops : Array Oper} {rest : List Oper} {o : Oper} {a : Act} {Q : Exit → Act → World → Prop} (hgd : o.guard = none) (s x : Operand) (t : TypeId)
    (ho : o.op = .call { callee := .builtin .append, args := #[s, x], argTypes := #[t, t] })
    (base : Nat) (e : TypeId) (z : Value) (size bytes : Nat) (ht : P.underlying t = some (.slice e)) (hinfo : (P.info? e).map (fun i => (i.zero, i.size, i.bytes)) = some (some z, size, bytes))
    (hzs : z.cells.size = size) (hsz : 0 < size) (v : Value) (n : Nat) (xs : List Value) (hs : a.eval s = v) (hown : w.ownsRow base e size v n xs)
    (A : Option Addr) (m c : Nat) (news : List Value) (hx : a.eval x = .slice A m c) (hsrc : CellsAt w A m size news) (h1 : ∀ u ∈ news, u.oneCell' = true) (hn : A = none → c = 0)
    (h63 : n + m ≤ maxLen) (hbytes : (n + m) * bytes ≤ 140737488355328) (hbase : base ≤ w.heap.size)
    (h : ∀ A' c' w', w'.ownsRow base e size (.slice A' (n + m) c') (n + m) (xs ++ news) → w.grownBy w' v.ownBlock → Below base w w' →
      ((Value.slice A' (n + m) c').ownBlock = v.ownBlock ∨ (Value.slice A' (n + m) c').ownBlock = some w.heap.size) → wpList P ops Q rest (a.put o.dst (.slice A' (n + m) c')) w') : wpList P ops Q (o :: rest) a w := by
  refine wpList_plain hgd fun K hK => ?_
  obtain ⟨A', c', w', hr, h2, h3, h4⟩ := run_app (P := P) w base t o.type e z size bytes ht hinfo hzs hsz v n xs hown A m c news hsrc h1 hn h63 hbytes hbase
  unfold Oper.wp execOp
  simp only [ho, resolve, invoke, builtin, Sem.run_bind, Sem.run_pure, Result.andThen_ok, List.map_toArray, List.map_cons, List.map_nil, hs, hx, hr]
  exact hK _ _ (h A' c' w' h2 h3 (below_own hown h3 hbase) h4)

/-- 'append(s, x)' of one element, s of the call's own: the element lies in the newest block -/
theorem wpList_app1 {ops : Array Oper} {rest : List Oper} {o : Oper} {a : Act} {Q : Exit → Act → World → Prop} (hgd : o.guard = none) (s x : Operand) (t : TypeId)
    (ho : o.op = .call { callee := .builtin .append, args := #[s, x], argTypes := #[t, t] })
    (base : Nat) (e : TypeId) (z : Value) (size bytes : Nat) (ht : P.underlying t = some (.slice e)) (hinfo : (P.info? e).map (fun i => (i.zero, i.size, i.bytes)) = some (some z, size, bytes))
    (hzs : z.cells.size = size) (hsz : 0 < size) (v : Value) (n : Nat) (xs : List Value) (hs : a.eval s = v) (hown : w.ownsRow base e size v n xs)
    (news : Array Value) (hx : a.eval x = .slice (some ⟨w.heap.size, 0, none⟩) 1 1) (hnl : news.size = size) (h1 : ∀ u ∈ news.toList, u.oneCell' = true)
    (h63 : n + 1 ≤ maxLen) (hbytes : (n + 1) * bytes ≤ 140737488355328) (hbase : base ≤ w.heap.size)
    (h : ∀ A' c' w', w'.ownsRow base e size (.slice A' (n + 1) c') (n + 1) (xs ++ news.toList) → w.grownBy w' v.ownBlock → Below base w w' →
      ((Value.slice A' (n + 1) c').ownBlock = v.ownBlock ∨ (Value.slice A' (n + 1) c').ownBlock = some (w.heap.size + 1)) → wpList P ops Q rest (a.put o.dst (.slice A' (n + 1) c')) w') : wpList P ops Q (o :: rest) a (w.alloc (.cells news e)) := by
  have hsrc : CellsAt (w.alloc (.cells news e)) (some ⟨w.heap.size, 0, none⟩) 1 size news.toList := by
    refine ⟨by simp [hnl], fun _ => ⟨w.heap.size, 0, rfl, fun j u hu => ?_⟩⟩
    rw [Nat.zero_add, World.cell?_alloc_new]
    simpa using hu
  refine wpList_app (P := P) (w.alloc (.cells news e)) hgd s x t ho base e z size bytes ht hinfo hzs hsz v n xs hs (hown.alloc _) _ 1 1 news.toList hx hsrc h1 (fun h => by cases h) h63 hbytes (by simp; omega) ?_
  intro A' c' w' h2 h3 h4 h5
  have hg : w.grownBy w' v.ownBlock := (World.grownBy_alloc w _ v.ownBlock).trans h3
  exact h A' c' w' h2 hg (below_own hown hg hbase) (by simpa using h5)

/-- the same, the newest block's number given by itself -/
theorem wpList_app1g {ops : Array Oper} {rest : List Oper} {o : Oper} {a : Act} {Q : Exit → Act → World → Prop} (hgd : o.guard = none) (s x : Operand) (t : TypeId)
    (ho : o.op = .call { callee := .builtin .append, args := #[s, x], argTypes := #[t, t] })
    (base : Nat) (e : TypeId) (z : Value) (size bytes : Nat) (ht : P.underlying t = some (.slice e)) (hinfo : (P.info? e).map (fun i => (i.zero, i.size, i.bytes)) = some (some z, size, bytes))
    (hzs : z.cells.size = size) (hsz : 0 < size) (v : Value) (n : Nat) (xs : List Value) (hs : a.eval s = v) (hown : w.ownsRow base e size v n xs)
    (news : Array Value) (gx : Nat) (hx : a.eval x = .slice (some ⟨gx, 0, none⟩) 1 1) (hgx : gx = w.heap.size) (hnl : news.size = size) (h1 : ∀ u ∈ news.toList, u.oneCell' = true)
    (h63 : n + 1 ≤ maxLen) (hbytes : (n + 1) * bytes ≤ 140737488355328) (hbase : base ≤ w.heap.size)
    (h : ∀ A' c' w', w'.ownsRow base e size (.slice A' (n + 1) c') (n + 1) (xs ++ news.toList) → w.grownBy w' v.ownBlock → Below base w w' →
      ((Value.slice A' (n + 1) c').ownBlock = v.ownBlock ∨ (Value.slice A' (n + 1) c').ownBlock = some (w.heap.size + 1)) → wpList P ops Q rest (a.put o.dst (.slice A' (n + 1) c')) w') : wpList P ops Q (o :: rest) a (w.alloc (.cells news e)) := by
  subst hgx
  exact wpList_app1 w hgd s x t ho base e z size bytes ht hinfo hzs hsz v n xs hs hown news hx hnl h1 h63 hbytes hbase h

/-- 'make([]T, n)' -/
theorem wpList_mk {ops : Array Oper} {rest : List Oper} {o : Oper} {a : Act} {Q : Exit → Act → World → Prop}
    (hg : o.guard = none) (l c : Operand) (t : TypeId) (hop : o.op = Op.makeSlice t l c)
    (base : Nat) (e : TypeId) (z : Value) (size bytes : Nat) (ht : P.underlying t = some (.slice e)) (hinfo : (P.info? e).map (fun i => (i.zero, i.size, i.bytes)) = some (some z, size, bytes))
    (kl kc : IntKind) (L C : Int) (n : Nat) (hl : a.eval l = .int kl L) (hc : a.eval c = .int kc C) (hL : L = (n : Int)) (hC : C = (n : Int)) (b2 : bytes * n ≤ 281474976710656) (b3 : n ≤ maxLen) (b4 : base ≤ w.heap.size)
    (hK : ∀ w', w'.ownsRow base e size (.slice (some ⟨w.heap.size, 0, none⟩) n n) n (madeCells z.cells (n * size)).toList → w.grownBy w' none → Below base w w' → wpList P ops Q rest (a.put o.dst (.slice (some ⟨w.heap.size, 0, none⟩) n n)) w') :
    wpList P ops Q (o :: rest) a w := by
  obtain ⟨i, hi, hz, hsize, hby⟩ := info_parts hinfo
  exact wpList_make_full w hg l c t hop base e i z size ht hi hz hsize kl kc L C n hl hc hL hC (by rw [hby]; exact b2) b3 b4
    (fun w' h1 h2 => hK w' h1 h2 ((Below.refl base w).grown h2 b4 (fun k hk => by cases hk)))
end
end Go.Proofs.Ytdphdnllhmnelaa
/- Frames by sets of blocks; rows that are read, with a bound on their block. -/
namespace Go.Proofs.Ytdphdnllhmnelaa
open Go.RowKit

/-- of the old blocks only those in S may have changed -/
structure Ch (S : Nat → Prop) (w w' : World) : Prop where
  os : w'.os = w.os
  tape : w'.tape = w.tape
  output : w'.output = w.output
  size : w.heap.size ≤ w'.heap.size
  block : ∀ k, k < w.heap.size → ¬ S k → w'.heap[k]? = w.heap[k]?

section
variable {S T : Nat → Prop} {a b c w w' : World}
theorem Ch.refl (w : World) : Ch S w w := ⟨rfl, rfl, rfl, Nat.le_refl _, fun _ _ _ => rfl⟩
theorem Ch.trans (h : Ch S a b) (k : Ch S b c) : Ch S a c :=
  ⟨k.os.trans h.os, k.tape.trans h.tape, k.output.trans h.output, Nat.le_trans h.size k.size, fun i hi hn => (k.block i (Nat.lt_of_lt_of_le hi h.size) hn).trans (h.block i hi hn)⟩
theorem Ch.mono (h : Ch S a b) (hST : ∀ k, S k → T k) : Ch T a b := ⟨h.os, h.tape, h.output, h.size, fun k hk hn => h.block k hk (fun hs => hn (hST k hs))⟩
theorem Ch.of_below (h : Below w.heap.size w w') : Ch S w w' := ⟨h.os, h.tape, h.output, h.size, fun k hk _ => h.block k hk⟩
theorem Ch.below {B : Nat} (h : Ch S w w') (hS : ∀ k, S k → B ≤ k) (hB : B ≤ w.heap.size) : Below B w w' := ⟨h.os, h.tape, h.output, h.size, fun k hk => h.block k (by omega) (fun hs => by have := hS k hs; omega)⟩
theorem Ch.alloc (h : Ch S a w) (o : Obj) : Ch S a (w.alloc o) := h.trans (Ch.of_below ((Below.refl _ _).alloc (Nat.le_refl _) o))
theorem Ch.drew (h : Ch S a w) : Ch S a w.drew := ⟨h.os, h.tape, h.output, h.size, h.block⟩
theorem Ch.drewN (h : Ch S a w) (n : Nat) : Ch S a (w.drewN n) := ⟨h.os, h.tape, h.output, h.size, h.block⟩
theorem Ch.setCell (h : Ch S a w) {p : Addr} (hp : S p.block) (u : Value) : Ch S a (w.setCell p u) :=
  h.trans ⟨rfl, rfl, rfl, by simp, fun k _ hn => Below.heap_setCell _ _ _ _ (fun e => hn (by rw [e]; exact hp))⟩
theorem Ch.cell (h : Ch S w w') {g o : Nat} {v : Value} (hc : w.cell? ⟨g, o, none⟩ = some v) (hn : ¬ S g) : w'.cell? ⟨g, o, none⟩ = some v :=
  (World.cell?_of_block (a := ⟨g, o, none⟩) (h.block g (cell_lt hc) hn)).trans hc
end

theorem own_ch {S : Nat → Prop} {w w' : World} {base e sz n : Nat} {v : Value} {xs : List Value} (h : w.ownsRow base e sz v n xs) (hb : Ch S w w') (hS : ∀ k, v.ownBlock = some k → ¬ S k) : w'.ownsRow base e sz v n xs := by
  refine ⟨h.1, ?_⟩
  rcases h.2 with hn | ⟨g, cap, cur, rfl, hbb, hgg, rest⟩
  · exact .inl hn
  · exact .inr ⟨g, cap, cur, rfl, hbb, by rw [hb.block g (Array.getElem?_eq_some_iff.1 hgg).1 (hS g rfl)]; exact hgg, rest⟩
theorem own_up {w : World} {base base' e sz n : Nat} {v : Value} {xs : List Value} (h : w.ownsRow base e sz v n xs) (hb : base' ≤ base) : w.ownsRow base' e sz v n xs := by
  refine ⟨h.1, ?_⟩
  rcases h.2 with hn | ⟨g, cap, cur, rfl, hbb, hgg, rest⟩
  · exact .inl hn
  · exact .inr ⟨g, cap, cur, rfl, by omega, hgg, rest⟩

/-- n elements of sz cells lie at A, in a block below s: the cells xs -/
def CellsLt (s : Nat) (w : World) (A : Option Addr) (n sz : Nat) (xs : List Value) : Prop :=
  xs.length = n * sz ∧ (0 < n → ∃ b off, A = some ⟨b, off, none⟩ ∧ b < s ∧ ∀ j u, xs[j]? = some u → w.cell? ⟨b, off + j, none⟩ = some u)

section
variable {s s' n sz : Nat} {w w' : World} {A : Option Addr} {xs : List Value}
theorem CellsLt.at_ (h : CellsLt s w A n sz xs) {k : Nat} (hk : k < n) : ∃ b off, A = some ⟨b, off, none⟩ ∧ b < s ∧ ∀ j u, xs[j]? = some u → w.cell? ⟨b, off + j, none⟩ = some u := h.2 (by omega)
theorem CellsLt.ch {S : Nat → Prop} (h : CellsLt s w A n sz xs) (hb : Ch S w w') (hS : ∀ k, S k → s ≤ k) : CellsLt s w' A n sz xs :=
  ⟨h.1, fun hn => by
    obtain ⟨b, off, rfl, hlt, hc⟩ := h.2 hn
    exact ⟨b, off, rfl, hlt, fun j u hu => hb.cell (hc j u hu) (fun hs => by have := hS b hs; omega)⟩⟩
theorem CellsLt.keep (h : CellsLt s w A n sz xs) (hb : Below w.heap.size w w') : CellsLt s w' A n sz xs :=
  h.ch (S := fun _ => False) (Ch.of_below hb) (fun _ h => h.elim)
theorem CellsLt.more (h : CellsLt s w A n sz xs) (hs : s ≤ s') : CellsLt s' w A n sz xs :=
  ⟨h.1, fun hn => by
    obtain ⟨b, off, rfl, hlt, hc⟩ := h.2 hn
    exact ⟨b, off, rfl, by omega, hc⟩⟩
theorem CellsLt.lt (h : CellsAt w A n sz xs) (hsz : 0 < sz) : CellsLt w.heap.size w A n sz xs :=
  ⟨h.1, fun hn => by
    obtain ⟨b, off, rfl, hc⟩ := h.2 hn
    have hl := h.1
    have : n ≤ n * sz := Nat.le_mul_of_pos_right n hsz
    have h0 : xs[0]? = some (xs[0]'(by omega)) := List.getElem?_eq_getElem (by omega)
    exact ⟨b, off, rfl, cell_lt (hc 0 _ h0), hc⟩⟩
theorem CellsLt.cells (h : CellsLt s w A n sz xs) : CellsAt w A n sz xs :=
  ⟨h.1, fun hn => by
    obtain ⟨b, off, rfl, hlt, hc⟩ := h.2 hn
    exact ⟨b, off, rfl, hc⟩⟩
theorem CellsLt.of_own {base e c : Nat} (h : w.ownsRow base e sz (.slice A n c) n xs) (hsz : 0 < sz) : CellsLt w.heap.size w A n sz xs := CellsLt.lt (own_cells h) hsz
end

/-! ### cells behind stores -/
theorem sethere {w : World} {g j : Nat} {v u : Value} (h : w.cell? ⟨g, j, none⟩ = some v) : (w.setCell ⟨g, j, none⟩ u).cell? ⟨g, j, none⟩ = some u := by
  unfold World.cell? at h ⊢
  cases hh : w.heap[g]? with
  | none => rw [hh] at h; simp at h
  | some o =>
    cases o <;> rw [hh] at h <;> simp at h
    rename_i c t fr
    have : g < w.heap.size := (Array.getElem?_eq_some_iff.1 hh).1
    simp [World.setCell, Array.getElem?_modify, hh]
    obtain ⟨hj, _⟩ := Array.getElem?_eq_some_iff.1 h
    simp [hj]
theorem setoff {w : World} {g j b o : Nat} {v u : Value} (h : w.cell? ⟨b, o, none⟩ = some v) (hne : g ≠ b ∨ j ≠ o) : (w.setCell ⟨g, j, none⟩ u).cell? ⟨b, o, none⟩ = some v :=
  (World.cell?_setCell_other w ⟨g, j, none⟩ ⟨b, o, none⟩ u (fun e => by injection e with e1 e2; rcases hne with h | h <;> contradiction)).trans h
end Go.Proofs.Ytdphdnllhmnelaa
/- Rows of the call's own within an interval of blocks. -/
namespace Go.Proofs.Ytdphdnllhmnelaa
open Go.RowKit

/-- a block of an interval -/
def Iv (lo hi k : Nat) : Prop := lo ≤ k ∧ k < hi
def BlkOf (A : Option Addr) (b : Nat) : Prop := A.map Addr.block = some b
theorem BlkOf.eq {g b : Nat} (h : BlkOf (some ⟨g, 0, none⟩) b) : g = b := by simpa [BlkOf] using h
theorem BlkOf.no {b : Nat} (h : BlkOf none b) : False := by simp [BlkOf] at h
theorem blk_of {A : Option Addr} {n c k : Nat} (hk : (Value.slice A n c).ownBlock = some k) : BlkOf A k := by
  rcases A with _ | a
  · simp [Value.ownBlock] at hk
  · simpa [Value.ownBlock, BlkOf] using hk

/-- a row of the call's own of n elements of sz cells, the cells xs, in a block of [lo, hi) -/
structure RowIn (e sz lo hi : Nat) (w : World) (A : Option Addr) (n c : Nat) (xs : List Value) : Prop where
  own : w.ownsRow lo e sz (.slice A n c) n xs
  lt : ∀ g, BlkOf A g → g < hi
section
variable {e sz lo hi lo' hi' n c : Nat} {w w' : World} {A : Option Addr} {xs : List Value}
theorem RowIn.blk (h : RowIn e sz lo hi w A n c xs) {g : Nat} (hg : BlkOf A g) : Iv lo hi g ∧ g < w.heap.size := by
  have h2 := h.lt g hg
  rcases own_form h.own with ⟨rfl, _⟩ | ⟨g', rfl, h1, h3⟩
  · exact hg.no.elim
  · have := hg.eq; subst this; exact ⟨⟨h1, h2⟩, h3⟩
theorem RowIn.ch {S : Nat → Prop} (h : RowIn e sz lo hi w A n c xs) (hc : Ch S w w') (hS : ∀ k, Iv lo hi k → ¬ S k) : RowIn e sz lo hi w' A n c xs :=
  ⟨own_ch h.own hc (fun k hk => hS k (h.blk (blk_of hk)).1), h.lt⟩
theorem RowIn.keep (h : RowIn e sz lo hi w A n c xs) (hb : Below w.heap.size w w') : RowIn e sz lo hi w' A n c xs :=
  h.ch (S := fun _ => False) (Ch.of_below hb) (fun _ _ h => h)
theorem RowIn.wide (h : RowIn e sz lo hi w A n c xs) (h1 : lo' ≤ lo) (h2 : hi ≤ hi') : RowIn e sz lo' hi' w A n c xs :=
  ⟨own_up h.own h1, fun g hg => Nat.lt_of_lt_of_le (h.lt g hg) h2⟩
theorem RowIn.of_own (h : w.ownsRow lo e sz (.slice A n c) n xs) : RowIn e sz lo w.heap.size w A n c xs := by
  refine ⟨h, fun g hg => ?_⟩
  rcases own_form h with ⟨rfl, _⟩ | ⟨g', rfl, _, h3⟩
  · exact hg.no.elim
  · have := hg.eq; subst this; exact h3
theorem RowIn.nil : RowIn e sz lo hi w none 0 0 [] := ⟨⟨by simp, .inl ⟨rfl, rfl⟩⟩, fun _ h => h.no.elim⟩
theorem RowIn.cells (h : RowIn e sz lo hi w A n c xs) (hsz : 0 < sz) : CellsLt w.heap.size w A n sz xs := CellsLt.of_own h.own hsz
theorem RowIn.head (h : RowIn e sz lo hi w A n c xs) (hn : 0 < n) : ∃ g, A = some ⟨g, 0, none⟩ := by
  rcases own_form h.own with ⟨_, h0, _⟩ | ⟨g, hA, _⟩
  · omega
  · exact ⟨g, hA⟩
theorem RowIn.len (h : RowIn e sz lo hi w A n c xs) : xs.length = n * sz := h.own.1
/-- a cell of a row is stored -/
theorem RowIn.store {g : Nat} (h : RowIn e sz lo hi w (some ⟨g, 0, none⟩) n c xs) (j : Nat) (v : Value) :
    RowIn e sz lo hi (w.setCell ⟨g, j, none⟩ v) (some ⟨g, 0, none⟩) n c (xs.set j v) ∧ Ch (Iv lo hi) w (w.setCell ⟨g, j, none⟩ v) :=
  ⟨⟨(h.own.stored j v).1, h.lt⟩, (Ch.refl w).setCell (h.blk (by simp [BlkOf])).1 v⟩
end
theorem StrsAt.of_row {e lo hi n c : Nat} {w : World} {A : Option Addr} {l : List ByteArray} (h : RowIn e 1 lo hi w A n c (l.map Value.string)) : StrsAt w A n l := StrsAt.of_own h.own
theorem StrsAt.ch {S : Nat → Prop} {w w' : World} {A : Option Addr} {n : Nat} {l : List ByteArray} {m : Nat} (h : StrsAt w A n l) (hb : Ch S w w') (hm : ∀ b off, A = some ⟨b, off, none⟩ → b < m) (hS : ∀ k, S k → m ≤ k) : StrsAt w' A n l := by
  refine ⟨h.1, fun hn => ?_⟩
  obtain ⟨b, off, rfl, hlt, hc⟩ := h.2 hn
  exact ⟨b, off, rfl, Nat.lt_of_lt_of_le hlt hb.size, fun i hi => hb.cell (hc i hi) (fun hs => by have := hS b hs; have := hm b off rfl; omega)⟩
theorem own_le {w : World} {base e sz n c : Nat} {A : Option Addr} {xs : List Value} (h : w.ownsRow base e sz (.slice A n c) n xs) : n ≤ c ∧ c ≤ 9223372036854775807 := by
  rcases h.2 with ⟨hv, h0⟩ | ⟨g, cap, cur, hv, hb, hg, h1, h2, _⟩
  · injection hv with _ _ hc; omega
  · injection hv with _ _ hc; unfold maxLen at h2; omega
end Go.Proofs.Ytdphdnllhmnelaa
/- Rows whose elements lead to further rows, all of the call's own. -/
namespace Go.Proofs.Ytdphdnllhmnelaa
open Go.RowKit

/-- the blocks that cells lead to -/
def Leads (cs : List Value) (b : Nat) : Prop := ∃ v ∈ cs, v.ownBlock = some b
def Apart (cs cs' : List Value) : Prop := ∀ b, Leads cs b → ¬ Leads cs' b
theorem Apart.symm {cs cs' : List Value} (h : Apart cs cs') : Apart cs' cs := fun b h1 h2 => h b h2 h1
theorem blk_own {A : Option Addr} {n c b : Nat} (h : BlkOf A b) : (Value.slice A n c).ownBlock = some b := by
  rcases A with _ | a
  · exact h.no.elim
  · simpa [Value.ownBlock, BlkOf] using h

/-- how an element lies in cells of its own and in what they lead to -/
structure Elem {α : Type} (F : Nat → Nat → World → List Value → α → Prop) (sz : Nat) : Prop where
  len : ∀ {lo hi w cs x}, F lo hi w cs x → cs.length = sz
  leads : ∀ {lo hi w cs x b}, F lo hi w cs x → Leads cs b → Iv lo hi b ∧ b < w.heap.size
  ch : ∀ {lo hi w w' cs x} {S : Nat → Prop}, F lo hi w cs x → Ch S w w' → (∀ b, Leads cs b → ¬ S b) → F lo hi w' cs x
  wide : ∀ {lo hi lo' hi' w cs x}, F lo hi w cs x → lo' ≤ lo → hi ≤ hi' → F lo' hi' w cs x

structure SubsIn {α : Type} (F : Nat → Nat → World → List Value → α → Prop) (lo hi : Nat) (w : World) (css : List (List Value)) (l : List α) : Prop where
  len : css.length = l.length
  el : ∀ (i : Nat) (cs : List Value) (x : α), css[i]? = some cs → l[i]? = some x → F lo hi w cs x
  apart : css.Pairwise Apart
section
variable {α : Type} {F : Nat → Nat → World → List Value → α → Prop} {sz lo hi lo' hi' : Nat} {w w' : World} {css : List (List Value)} {l : List α}
theorem SubsIn.nil : SubsIn F lo hi w [] ([] : List α) := ⟨rfl, fun i cs x h => by simp at h, List.Pairwise.nil⟩
theorem SubsIn.ex (h : SubsIn F lo hi w css l) {i : Nat} {cs : List Value} (hc : css[i]? = some cs) : ∃ x, l[i]? = some x ∧ F lo hi w cs x := by
  have hi : i < css.length := (List.getElem?_eq_some_iff.1 hc).1
  have hl : i < l.length := by rw [← h.len]; exact hi
  exact ⟨l[i], List.getElem?_eq_getElem hl, h.el i cs _ hc (List.getElem?_eq_getElem hl)⟩
theorem SubsIn.mem (h : SubsIn F lo hi w css l) {cs : List Value} (hc : cs ∈ css) : ∃ x, F lo hi w cs x := by
  obtain ⟨i, hi⟩ := List.mem_iff_getElem?.1 hc
  obtain ⟨x, _, hx⟩ := h.ex hi
  exact ⟨x, hx⟩
theorem SubsIn.leads (E : Elem F sz) (h : SubsIn F lo hi w css l) {cs : List Value} (hc : cs ∈ css) {b : Nat} (hb : Leads cs b) : Iv lo hi b ∧ b < w.heap.size := by
  obtain ⟨x, hx⟩ := h.mem hc
  exact E.leads hx hb
theorem SubsIn.lens (E : Elem F sz) (h : SubsIn F lo hi w css l) : ∀ cs ∈ css, cs.length = sz := fun cs hc => by
  obtain ⟨x, hx⟩ := h.mem hc
  exact E.len hx
theorem SubsIn.ch (E : Elem F sz) {S : Nat → Prop} (h : SubsIn F lo hi w css l) (hc : Ch S w w') (hS : ∀ cs ∈ css, ∀ b, Leads cs b → ¬ S b) : SubsIn F lo hi w' css l :=
  ⟨h.len, fun i cs x h1 h2 => E.ch (h.el i cs x h1 h2) hc (hS cs (List.mem_of_getElem? h1)), h.apart⟩
theorem SubsIn.chi (E : Elem F sz) {S : Nat → Prop} (h : SubsIn F lo hi w css l) (hc : Ch S w w') (hS : ∀ k, Iv lo hi k → ¬ S k) : SubsIn F lo hi w' css l :=
  h.ch E hc (fun _ hm b hb => hS b (h.leads E hm hb).1)
theorem SubsIn.keep (E : Elem F sz) (h : SubsIn F lo hi w css l) (hb : Below w.heap.size w w') : SubsIn F lo hi w' css l :=
  h.chi E (S := fun _ => False) (Ch.of_below hb) (fun _ _ h => h)
theorem SubsIn.wide (E : Elem F sz) (h : SubsIn F lo hi w css l) (h1 : lo' ≤ lo) (h2 : hi ≤ hi') : SubsIn F lo' hi' w css l :=
  ⟨h.len, fun i cs x a b => E.wide (h.el i cs x a b) h1 h2, h.apart⟩
theorem SubsIn.snoc (E : Elem F sz) {cs : List Value} {x : α} (h : SubsIn F lo hi w css l) (hx : F lo hi w cs x) (hn : ∀ cs' ∈ css, Apart cs' cs) : SubsIn F lo hi w (css ++ [cs]) (l ++ [x]) := by
  refine ⟨by simp [h.len], fun i cs' x' h1 h2 => ?_, ?_⟩
  · have hl := h.len
    rcases Nat.lt_or_ge i css.length with hi | hi
    · rw [List.getElem?_append_left hi] at h1
      rw [List.getElem?_append_left (by omega)] at h2
      exact h.el i cs' x' h1 h2
    · rw [List.getElem?_append_right hi] at h1
      rw [List.getElem?_append_right (by omega)] at h2
      have h0 : i - css.length = 0 := by
        rcases Nat.eq_zero_or_pos (i - css.length) with h | h
        · exact h
        · rw [List.getElem?_eq_none (by simp; omega)] at h1; cases h1
      rw [h0] at h1
      rw [show i - l.length = 0 by omega] at h2
      simp at h1 h2
      subst h1 h2
      exact hx
  · rw [List.pairwise_append]
    exact ⟨h.apart, List.pairwise_singleton _ _, fun a ha b hb => by simp at hb; subst hb; exact hn a ha⟩
/-- one element is changed -/
theorem SubsIn.set (E : Elem F sz) {S : Nat → Prop} {i : Nat} {cs cs' : List Value} {x : α} (h : SubsIn F lo hi w css l) (hci0 : css[i]? = some cs) (hc : Ch S w w') (hS : ∀ b, S b → Leads cs b ∨ ∀ cs'' ∈ css, ¬ Leads cs'' b)
    (hx : F lo hi w' cs' x) (hl : ∀ b, Leads cs' b → Leads cs b) : SubsIn F lo hi w' (css.set i cs') (l.set i x) := by
  have hlt : i < css.length := (List.getElem?_eq_some_iff.1 hci0).1
  have hci : css[i] = cs := (List.getElem?_eq_some_iff.1 hci0).2
  refine ⟨by simp [h.len], fun j d y h1 h2 => ?_, ?_⟩
  · rw [List.getElem?_set] at h1 h2
    by_cases e : i = j
    · subst e
      rw [if_pos rfl, if_pos hlt] at h1
      rw [if_pos rfl, if_pos (by rw [← h.len]; exact hlt)] at h2
      injection h1 with h1; injection h2 with h2
      subst h1 h2
      exact hx
    · rw [if_neg e] at h1 h2
      refine E.ch (h.el j d y h1 h2) hc (fun b hb hs => ?_)
      rcases hS b hs with h' | h'
      · have hj : j < css.length := (List.getElem?_eq_some_iff.1 h1).1
        have hd : css[j] = d := (List.getElem?_eq_some_iff.1 h1).2
        have hp := List.pairwise_iff_getElem.1 h.apart
        rcases Nat.lt_or_gt_of_ne e with h3 | h3
        · have := hp i j hlt hj h3; rw [hci, hd] at this; exact this b h' hb
        · have := hp j i hj hlt h3; rw [hci, hd] at this; exact this b hb h'
      · exact h' d (List.mem_of_getElem? h1) hb
  · refine List.pairwise_iff_getElem.2 fun a b ha hb hab => ?_
    have hp := List.pairwise_iff_getElem.1 h.apart
    simp at ha hb
    have hab' := hp a b ha hb hab
    rw [List.getElem_set, List.getElem_set]
    by_cases e1 : i = a
    · subst e1
      rw [if_pos rfl, if_neg (by omega)]
      intro z h1 h2
      rw [hci] at hab'
      exact hab' z (hl z h1) h2
    · rw [if_neg e1]
      by_cases e2 : i = b
      · subst e2
        rw [if_pos rfl]
        intro z h1 h2
        rw [hci] at hab'
        exact hab' z h1 (hl z h2)
      · rw [if_neg e2]; exact hab'
end

/-! ### the flat list of cells -/
theorem flat_len {css : List (List Value)} {sz : Nat} (h : ∀ cs ∈ css, cs.length = sz) : css.flatten.length = css.length * sz := by
  induction css with
  | nil => simp
  | cons a l ih =>
    rw [List.flatten_cons, List.length_append, ih (fun cs hc => h cs (List.mem_cons_of_mem _ hc)), h a (List.mem_cons_self ..), List.length_cons, Nat.add_mul, Nat.one_mul, Nat.add_comm]
theorem flat_get {css : List (List Value)} {sz : Nat} (h : ∀ cs ∈ css, cs.length = sz) : ∀ {i : Nat} {cs : List Value}, css[i]? = some cs → ∀ {j : Nat}, j < sz → css.flatten[i * sz + j]? = cs[j]? := by
  induction css with
  | nil => intro i cs hc; simp at hc
  | cons a l ih =>
    intro i cs hc j hj
    have ha := h a (List.mem_cons_self ..)
    rw [List.flatten_cons]
    rcases i with _ | i
    · simp at hc
      subst hc
      rw [Nat.zero_mul, Nat.zero_add, List.getElem?_append_left (by omega)]
    · have hc' : l[i]? = some cs := by simpa using hc
      rw [List.getElem?_append_right (by rw [ha, Nat.add_mul]; omega), show (i + 1) * sz + j - a.length = i * sz + j by rw [ha, Nat.add_mul]; omega]
      exact ih (fun cs hc => h cs (List.mem_cons_of_mem _ hc)) hc' hj
theorem flat_snoc (css : List (List Value)) (cs : List Value) : (css ++ [cs]).flatten = css.flatten ++ cs := by simp

/-- a row of elements of sz cells each, in blocks of [lo, hi), and what they lead to there too -/
structure RowsIn {α : Type} (F : Nat → Nat → World → List Value → α → Prop) (e sz lo hi : Nat) (w : World) (A : Option Addr) (n c : Nat) (l : List α) (css : List (List Value)) : Prop where
  row : RowIn e sz lo hi w A n c css.flatten
  subs : SubsIn F lo hi w css l
  off : ∀ cs ∈ css, ∀ b, Leads cs b → ¬ BlkOf A b
  nl : n = l.length
section
variable {α : Type} {F : Nat → Nat → World → List Value → α → Prop} {e sz lo hi lo' hi' n c : Nat} {w w' : World} {A : Option Addr} {css : List (List Value)} {l : List α}
theorem RowsIn.ch (E : Elem F sz) {S : Nat → Prop} (h : RowsIn F e sz lo hi w A n c l css) (hc : Ch S w w') (hS : ∀ k, Iv lo hi k → ¬ S k) : RowsIn F e sz lo hi w' A n c l css :=
  ⟨h.row.ch hc hS, h.subs.chi E hc hS, h.off, h.nl⟩
theorem RowsIn.keep (E : Elem F sz) (h : RowsIn F e sz lo hi w A n c l css) (hb : Below w.heap.size w w') : RowsIn F e sz lo hi w' A n c l css :=
  h.ch E (S := fun _ => False) (Ch.of_below hb) (fun _ _ h => h)
theorem RowsIn.wide (E : Elem F sz) (h : RowsIn F e sz lo hi w A n c l css) (h1 : lo' ≤ lo) (h2 : hi ≤ hi') : RowsIn F e sz lo' hi' w A n c l css :=
  ⟨h.row.wide h1 h2, h.subs.wide E h1 h2, h.off, h.nl⟩
theorem RowsIn.nil : RowsIn F e sz lo hi w none 0 0 ([] : List α) [] := ⟨RowIn.nil, SubsIn.nil, fun _ h => by simp at h, rfl⟩
/-- element i: its cells in memory -/
theorem RowsIn.elem (E : Elem F sz) (h : RowsIn F e sz lo hi w A n c l css) {i : Nat} (hi' : i < n) : ∃ g cs x, A = some ⟨g, 0, none⟩ ∧ css[i]? = some cs ∧ l[i]? = some x ∧ F lo hi w cs x ∧ ∀ j u, cs[j]? = some u → w.cell? ⟨g, i * sz + j, none⟩ = some u := by
  obtain ⟨g, rfl⟩ := h.row.head (by omega)
  have hl := h.subs.len
  have hn := h.nl
  have hci : css[i]? = some css[i] := List.getElem?_eq_getElem (by omega)
  have hxi : l[i]? = some l[i] := List.getElem?_eq_getElem (by omega)
  have hF := h.subs.el i _ _ hci hxi
  refine ⟨g, _, _, rfl, hci, hxi, hF, fun j u hu => ?_⟩
  have hj : j < sz := by rw [← E.len hF]; exact (List.getElem?_eq_some_iff.1 hu).1
  have hc := h.row.own.cells (g := g) rfl (i * sz + j) u (by rw [flat_get (h.subs.lens E) hci hj]; exact hu)
  rw [Addr.add_lit] at hc
  simpa using hc
end
end Go.Proofs.Ytdphdnllhmnelaa
/- What grew by an append. -/
namespace Go.Proofs.Ytdphdnllhmnelaa
open Go.RowKit
theorem Ch.of_grow {w w' : World} {o : Option Nat} (h : w.grownBy w' o) : Ch (fun k => o = some k) w w' := ⟨h.os, h.tape, h.output, h.size, fun k hk hn => h.block k hk (fun e => hn e.symm)⟩
end Go.Proofs.Ytdphdnllhmnelaa
/- Rows of bytes of the call's own, and the text made of one. -/
namespace Go.Proofs.Ytdphdnllhmnelaa
open Go.RowKit
theorem var_byte (n : Nat) (h : n < 256) : ((UInt8.ofNat n).toNat : Int) = n := by simp; omega
def byteV (b : UInt8) : Value := .int .u8 (b.toNat : Int)
theorem byteV_of {n : Nat} (h : n < 256) : byteV (UInt8.ofNat n) = .int .u8 (n : Int) := by unfold byteV; rw [var_byte n h]
theorem infoByteV : (Try.prog.info? 5).map (fun i => (i.zero, i.size, i.bytes)) = some (some (.int .u8 0), 1, 1) := by kernel_rfl
theorem conv_own {w : World} {base n c : Nat} {A : Option Addr} {xs : List UInt8} (h : w.ownsRow base 5 1 (.slice A n c) n (xs.map byteV)) (hn : 0 < n) :
    ∃ g, A = some ⟨g, 0, none⟩ ∧ (convert 74 9 (.slice (some ⟨g, 0, none⟩) n c)).run Try.prog w = .ok (.string ⟨xs.toArray⟩) w := by
  rcases own_form h with ⟨_, h0, _⟩ | ⟨g, rfl, _⟩
  · omega
  · have hl : xs.length = n := by have := h.1; simpa using this
    subst hl
    have hcv := run_convert_bytes_back (P := Try.prog) w 74 9 5 ⟨g, 0, none⟩ c xs Try.underlying74 Try.underlying5 Try.underlying9 (by
      intro t ht
      rw [Addr.add_lit, Nat.zero_add, h.cellAt t (by simpa using ht)]
      simp only [List.getElem?_map, List.getElem?_eq_getElem ht]
      rfl)
    exact ⟨g, rfl, hcv⟩
end Go.Proofs.Ytdphdnllhmnelaa
/- Contracts of Var, sized, l4Piece. -/
namespace Go.Proofs.Ytdphdnllhmnelaa
open Go.RowKit

/-- the bytes of Var -/
def varL (n : Nat) : List UInt8 := if n < 128 then [UInt8.ofNat n] else UInt8.ofNat (128 + n % 128) :: varL (n / 128)
termination_by n
decreasing_by omega
def varS (n : Nat) : ByteArray := ⟨(varL n).toArray⟩
theorem varL_small {n : Nat} (h : n < 128) : varL n = [UInt8.ofNat n] := by rw [varL, if_pos h]
theorem varL_big {n : Nat} (h : ¬ n < 128) : varL n = UInt8.ofNat (128 + n % 128) :: varL (n / 128) := by rw [varL, if_neg h]
theorem var_le {j m n : Nat} (h : m * 128 ^ j ≤ n) {b : Nat} (hn : n ≤ b) : m ≤ b := by
  have : m * 1 ≤ m * 128 ^ j := Nat.mul_le_mul_left m (Nat.pow_pos (by decide))
  omega
theorem var_step {j m n : Nat} (h6 : j ≤ 6) (h : m * 128 ^ j ≤ n) (hn : n ≤ 562949953421311) (hm : ¬ m < 128) : j + 1 ≤ 6 ∧ m / 128 * 128 ^ (j + 1) ≤ n := by
  rcases (show j = 0 ∨ j = 1 ∨ j = 2 ∨ j = 3 ∨ j = 4 ∨ j = 5 ∨ j = 6 by omega) with rfl | rfl | rfl | rfl | rfl | rfl | rfl <;> simp only [Nat.reducePow, Nat.reduceAdd, Nat.mul_one] at h ⊢ <;> omega
set_option maxRecDepth 4000 in
theorem var_spec (n : Nat) (w : World) (hn : n ≤ 562949953421311) :
    Calls Try.prog 70 #[.int .i64 n] w fun e w' => e = .returned (.string (varS n)) ∧ Below w.heap.size w w' := by
  have hin : inB (n : Int) 0 562949953421311 = true := by simp [inB]; omega
  have HI := Lib.hid hin; clear hin
  go_enter Try.func70, Try.ntmps70
  go_wp2_with fail
  refine (l1In_any _ _ _ _).mono ?_
  rintro e w1 ⟨rfl, rfl⟩
  rw [HI.out]
  go_wp2
  go_loopw [0, 3] (fun x o wr => ∃ (m : Nat) (A : Option Addr) (cap : Nat) (xs : List UInt8), x = .int .i64 m ∧ o = .slice A xs.length cap ∧ wr.ownsRow w.heap.size 5 1 (.slice A xs.length cap) xs.length (xs.map byteV) ∧ varL n = xs ++ varL m ∧ xs.length ≤ 6 ∧ m * 128 ^ xs.length ≤ n ∧ Below w.heap.size w wr) (fun x _ _ => (intOf x).toNat)
  case atStart => exact ⟨n, _, 0, [], rfl, rfl, by simpa using own_empty w 5 1 (base := w.heap.size) (Nat.le_refl _), rfl, by simp, by simp, (Below.refl _ _).alloc (Nat.le_refl _) _⟩
  case round =>
    obtain ⟨m, A, cap, xs, rfl, rfl, hown, hv, hle, hmul, hb⟩ := hrel
    have HM := Lib.hid hmul; clear hmul
    have hmn : m ≤ 562949953421311 := var_le HM.out hn
    have HV := Lib.hid hv; clear hv
    have hzr := hb.size
    by_cases hm : m < 128
    · have H8 : byteV (UInt8.ofNat m) = .int .u8 (m : Int) := byteV_of (by omega)
      have HB := Lib.hid H8; clear H8
      have HS := Lib.hid (varL_small hm)
      go_wp2_with (first | (at_builtin; refine wpList_app1g (P := Try.prog) _ rfl (.tmp 19) (.tmp 22) 74 rfl w.heap.size 5 _ 1 1 Try.underlying74 infoByteV rfl (by omega) (.slice A _ cap) _ _ rfl hown #[.int .u8 (m : Int)] _ rfl (by simp) rfl (by simp [Value.oneCell']) (by unfold maxLen; omega) (by omega) hzr ?_; intro A' c' w4 hown4 hg4 hb4 _; rw [show xs.map byteV ++ #[Value.int .u8 (m : Int)].toList = (xs ++ [UInt8.ofNat m]).map byteV by rw [List.map_append]; simp [HB.out]] at hown4; obtain ⟨g4, hA4, hcv⟩ := conv_own hown4 (by omega); subst hA4))
      go_wp2
      go_returns
      exact ⟨by unfold varS; rw [HV.out, HS.out]; rfl, hb.trans hb4⟩
    · have H8 : byteV (UInt8.ofNat (128 + m % 128)) = .int .u8 (128 + (m : Int) % 128) := (byteV_of (by omega)).trans (by congr 1)
      have HB := Lib.hid H8; clear H8
      have HS := Lib.hid (varL_big hm)
      go_wp2_with (at_builtin; refine wpList_app1g (P := Try.prog) _ rfl (.tmp 10) (.tmp 15) 74 rfl w.heap.size 5 _ 1 1 Try.underlying74 infoByteV rfl (by omega) (.slice A _ cap) _ _ rfl hown #[.int .u8 (128 + (m : Int) % 128)] _ rfl (by simp) rfl (by simp [Value.oneCell']) (by unfold maxLen; omega) (by omega) hzr ?_; intro A' c' w4 hown4 hg4 hb4 _)
      refine ⟨⟨m / 128, A', c', xs ++ [UInt8.ofNat (128 + m % 128)], by simp, by simp, ?_, by rw [HV.out, HS.out]; simp, by rw [List.length_append]; exact (var_step hle HM.out hn hm).1, by rw [List.length_append]; exact (var_step hle HM.out hn hm).2, hb.trans hb4⟩, by simp [intOf]; omega⟩
      rw [List.map_append, List.map_cons, List.map_nil, HB.out, List.length_append]
      exact hown4
end Go.Proofs.Ytdphdnllhmnelaa
/- Numbers as bytes (varints): read back from a text that begins with them, and nothing else is one. -/
namespace Go.Proofs.Ytdphdnllhmnelaa

def bVal (s : ByteArray) : Nat → Nat
  | 0 => 0
  | k + 1 => bVal s k + bAt s k % 128 * 128 ^ k
/-- the value of a list of bytes, the least first -/
def lVal : List UInt8 → Nat
  | [] => 0
  | b :: l => b.toNat % 128 + 128 * lVal l
/-! ### a text that begins with a varint -/
/-- the first k bytes of s are those of l -/
def Begins (s : ByteArray) (l : List UInt8) : Prop := l.length ≤ s.size ∧ ∀ i (h : i < l.length), bAt s i = l[i].toNat
open Classical in
/-- the varint that a text begins with, and its size; (0, 0) where there is none -/
noncomputable def rvF (s : ByteArray) : Nat × Nat := if h : ∃ n, n ≤ 562949953421311 ∧ Begins s (varL n) then (Classical.choose h, (varL (Classical.choose h)).length) else (0, 0)
end Go.Proofs.Ytdphdnllhmnelaa
