/- Contracts of copyTexts and copyEntries. -/
import Derived.Test.YtbijkdpifnncmaaEnts
namespace Go.Proofs.Ytbijkdpifnncmaa
open Go.RowKit

/-- an append as an operation of a region that draws its order -/
theorem step_app {P : Program} {ops : Array Oper} {o : Oper} {a : Act} {w : World} {K : Act → World → Prop} {Q : Exit → Act → World → Prop} {E : Prop} (hgd : o.guard = none) (s x : Operand) (t : TypeId)
    (ho : o.op = .call { callee := .builtin .append, args := #[s, x], argTypes := #[t, t] })
    (base : Nat) (e : TypeId) (z : Value) (size bytes : Nat) (ht : P.underlying t = some (.slice e)) (hinfo : (P.info? e).map (fun i => (i.zero, i.size, i.bytes)) = some (some z, size, bytes))
    (hzs : z.cells.size = size) (hsz : 0 < size) (v : Value) (n : Nat) (xs : List Value) (hs : a.eval s = v) (hown : w.ownsRow base e size v n xs)
    (A : Option Addr) (m c : Nat) (news : List Value) (hx : a.eval x = .slice A m c) (hsrc : CellsAt w A m size news) (h1 : ∀ u ∈ news, u.oneCell' = true) (hn : A = none → c = 0)
    (h63 : n + m ≤ maxLen) (hbytes : (n + m) * bytes ≤ 140737488355328) (hbase : base ≤ w.heap.size)
    (h : ∀ A' c' w', w'.ownsRow base e size (.slice A' (n + m) c') (n + m) (xs ++ news) → w.grownBy w' v.ownBlock → Below base w w' →
      ((Value.slice A' (n + m) c').ownBlock = v.ownBlock ∨ (Value.slice A' (n + m) c').ownBlock = some w.heap.size) → K (a.put o.dst (.slice A' (n + m) c')) w') :
    if Region.wanted o (yielded ops a.tmps) = true then Oper.wp P o a w K Q else E := by
  have hw : Region.wanted o (yielded ops a.tmps) = true := by simp [Region.wanted, hgd]
  rw [if_pos hw]
  obtain ⟨A', c', w', hr, h2, h3, h4⟩ := run_app (P := P) w base t o.type e z size bytes ht hinfo hzs hsz v n xs hown A m c news hsrc h1 hn h63 hbytes hbase
  unfold Oper.wp execOp
  simp only [ho, resolve, invoke, builtin, Sem.run_bind, Sem.run_pure, Result.andThen_ok, List.map_toArray, List.map_cons, List.map_nil, hs, hx, hr]
  exact h A' c' w' h2 h3 (below_own hown h3 hbase) h4

theorem strs_one (l : List ByteArray) : ∀ u ∈ l.map Value.string, u.oneCell' = true := by
  intro u hu; obtain ⟨x, _, rfl⟩ := List.mem_map.1 hu; rfl
theorem own_null (w : World) (base e sz : Nat) : w.ownsRow base e sz (.slice none 0 0) 0 [] := World.ownsRow_nil w base e sz

theorem copyTexts_impl (A : Option Addr) (n c : Nat) (l : List ByteArray) (w : World) (h : StrsAt w A n l) (hc : A = none → c = 0) (hn : n ≤ 16777216) :
    Calls Try.prog 47 #[.slice A n c] w fun e w' => ∃ A' c', e = .returned (.slice A' n c') ∧ StrsIn w.heap.size w'.heap.size w' A' n c' l ∧ Below w.heap.size w w' := by
  have hcl := h.cells
  have hown := own_null w w.heap.size 9 1
  have hz := Nat.le_refl w.heap.size
  go_enter Try.func47, Try.ntmps47
  go_wp2_with (at_builtin; refine wpList_app (P := Try.prog) w rfl (.const (.slice none 0 0)) (.tmp 3) 31 rfl w.heap.size 9 _ 1 16 Try.underlying31 infoString rfl (by omega) (.slice none 0 0) 0 [] rfl hown A n c (l.map Value.string) rfl hcl (strs_one _) hc (by unfold maxLen; omega) (by omega) hz ?_; intro A' c' w1 hown1 hg1 hb1 _)
  go_returns
  simp only [Nat.zero_add, List.nil_append] at hown1 ⊢
  exact ⟨A', c', rfl, ⟨RowIn.of_own hown1⟩, hb1⟩

theorem Ch.of_grow {w w' : World} {o : Option Nat} (h : w.grownBy w' o) : Ch (fun k => o = some k) w w' := ⟨h.os, h.tape, h.output, h.size, fun k hk hn => h.block k hk (fun e => hn e.symm)⟩
theorem blk_own' {A : Option Addr} {n c b : Nat} (h : BlkOf A b) : (Value.slice A n c).ownBlock = some b := blk_own h
/-- one element more behind an append -/
theorem RowsIn.app {α : Type} {F : Nat → Nat → World → List Value → α → Prop} {e sz lo n c m c' : Nat} {w w' : World} {A A' : Option Addr} {css : List (List Value)} {l : List α} {cs : List Value} {x : α}
    (E : Elem F sz) (h : RowsIn F e sz lo w.heap.size w A n c l css) (hx : F lo w.heap.size w cs x) (hap : ∀ cs' ∈ css, Apart cs' cs) (hoff : ∀ b, Leads cs b → ¬ BlkOf A b)
    (hown : w'.ownsRow lo e sz (.slice A' (n + 1) c') (n + 1) (css.flatten ++ cs)) (hg : w.grownBy w' (Value.slice A n c).ownBlock)
    (hob : (Value.slice A' (n + 1) c').ownBlock = (Value.slice A n c).ownBlock ∨ (Value.slice A' (n + 1) c').ownBlock = some m) (hm : w.heap.size ≤ m) :
    RowsIn F e sz lo w'.heap.size w' A' (n + 1) c' (l ++ [x]) (css ++ [cs]) := by
  have hC := Ch.of_grow hg
  have hs := h.subs.snoc E hx hap
  have hall : ∀ cs' ∈ css ++ [cs], ∀ b, Leads cs' b → ¬ BlkOf A b ∧ b < w.heap.size := fun cs' h' b hb => by
    rcases List.mem_append.1 h' with h' | h'
    · exact ⟨h.off cs' h' b hb, (h.subs.leads E h' hb).2⟩
    · have : cs' = cs := by simpa using h'
      subst this
      exact ⟨hoff b hb, (E.leads hx hb).2⟩
  refine ⟨RowIn.of_own (by rw [flat_snoc]; exact hown), (hs.ch E hC (fun cs' h' b hb e => (hall cs' h' b hb).1 (blk_of e))).wide E (Nat.le_refl _) hg.size, fun cs' h' b hb hA => ?_, by simp [h.nl]⟩
  have h1 := hall cs' h' b hb
  rcases hob with e1 | e1
  · exact h1.1 (blk_of (e1.symm.trans (blk_own' hA)))
  · have := Option.some.inj ((blk_own' (n := n + 1) (c := c') hA).symm.trans e1)
    omega

theorem new2 (w : World) (e : TypeId) (a b : Value) : CellsAt (w.alloc (.cells #[a, b] e)) (some ⟨w.heap.size, 0, none⟩) 1 2 [a, b] := by
  refine ⟨rfl, fun _ => ⟨w.heap.size, 0, rfl, fun j u hu => ?_⟩⟩
  rw [Nat.zero_add, World.cell?_alloc_new]
  simpa using hu
theorem grown_cells {w W w' : World} {g : Nat} {u v : Value} {o : Option Nat} (hS : W.cell? ⟨g, 0, none⟩ = some u ∧ W.cell? ⟨g, 1, none⟩ = some v ∧ Below w.heap.size w W) (hg : W.grownBy w' o) (ho : ∀ b, o = some b → b < g) (hb : Below w.heap.size W w') :
    w'.cell? ⟨g, 0, none⟩ = some u ∧ w'.cell? ⟨g, 1, none⟩ = some v ∧ Below w.heap.size w w' :=
  have hC := Ch.of_grow hg
  ⟨hC.cell hS.1 (fun e => by have := ho g e; omega), hC.cell hS.2.1 (fun e => by have := ho g e; omega), hS.2.2.trans hb⟩

attribute [local irreducible] StrsAt
set_option maxRecDepth 4000 in
set_option maxHeartbeats 1000000 in
theorem copyEntries_impl (A : Option Addr) (n c : Nat) (l : List Ent) (w : World) (h : EntsAt w A n l) (hs : entsSz l ≤ 1048576) :
    Calls Try.prog 44 #[.slice A n c] w (EntsR l w) := by
  have HL := Lib.hid h.1.symm
  have hn := ents_n h hs
  have hel := ents_el hs
  go_enter Try.func44, Try.ntmps44
  go_wp2
  go_loopw [3, 8] (fun o i wr => ∃ (k : Nat) (O : Option Addr) (cap : Nat) (css : List (List Value)), k ≤ n ∧ i = .int .i64 k ∧ o = .slice O k cap ∧ RowsIn FEnt 33 2 w.heap.size wr.heap.size wr O k cap (l.take k) css ∧ Below w.heap.size w wr) (fun _ i _ => n - (intOf i).toNat)
  case atStart => exact ⟨0, none, 0, [], Nat.zero_le _, rfl, rfl, RowsIn.nil, Below.refl _ _⟩
  case round =>
    obtain ⟨k, O, cap, css, hk, rfl, rfl, hrow, hb⟩ := hrel
    by_cases hlt : k < n
    · obtain ⟨b, off, rfl, hbl, hc⟩ := h.at_ (by omega)
      obtain ⟨hp0, A', n', c', hc0, hat, hcap⟩ := hc k hlt
      have hpk := (hb.cell (p := ⟨b, off + k * 2, none⟩) hbl).trans hp0
      have hck := (hb.cell (p := ⟨b, off + k * 2 + 1, none⟩) hbl).trans hc0
      clear hc hc0 hp0
      have hek := hel k
      unfold entSz at hek
      have HN := Lib.hid hat.nn
      have hn4 : n' ≤ 1048576 := by have := HN.out; unfold strsSz at hek; omega
      obtain ⟨W, hW⟩ : ∃ W, W = wr.alloc (.cells #[.string (enAt l k).p, .slice A' n' c'] 33) := ⟨_, rfl⟩
      have al : Below wr.heap.size wr W := by rw [hW]; exact (Below.refl _ _).alloc (Nat.le_refl _) _
      have e0 : W.cell? ⟨wr.heap.size, 0, none⟩ = some (.string (enAt l k).p) := by rw [hW]; simp [go_sem]
      have e1 : W.cell? ⟨wr.heap.size, 1, none⟩ = some (.slice A' n' c') := by rw [hW]; simp [go_sem]
      have hrowW := (hrow.keep elemEnt al).wide elemEnt (Nat.le_refl _) al.size
      have hatW := hat.keep (bthen hb al)
      have hbW := bthen hb al
      go_wp2
      rw [← hW]
      clear hW
      have hlo : ∀ b, BlkOf O b → b < wr.heap.size := fun b hb' => (hrow.row.blk hb').2
      have hWs : wr.heap.size < W.heap.size := Nat.lt_of_not_le (fun h2 => by have := World.block_lt_of_cell? W ⟨wr.heap.size, 0, none⟩ e0; simp at this; omega)
      go_region_held3 (fun w' => w'.cell? ⟨wr.heap.size, 0, none⟩ = some (.string (enAt l k).p) ∧ w'.cell? ⟨wr.heap.size, 1, none⟩ = some (.slice A' n' c') ∧ Below w.heap.size w w') (first | exact hnew | (have hh := ‹_ ∧ _›; exact ⟨keep_cell hbw hh.1, keep_cell hbw hh.2.1, bthen hh.2.2 hbw⟩) | (have hh := ‹_ ∧ _›; exact ⟨keep_alloc hh.1 _, keep_alloc hh.2.1 _, hh.2.2.alloc hh.2.2.size _⟩) | exact ⟨e0, e1, hbW.drew⟩ | (have hh := ‹_ ∧ _›; exact hh)) (first | (go_at_call 47; refine (copyTexts_impl _ _ _ (enAt l k).ch _ (hat.keep (by have hh := ‹_ ∧ _›; exact hh.2.2)) hcap (by omega)).mono ?_; rintro e w2 ⟨B, d, rfl, ho2, hbw⟩; have hrow2 := (hrowW.keep elemEnt (Below.refl _ _).drew).keep elemEnt hbw; have hz2 := hbw.size) | (have hS0 := ‹_ ∧ _›; refine step_app (by rfl) (.tmp 12) (.tmp 19) 24 (by rfl) w.heap.size 33 _ 2 40 Try.underlying24 infoEntry rfl (by omega) (.slice O k cap) k css.flatten (by rfl) (hrow2.keep elemEnt ((Below.refl _ _).alloc (Nat.le_refl _) _)).row.own (some ⟨w2.heap.size, 0, none⟩) 1 1 [.string (enAt l k).p, .slice B n' d] (by rfl) (new2 w2 _ _ _) (by simp [Value.oneCell']) (fun h => by cases h) (by unfold maxLen; omega) (by omega) hS0.2.2.size ?_; intro Q5 c5 w5 hown5 hg5 hb5 hob5; have hnew := grown_cells hS0 hg5 (fun b e => hlo b (blk_of e)) hb5; clear hS0) | fail)
      go_wp2
      have al3 := (Below.refl w2.heap.size w2).alloc (Nat.le_refl _) (.cells #[.string (enAt l k).p, .slice B n' d] 33)
      have hzW : w.heap.size ≤ W.drew.heap.size := hbW.size
      have hWW : W.drew.heap.size = W.heap.size := rfl
      have hz3 := al3.size
      have hkl : k < l.length := by have := HL.out; omega
      have hr3 := (hrow2.keep elemEnt al3).wide elemEnt (Nat.le_refl _) (show W.heap.size ≤ (w2.alloc (.cells #[.string (enAt l k).p, .slice B n' d] 33)).heap.size by omega)
      have happ := hr3.app elemEnt (cs := [.string (enAt l k).p, .slice B n' d]) (x := enAt l k) ⟨B, n', d, rfl, (ho2.keep al3).wide hzW hz3⟩ (fun cs' h' b h1 h2 => by
        have q1 := (hrow2.subs.leads elemEnt h' h1).1
        have q2 := (ho2.row.blk (blk_of (leads2 h2))).1
        unfold Iv at q1 q2; omega) (fun b h1 h2 => by
        have q1 := hlo b h2
        have q2 := (ho2.row.blk (blk_of (leads2 h1))).1
        have q3 := al.size
        unfold Iv at q2; omega) hown5 hg5 hob5 (Nat.le_refl _)
      rw [show l.take k ++ [enAt l k] = l.take (k + 1) by rw [take_snoc2 l k hkl, enAt_get hkl]] at happ
      exact ⟨⟨k + 1, Q5, c5, _, by omega, by go_num, rfl, happ, hnew.2.2⟩, by simp [intOf]; omega⟩
    · go_wp2
      go_returns
      have hkn : k = n := by omega
      subst hkn
      have ht : l.take k = l := List.take_of_length_le (by have := HL.out; omega)
      rw [ht] at hrow
      exact ⟨O, k, cap, rfl, ⟨css, hrow⟩, hb⟩
end Go.Proofs.Ytbijkdpifnncmaa
