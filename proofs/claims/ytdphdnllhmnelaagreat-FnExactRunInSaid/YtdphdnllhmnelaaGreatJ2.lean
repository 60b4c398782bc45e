/- Contracts and lemmas: KCatalog, CopyT, CopyK, KindA, RowApp, BoxL, RdApp, Grow, GrowL, Dag, DagB, CopyCat. -/
import Derived.Test.YtdphdnllhmnelaaGreatJ1
import Derived.Deep.RegionHeld3
import Derived.StillTailTactics
import Derived.BigQuiet
import Derived.Deep.QuietTactic
import Derived.Test.YtdphdnllhmnelaaGreatJ0
import Derived.Deep.MidRow
import Derived.Deep.Quiet
import Derived.OrdersHeld
/- Catalog: how it lies in memory, the laws' helpers on it. -/
namespace Go.Proofs.YtdphdnllhmnelaaGreat
open Go.RowKit
structure Ctl where
  sets : List Cst
def ctlNil : Ctl := ⟨[]⟩
def ctlAt (l : List Ctl) (i : Nat) : Ctl := l.getD i ctlNil
theorem ctlAt_get {l : List Ctl} {k : Nat} (h : k < l.length) : ctlAt l k = l[k] := by simp [ctlAt, h]
theorem ctlAt_of {l : List Ctl} {k : Nat} {x : Ctl} (h : l[k]? = some x) : ctlAt l k = x := by simp [ctlAt, h]
/-- its cells, its value -/
def ctlL (x : Ctl) (s1 : Value) : List Value := [s1]
def ctlV (x : Ctl) (s1 : Value) : Value := .agg #[s1]
def ctlR (w : World) (cs : List Value) (x : Ctl) : Prop := ∃ (A1 : Option Addr) (n1 c1 : Nat), cs = ctlL x (.slice A1 n1 c1) ∧ RowR cstR 2 w A1 n1 c1 x.sets
def ctlF (fp : List Nat) (w : World) (cs : List Value) (x : Ctl) : Prop := ∃ (A1 : Option Addr) (n1 c1 : Nat) (f1 : List Nat), cs = ctlL x (.slice A1 n1 c1) ∧ fp = f1 ∧ RowO cstF 165 2 f1 w A1 n1 c1 x.sets
theorem ctlK : KindOk ctlR ctlF 1 where
  rlen := fun h => by obtain ⟨A1, n1, c1, rfl, h1⟩ := h; rfl
  rkeep := fun h hb => by obtain ⟨A1, n1, c1, rfl, h1⟩ := h; exact ⟨A1, n1, c1, rfl, h1.keep cstK hb⟩
  flt := fun h b hb => by
    obtain ⟨A1, n1, c1, f1, rfl, rfl, h1⟩ := h
    exact h1.lt cstK b hb
  fch := fun h hc hS => by
    obtain ⟨A1, n1, c1, f1, rfl, rfl, h1⟩ := h
    exact ⟨A1, n1, c1, _, rfl, rfl, h1.ch cstK hc (fun b hb => hS b (by simp [hb]))⟩
  fr := fun h => by obtain ⟨A1, n1, c1, f1, rfl, rfl, h1⟩ := h; exact ⟨A1, n1, c1, rfl, h1.at_ cstK (by omega)⟩
  one := fun h v hv => by
    obtain ⟨A1, n1, c1, rfl, h1⟩ := h
    simp only [ctlL, List.mem_cons, List.not_mem_nil, or_false] at hv
    rcases hv with rfl <;> rfl
/-- its bounds -/
def ctlB (x : Ctl) : Prop := cstsB x.sets
def ctlsB (l : List Ctl) : Prop := l.length ≤ 9223372036854775807 ∧ ∀ y ∈ l, ctlB y
def ctlSz (x : Ctl) : Nat := cstsSz x.sets
def ctlsSz (l : List Ctl) : Nat := l.length + (l.map ctlSz).sum
theorem ctls_el {l : List Ctl} {i : Nat} {x : Ctl} (hx : l[i]? = some x) : ctlSz x ≤ ctlsSz l := by have := (sum_el ctlSz hx).1; unfold ctlsSz; omega
/-- its marks -/
def ctlCnt (x : Ctl) : Nat := cstsCnt x.sets
def ctlTop (x : Ctl) : Nat := cstsCnt x.sets
def ctlsCnt (l : List Ctl) : Nat := (l.map ctlCnt).sum
def ctlMk (k : Int) (x : Ctl) : Ctl := ⟨cstsMk k x.sets⟩
def ctlsMk (k : Int) : List Ctl → List Ctl
  | [] => []
  | x :: l => ctlMk k x :: ctlsMk (k + (ctlCnt x : Nat)) l
def ctlTopMk (k : Int) (x : Ctl) : Ctl := ⟨cstsMk k x.sets⟩
theorem ctlsMk_len (k : Int) : ∀ l : List Ctl, (ctlsMk k l).length = l.length
  | [] => rfl
  | x :: l => by simp [ctlsMk, ctlsMk_len]
theorem ctlsMk_snoc (k : Int) (x : Ctl) : ∀ l : List Ctl, ctlsMk k (l ++ [x]) = ctlsMk k l ++ [ctlMk (k + (ctlsCnt l : Nat)) x]
  | [] => by simp [ctlsMk, ctlsCnt]
  | y :: l => by
    have := ctlsMk_snoc (k + (ctlCnt y : Nat)) x l
    have e : k + (ctlCnt y : Nat) + ((ctlsCnt l : Nat) : Int) = k + ((ctlsCnt (y :: l) : Nat) : Int) := by simp only [ctlsCnt, List.map_cons, List.sum_cons]; push_cast; omega
    simp only [List.cons_append, ctlsMk, this, e]
theorem ctlsMk_at (k : Int) : ∀ (l : List Ctl) (i : Nat) (x : Ctl), l[i]? = some x → (ctlsMk k l)[i]? = some (ctlMk (k + (sumTo ctlCnt l i : Nat)) x)
  | [], i, x, h => by simp at h
  | y :: l, 0, x, h => by simp at h; subst h; simp [ctlsMk, sumTo]
  | y :: l, i + 1, x, h => by
    have := ctlsMk_at (k + (ctlCnt y : Nat)) l i x (by simpa using h)
    have e : k + (ctlCnt y : Nat) + ((sumTo ctlCnt l i : Nat) : Int) = k + ((sumTo ctlCnt (y :: l) (i + 1) : Nat) : Int) := by simp only [sumTo, List.take_succ_cons, List.map_cons, List.sum_cons]; push_cast; omega
    simp only [ctlsMk, List.getElem?_cons_succ, this, e]
theorem ctl_cnt (x : Ctl) : ctlCnt x ≤ 2 * (1 + ctlSz x) := by have g0 := csts_cnt x.sets; unfold ctlCnt ctlSz; omega
theorem ctls_cnt : ∀ l : List Ctl, ctlsCnt l ≤ 2 * ctlsSz l
  | [] => by simp [ctlsCnt]
  | x :: l => by have h1 := ctls_cnt l; have h2 := ctl_cnt x; simp only [ctlsCnt, ctlsSz, List.map_cons, List.sum_cons, List.length_cons] at *; omega
theorem ctl_top (x : Ctl) : ctlTop x ≤ 2 * ctlSz x := by have t0 := csts_cnt x.sets; unfold ctlTop ctlSz; omega
attribute [local irreducible] StrR IntR StrO IntO RowR RowO StrsAt IntsAt
set_option maxRecDepth 8000 in
theorem ctl_eq (x : Ctl) (A1 : Option Addr) (n1 c1 : Nat) (A1' : Option Addr) (n1' c1' : Nat) (w : World) (h1 : RowR cstR 2 w A1 n1 c1 x.sets) (h1' : RowR cstR 2 w A1' n1' c1' x.sets) (hs : ctlSz x ≤ 16777216) :
    Calls Tryz.prog 38 #[(ctlV x (.slice A1 n1 c1)), (ctlV x (.slice A1' n1' c1'))] w fun e w' => e = .returned (.bool true) ∧ Below w.heap.size w w' := by
  unfold ctlSz at hs
  unfold ctlV
  go_enter Tryz.func38, Tryz.ntmps38
  go_wp2_with fail
  refine (csts_eq x.sets _ _ _ _ _ _ _ (h1.keep cstK (by go_grown)) (h1'.keep cstK (by go_grown)) (by omega)).mono ?_
  rintro e w1 ⟨rfl, hb1⟩
  obtain ⟨hc_w1, hf_w1⟩ := bcell hb1
  have hz_w1 := hb1.size
  try simp at hz_w1
  have hB_w1 : Below w.heap.size w w1 := bthen (by go_grown) hb1
  have hz_w1_0 : w.heap.size < w1.heap.size := by omega
  have hz_w1_1 : w.heap.size + 1 < w1.heap.size := by omega
  go_wp2
  go_returns
  exact ⟨rfl, hB_w1⟩
set_option maxRecDepth 8000 in
theorem ctl_mark (x : Ctl) (f1 : List Nat) (A1 : Option Addr) (n1 c1 : Nat) (k : Int) (w : World) (h1 : RowO cstF 165 2 f1 w A1 n1 c1 x.sets) (hN : (f1).Nodup) (hs : ctlSz x ≤ 16777216) (hk0 : 0 < k) (hk1 : k ≤ 72057594037927936) :
    Calls Tryz.prog 43 #[(ctlV x (.slice A1 n1 c1)), .int .i64 k] w fun e w' => e = .returned (.int .i64 (k + (ctlTop x : Nat))) ∧ RowO cstF 165 2 f1 w' A1 n1 c1 (ctlTopMk k x).sets ∧ Ch (fun b => b ∈ f1) w w' := by
  have htop := ctl_top x
  have hsz := hs; unfold ctlSz at hsz; unfold ctlTop at htop
  unfold ctlV
  have al := (Below.refl w.heap.size w).alloc (Nat.le_refl _) (.cells #[.slice A1 n1 c1] 27)
  have a1 := h1.keep cstK al
  have hC0 : Ch (fun b => b ∈ f1) w (w.alloc (.cells #[.slice A1 n1 c1] 27)) := Ch.of_below al
  have e0 : (w.alloc (.cells #[.slice A1 n1 c1] 27)).cell? ⟨w.heap.size, 0, none⟩ = some (.slice A1 n1 c1) := by simp [go_sem]
  have lt1 := h1.lt cstK
  go_enter Tryz.func43, Tryz.ntmps43
  go_wp2_with fail
  refine (csts_mark x.sets f1 _ _ _ _ _ a1 (hN) (by omega) (by omega) (by omega)).mono ?_
  rintro e w1 ⟨rfl, b1, hc1⟩
  have hC1 : Ch (fun b => b ∈ f1) w w1 := hC0.trans hc1
  have e0' := hc1.cell e0 (by intro hb; have := lt1 _ hb; omega); clear e0; have e0 := e0'; clear e0'
  go_wp2
  go_returns
  refine ⟨ret_int (by unfold ctlTop; push_cast; omega), b1, hC1⟩
set_option maxRecDepth 8000 in
theorem ctl_held (x : Ctl) (y : Ctl) (A1 : Option Addr) (n1 c1 : Nat) (k : Int) (w : World) (h1 : RowR cstR 2 w A1 n1 c1 (ctlTopMk k x).sets) (hs : ctlSz x ≤ 16777216) (hk0 : 0 < k) (hk1 : k ≤ 72057594037927936) :
    Calls Tryz.prog 45 #[(ctlV y (.slice A1 n1 c1)), .int .i64 k] w fun e w' => e = .returned (.int .i64 (k + (ctlTop x : Nat))) ∧ Below w.heap.size w w' := by
  have htop := ctl_top x
  have hsz := hs; unfold ctlSz at hsz; unfold ctlTop at htop
  unfold ctlV
  go_enter Tryz.func45, Tryz.ntmps45
  go_wp2_with fail
  refine (csts_held x.sets _ _ _ _ _ (h1.keep cstK (by go_grown)) (by omega) (by omega) (by omega)).mono ?_
  rintro e w1 ⟨rfl, hb1⟩
  obtain ⟨hc_w1, hf_w1⟩ := bcell hb1
  have hz_w1 := hb1.size
  try simp at hz_w1
  have hB_w1 : Below w.heap.size w w1 := bthen (by go_grown) hb1
  have hz_w1_0 : w.heap.size < w1.heap.size := by omega
  go_wp2
  go_returns
  exact ⟨ret_int (by unfold ctlTop; push_cast; omega), hB_w1⟩
end Go.Proofs.YtdphdnllhmnelaaGreat
/- Contract of copyTexts. -/
namespace Go.Proofs.YtdphdnllhmnelaaGreat
open Go.RowKit
theorem strsT_one (l : List ByteArray) : ∀ u ∈ l.map Value.string, u.oneCell' = true := by
  intro u hu; obtain ⟨x, _, rfl⟩ := List.mem_map.1 hu; rfl
theorem StrsIn.nilcap {lo hi n c : Nat} {w : World} {A : Option Addr} {l : List ByteArray} (h : StrsIn lo hi w A n c l) : A = none → c = 0 := fun e => by
  subst e
  rcases own_form h.row.own with ⟨_, _, hc, _⟩ | ⟨g, hg, _⟩
  · exact hc
  · cases hg
theorem copyTextsT (A : Option Addr) (n c : Nat) (l : List ByteArray) (w : World) (h : StrsAt w A n l) (hc : A = none → c = 0) (hn : n ≤ 16777216) :
    Calls Tryz.prog 199 #[.slice A n c] w fun e w' => ∃ A' c', e = .returned (.slice A' n c') ∧ StrsIn w.heap.size w'.heap.size w' A' n c' l ∧ Below w.heap.size w w' := by
  have hcl := h.cells
  have hown := World.ownsRow_nil w w.heap.size 9 1
  have hz := Nat.le_refl w.heap.size
  go_enter Tryz.func199, Tryz.ntmps199
  go_wp2_with (at_builtin; refine wpList_app (P := Tryz.prog) w rfl (.const (.slice none 0 0)) (.tmp 3) 46 rfl w.heap.size 9 _ 1 16 Tryz.underlying46 infoString rfl (by omega) (.slice none 0 0) 0 [] rfl hown A n c (l.map Value.string) rfl hcl (strsT_one _) hc (by unfold maxLen; omega) (by omega) hz ?_; intro A' c' w1 hown1 hg1 hb1 _)
  go_returns
  simp only [Nat.zero_add, List.nil_append] at hown1 ⊢
  exact ⟨A', c', rfl, ⟨RowIn.of_own hown1⟩, hb1⟩
end Go.Proofs.YtdphdnllhmnelaaGreat
/- What grew by an append. -/
namespace Go.Proofs.YtdphdnllhmnelaaGreat
open Go.RowKit
theorem Ch.of_grow {w w' : World} {o : Option Nat} (h : w.grownBy w' o) : Ch (fun k => o = some k) w w' := ⟨h.os, h.tape, h.output, h.size, fun k hk hn => h.block k hk (fun e => hn e.symm)⟩
end Go.Proofs.YtdphdnllhmnelaaGreat
/- Rows that are owned: appending an element, changing an element. -/
namespace Go.Proofs.YtdphdnllhmnelaaGreat
open Go.RowKit
/-- the walk stands still here -/
def Stop (p : Prop) : Prop := p
theorem stop_of {p : Prop} (h : Stop p) : p := h
theorem IntO.mk' {w : World} {A : Option Addr} {n c : Nat} {l : List Int} (h : w.ownsRow 0 3 1 (.slice A n c) n (l.map (Value.int .i64))) : IntO (blkL A) w A n c l := ⟨rfl, h⟩
theorem IntO.own {fp : List Nat} {w : World} {A : Option Addr} {n c : Nat} {l : List Int} (h : IntO fp w A n c l) : fp = blkL A ∧ w.ownsRow 0 3 1 (.slice A n c) n (l.map (Value.int .i64)) := h
theorem IntR.at_r {w : World} {A : Option Addr} {n c : Nat} {l : List Int} (h : IntR w A n c l) : IntsAt w A n l := h.1
theorem StrO.mk' {w : World} {A : Option Addr} {n c : Nat} {l : List ByteArray} (h : w.ownsRow 0 9 1 (.slice A n c) n (l.map Value.string)) : StrO (blkL A) w A n c l := ⟨rfl, h⟩
theorem StrO.own {fp : List Nat} {w : World} {A : Option Addr} {n c : Nat} {l : List ByteArray} (h : StrO fp w A n c l) : fp = blkL A ∧ w.ownsRow 0 9 1 (.slice A n c) n (l.map Value.string) := h
section
variable {α : Type} {R : World → List Value → α → Prop} {F : List Nat → World → List Value → α → Prop} {e sz n c c' m : Nat} {w w' : World} {fps : List (List Nat)} {css : List (List Value)} {A A' : Option Addr} {l : List α} {cs : List Value} {f : List Nat} {x : α}
/-- one element more behind an append -/
theorem app_els (K : KindOk R F sz) (hE : Els F w css fps l) (hx : F f w cs x) (hN : (blkL A ++ (fps ++ [f]).flatten).Nodup) (hg : w.grownBy w' (Value.slice A n c).ownBlock)
    (hob : (Value.slice A' (n + 1) c').ownBlock = (Value.slice A n c).ownBlock ∨ (Value.slice A' (n + 1) c').ownBlock = some m) (hm : w.heap.size ≤ m) :
    Els F w' (css ++ [cs]) (fps ++ [f]) (l ++ [x]) ∧ (blkL A' ++ (fps ++ [f]).flatten).Nodup ∧ ∀ b ∈ blkL A', b ∈ blkL A ∨ b = m := by
  have hE2 := hE.app (Els.one hx)
  have hN2 := List.nodup_append.1 hN
  have hblk : ∀ b ∈ blkL A', b ∈ blkL A ∨ b = m := fun b hb => by
    have h1 := blk_own (n := n + 1) (c := c') (mem_blkL.1 hb)
    rcases hob with h2 | h2
    · exact .inl (mem_blkL.2 (blk_of (h2.symm.trans h1)))
    · exact .inr (Option.some.inj (h1.symm.trans h2))
  refine ⟨hE2.ch K (Ch.of_grow hg) (fun b hb e => hN2.2.2 b (mem_blkL.2 (blk_of e)) b hb rfl), ?_, hblk⟩
  refine List.nodup_append.2 ⟨by cases A' <;> simp [blkL], hN2.2.1, fun a ha b hb e => ?_⟩
  subst e
  rcases hblk a ha with h1 | h1
  · exact hN2.2.2 a h1 a hb rfl
  · have := hE2.lt K a hb; omega
/-- an element and what it leads to are changed -/
theorem upd_els {c1 c2 : List (List Value)} {f1 f2 : List (List Nat)} {l1 l2 : List α} {g : Nat} {cs' : List Value} {f' : List Nat} {x' : α} {w7 w8 : World} (K : KindOk R F sz)
    (ho : w.ownsRow 0 e sz (.slice (some ⟨g, 0, none⟩) n c) n (c1.flatten ++ (cs ++ c2.flatten))) (hE1 : Els F w c1 f1 l1) (hE2 : Els F w c2 f2 l2) (hcs : cs.length = sz) (hn : n = l1.length + 1 + l2.length)
    (hN : (g :: (f1.flatten ++ (f ++ f2.flatten))).Nodup) (hC : Ch (fun b => b ∈ f) w w7) (hx : F f' w7 cs' x') (hf' : ∀ b ∈ f', b ∈ f ∨ w.heap.size ≤ b) (hf'N : f'.Nodup) (hw8 : w8 = setsW w7 g (l1.length * sz) cs') :
    RowO F e sz (blkL (some ⟨g, 0, none⟩) ++ (f1 ++ f' :: f2).flatten) w8 (some ⟨g, 0, none⟩) n c (l1 ++ x' :: l2) ∧ (g :: (f1.flatten ++ (f' ++ f2.flatten))).Nodup ∧ Ch (fun b => b = g ∨ b ∈ f) w w8 := by
  have hgw : g < w.heap.size := (own_lo ho g (by simp [blkL])).2
  have lt1 := hE1.lt K
  have lt2 := hE2.lt K
  simp only [List.nodup_cons, List.nodup_append, List.mem_append, not_or] at hN
  have hgf : ¬ g ∈ f := by grind
  have d1 : ∀ b ∈ f1.flatten, ¬ b ∈ f := fun b h1 h2 => by grind
  have d2 : ∀ b ∈ f2.flatten, ¬ b ∈ f := fun b h1 h2 => by grind
  have e1 : ∀ b ∈ f1.flatten, ¬ b = g := fun b h1 h2 => by subst h2; grind
  have e2 : ∀ b ∈ f2.flatten, ¬ b = g := fun b h1 h2 => by subst h2; grind
  have e3 : ∀ b ∈ f', ¬ b = g := fun b h1 h2 => by
    subst h2
    rcases hf' b h1 with h | h
    · exact hgf h
    · omega
  have hC8 : Ch (fun b => b = g) w7 w8 := by rw [hw8]; exact ch_setsW _ _ _
  have o7 := own_ch ho hC (fun b hb h2 => hgf (by
    have : b = g := by simpa [Value.ownBlock, eq_comm] using hb
    rw [← this]; exact h2))
  have o8 := own_setsW cs' (l1.length * sz) w7 _ o7
  rw [setsL_at (hE1.flat K) (by rw [hcs, K.rlen (K.fr hx)]), ← hw8] at o8
  have E1 := (hE1.ch K hC d1).ch K hC8 e1
  have E2 := (hE2.ch K hC d2).ch K hC8 e2
  have X := K.fch hx hC8 e3
  refine ⟨RowO.intro (css := c1 ++ cs' :: c2) (by simpa using o8) (by simp; omega) (E1.app ⟨X, E2⟩), ?_, (hC.mono (fun b hb => .inr hb)).trans (hC8.mono (fun b hb => .inl hb))⟩
  simp only [List.nodup_cons, List.nodup_append, List.mem_append, not_or]
  refine ⟨⟨by grind, fun h => e3 g h rfl, by grind⟩, by grind, ⟨hf'N, by grind, fun a ha b hb hab => ?_⟩, fun a ha b hb hab => ?_⟩
  · subst hab
    rcases hf' a ha with h | h
    · exact d2 a hb h
    · have := lt2 a hb; omega
  · subst hab
    rcases hb with hb | hb
    · rcases hf' a hb with h | h
      · exact d1 a ha h
      · have := lt1 a ha; omega
    · grind
end
end Go.Proofs.YtdphdnllhmnelaaGreat
/- One element more in a row of the call's own, behind an append. -/
namespace Go.Proofs.YtdphdnllhmnelaaGreat
open Go.RowKit
section
variable {α : Type} {R : World → List Value → α → Prop} {F : List Nat → World → List Value → α → Prop} {e sz n c c' m : Nat} {w w' : World} {fps : List (List Nat)} {css : List (List Value)} {A A' : Option Addr} {l : List α} {cs : List Value} {f : List Nat} {x : α}
theorem row_app1 (K : KindOk R F sz) (hl : n = l.length) (E : Els F w css fps l) (hx : F f w cs x) (hN : ((blkL A ++ fps.flatten) ++ f).Nodup)
    (own' : w'.ownsRow 0 e sz (.slice A' (n + 1) c') (n + 1) (css.flatten ++ cs)) (hg : w.grownBy w' (Value.slice A n c).ownBlock)
    (hob : (Value.slice A' (n + 1) c').ownBlock = (Value.slice A n c).ownBlock ∨ (Value.slice A' (n + 1) c').ownBlock = some m) (hm : w.heap.size ≤ m) :
    ∃ fp', RowO F e sz fp' w' A' (n + 1) c' (l ++ [x]) ∧ fp'.Nodup ∧ (∀ b ∈ fp', b ∈ blkL A ++ fps.flatten ∨ b ∈ f ∨ b = m) ∧ Ch (fun b => b ∈ blkL A) w w' := by
  have hN6 : (blkL A ++ (fps ++ [f]).flatten).Nodup := by
    rw [List.flatten_append, ← List.append_assoc]
    simpa using hN
  obtain ⟨hE8, hN8, hO8⟩ := app_els (A := A) (n := n) (c := c) K E hx hN6 hg hob hm
  have own9 : w'.ownsRow 0 e sz (.slice A' (n + 1) c') (n + 1) (css ++ [cs]).flatten := by rw [List.flatten_append]; simpa using own'
  refine ⟨_, RowO.intro own9 (by rw [List.length_append, hl]; rfl) hE8, hN8, fun b hb => ?_, (Ch.of_grow hg).mono (fun b hb => mem_blkL.2 (blk_of hb))⟩
  rcases List.mem_append.1 hb with hb | hb
  · rcases hO8 b hb with h | h
    · exact .inl (List.mem_append_left _ h)
    · exact .inr (.inr h)
  · rw [List.flatten_append] at hb
    rcases List.mem_append.1 hb with hb | hb
    · exact .inl (List.mem_append_right _ hb)
    · exact .inr (.inl (by simpa using hb))
/-- one cell of an element and what it leads to are changed -/
theorem upd_els1 {c1 c2 : List (List Value)} {f1 f2 : List (List Nat)} {l1 l2 : List α} {g j : Nat} {v : Value} {f' : List Nat} {x' : α} {w7 w8 : World} (K : KindOk R F sz)
    (ho : w.ownsRow 0 e sz (.slice (some ⟨g, 0, none⟩) n c) n (c1.flatten ++ (cs ++ c2.flatten))) (hE1 : Els F w c1 f1 l1) (hE2 : Els F w c2 f2 l2) (hcs : cs.length = sz) (hj : j < sz) (hn : n = l1.length + 1 + l2.length)
    (hN : (g :: (f1.flatten ++ (f ++ f2.flatten))).Nodup) (hC : Ch (fun b => b ∈ f) w w7) (hx : F f' w7 (cs.set j v) x') (hf' : ∀ b ∈ f', b ∈ f ∨ w.heap.size ≤ b) (hf'N : f'.Nodup) (hw8 : w8 = w7.setCell ⟨g, l1.length * sz + j, none⟩ v) :
    RowO F e sz (blkL (some ⟨g, 0, none⟩) ++ (f1 ++ f' :: f2).flatten) w8 (some ⟨g, 0, none⟩) n c (l1 ++ x' :: l2) ∧ (g :: (f1.flatten ++ (f' ++ f2.flatten))).Nodup ∧ Ch (fun b => b = g ∨ b ∈ f) w w8 := by
  have hgw : g < w.heap.size := (own_lo ho g (by simp [blkL])).2
  have lt1 := hE1.lt K
  have lt2 := hE2.lt K
  simp only [List.nodup_cons, List.nodup_append, List.mem_append, not_or] at hN
  have hgf : ¬ g ∈ f := by grind
  have d1 : ∀ b ∈ f1.flatten, ¬ b ∈ f := fun b h1 h2 => by grind
  have d2 : ∀ b ∈ f2.flatten, ¬ b ∈ f := fun b h1 h2 => by grind
  have e1 : ∀ b ∈ f1.flatten, ¬ b = g := fun b h1 h2 => by subst h2; grind
  have e2 : ∀ b ∈ f2.flatten, ¬ b = g := fun b h1 h2 => by subst h2; grind
  have e3 : ∀ b ∈ f', ¬ b = g := fun b h1 h2 => by
    subst h2
    rcases hf' b h1 with h | h
    · exact hgf h
    · omega
  have hC8 : Ch (fun b => b = g) w7 w8 := by rw [hw8]; exact (Ch.refl (S := fun b => b = g) w7).setCell (p := ⟨g, l1.length * sz + j, none⟩) rfl v
  have o7 := own_ch ho hC (fun b hb h2 => hgf (by
    have : b = g := by simpa [Value.ownBlock, eq_comm] using hb
    rw [← this]; exact h2))
  have o8 := own_setsW [v] (l1.length * sz + j) w7 _ o7
  rw [setsL_in (hE1.flat K) (by simp; omega)] at o8
  have o9 : w8.ownsRow 0 e sz (.slice (some ⟨g, 0, none⟩) n c) n (c1.flatten ++ (cs.set j v ++ c2.flatten)) := by rw [hw8]; exact o8
  have E1 := (hE1.ch K hC d1).ch K hC8 e1
  have E2 := (hE2.ch K hC d2).ch K hC8 e2
  have X := K.fch hx hC8 e3
  refine ⟨RowO.intro (css := c1 ++ cs.set j v :: c2) (by simpa using o9) (by simp; omega) (E1.app ⟨X, E2⟩), ?_, (hC.mono (fun b hb => .inr hb)).trans (hC8.mono (fun b hb => .inl hb))⟩
  simp only [List.nodup_cons, List.nodup_append, List.mem_append, not_or]
  refine ⟨⟨by grind, fun h => e3 g h rfl, by grind⟩, by grind, ⟨hf'N, by grind, fun a ha b hb hab => ?_⟩, fun a ha b hb hab => ?_⟩
  · subst hab
    rcases hf' a ha with h | h
    · exact d2 a hb h
    · have := lt2 a hb; omega
  · subst hab
    rcases hb with hb | hb
    · rcases hf' a hb with h | h
      · exact d1 a ha h
      · have := lt1 a ha; omega
    · grind
end
end Go.Proofs.YtdphdnllhmnelaaGreat
/- A block of cells of the call's own: all of its cells, none frozen. -/
namespace Go.Proofs.YtdphdnllhmnelaaGreat
open Go.RowKit

structure BoxL (w : World) (h : Nat) (cs : List Value) : Prop where
  cell : ∀ j u, cs[j]? = some u → w.cell? ⟨h, j, none⟩ = some u
  fz : ∀ j, j < cs.length → w.frozen? ⟨h, j, none⟩ = false
  lt : h < w.heap.size
theorem ne_blk {g h : Nat} (hn : h ≠ g) : ¬ (fun k => k = g) h := hn
theorem BoxL.ch {S : Nat → Prop} {w w' : World} {h : Nat} {cs : List Value} (k : BoxL w h cs) (hc : Ch S w w') (hS : ¬ S h) : BoxL w' h cs :=
  ⟨fun j u hu => hc.cell (k.cell j u hu) hS, fun j hj => (World.frozen?_of_block (hc.block h k.lt hS)).trans (k.fz j hj), Nat.lt_of_lt_of_le k.lt hc.size⟩
theorem BoxL.keep {w w' : World} {h : Nat} {cs : List Value} (k : BoxL w h cs) (hb : Below w.heap.size w w') : BoxL w' h cs := k.ch (S := fun _ => False) (Ch.of_below hb) (fun h => h)
theorem Ch.set {w : World} {g o : Nat} {v : Value} : Ch (fun k => k = g) w (w.setCell ⟨g, o, none⟩ v) := (Ch.refl (S := fun k => k = g) w).setCell (p := ⟨g, o, none⟩) rfl v
theorem BoxL.set {w : World} {h j : Nat} {cs : List Value} {v : Value} (k : BoxL w h cs) (hj : j < cs.length) : BoxL (w.setCell ⟨h, j, none⟩ v) h (cs.set j v) := by
  refine ⟨fun i u hu => ?_, fun i hi => ?_, Nat.lt_of_lt_of_le k.lt (Ch.set (g := h) (o := j) (v := v)).size⟩
  · rw [List.getElem?_set] at hu
    by_cases e : j = i
    · subst e
      rw [if_pos rfl, if_pos hj] at hu
      obtain rfl := Option.some.inj hu
      exact sethere (k.cell j _ (List.getElem?_eq_getElem hj))
    · rw [if_neg e] at hu
      exact setoff (k.cell i u hu) (.inr e)
  · rw [List.length_set] at hi
    exact (World.frozen?_setCell _ _ _ _).trans (k.fz i hi)
theorem BoxL.new (w : World) (cs : List Value) (t : TypeId) : BoxL (w.alloc (.cells cs.toArray t)) w.heap.size cs :=
  ⟨fun j u hu => by rw [World.cell?_alloc_at cs.toArray t _ _ rfl]; simpa using hu, fun j _ => World.frozen?_alloc_at cs.toArray t _ _ rfl, by simp [go_sem]⟩
theorem setsW_fz {g : Nat} {p : Addr} : ∀ (vs : List Value) (o : Nat) (w : World), (setsW w g o vs).frozen? p = w.frozen? p
  | [], _, _ => rfl
  | v :: vs, o, w => (setsW_fz vs (o + 1) _).trans (World.frozen?_setCell _ _ _ _)
theorem BoxL.sets {w : World} {h : Nat} {cs vs : List Value} (k : BoxL w h cs) (hl : vs.length = cs.length) : BoxL (setsW w h 0 vs) h vs :=
  ⟨fun j u hu => by
    have := setsW_cell (g := h) vs 0 w (fun j hj => ⟨_, by rw [Nat.zero_add]; exact k.cell j _ (List.getElem?_eq_getElem (by omega))⟩) j u hu
    rwa [Nat.zero_add] at this, fun j hj => (setsW_fz vs 0 w).trans (k.fz j (by omega)), Nat.lt_of_lt_of_le k.lt (ch_setsW vs 0 w).size⟩
theorem BoxL.range {w : World} {h : Nat} {cs : List Value} (k : BoxL w h cs) : w.rangeAt h 0 cs := fun j v hv => by rw [Nat.zero_add]; exact k.cell j v hv
theorem BoxL.there {w : World} {h : Nat} {cs : List Value} (k : BoxL w h cs) {n : Nat} (hn : n = cs.length) : w.there h 0 n := fun j hj => by
  rw [Nat.zero_add]
  exact ⟨by rw [k.cell j _ (List.getElem?_eq_getElem (by omega))]; rfl, k.fz j (by omega)⟩
theorem ch_setCells {g : Nat} : ∀ (vs : List Value) (o : Nat) (w : World), Ch (fun b => b = g) w (w.setCells g o vs)
  | [], _, w => Ch.refl w
  | v :: vs, o, w => (Ch.set (g := g) (o := o) (v := v)).trans (ch_setCells vs (o + 1) _)
theorem BoxL.setCells {w : World} {h : Nat} {cs vs : List Value} (k : BoxL w h cs) (hl : vs.length = cs.length) : BoxL (w.setCells h 0 vs) h vs :=
  ⟨fun j u hu => by
    have hj : j < vs.length := (List.getElem?_eq_some_iff.1 hu).1
    have := World.cell?_setCells_in h vs 0 w (fun i hi => (k.there rfl i (by omega)).1) j hj
    rw [Nat.zero_add] at this
    rw [this, ← hu, List.getElem?_eq_getElem hj], fun j hj => (World.frozen?_setCells _ _ _ _ _).trans (k.fz j (by omega)), Nat.lt_of_lt_of_le k.lt (ch_setCells vs 0 w).size⟩
theorem BoxL.below {B : Nat} {w w' : World} {h : Nat} {cs : List Value} (k : BoxL w h cs) (hb : Below B w w') (hB : h < B) : BoxL w' h cs :=
  ⟨fun j u hu => (hb.cell (p := ⟨h, j, none⟩) hB).trans (k.cell j u hu), fun j hj => (hb.frozen (p := ⟨h, j, none⟩) hB).trans (k.fz j hj), Nat.lt_of_lt_of_le k.lt hb.size⟩
/-- a struct is read whole from its block, behind a guard or not -/
theorem wpList_load_g {P : Program} {ops : Array Oper} {rest : List Oper} {op : Oper} {a : Act} {w : World} {Q : Exit → Act → World → Prop} (hw : Region.wanted op (yielded ops a.tmps) = true) (ty : TypeId) (x : Operand) (ho : op.op = .load ty x)
    (b o : Nat) (hx : a.eval x = .pointer (some ⟨b, o, none⟩)) (cs : List Value) (d : TypeDesc) (hc : w.rangeAt b o cs)
    (hu : P.underlying ty = some d) (hd : d.isRow = true) (hi : (P.info? ty).map (·.size) = some cs.length)
    (h : wpList P ops Q rest (a.put op.dst (.agg cs.toArray)) w) : wpList P ops Q (op :: rest) a w :=
  wpList_step fun _ hK => by rw [if_pos hw]; exact wp_load_mid ty x ho b o hx cs d hc hu hd hi (hK _ _ h)
/-- a struct that lies in a block of its own and a second result are handed back -/
theorem results_cell_tmp {P : Program} {fn : Func} {c u : Tmp} {ty : TypeId} (h : fn.results = #[.cell c ty, .tmp u]) {tmps : Array Value} {w : World} {b : Nat} {cs : List Value} {d : TypeDesc} (hp : tmps.getD c undef = .pointer (some ⟨b, 0, none⟩))
    (hc : w.rangeAt b 0 cs) (hu : P.underlying ty = some d) (hd : d.isRow = true) (hi : (P.info? ty).map (·.size) = some cs.length) : (results fn tmps).run P w = .ok (.tuple #[.agg cs.toArray, tmps.getD u undef]) w := by
  have hl := run_loadVar_mid (P := P) w b 0 ty cs d hc hu hd hi
  have hp' : tmps[c]?.getD undef = .pointer (some ⟨b, 0, none⟩) := by simpa using hp
  simp [results, h, hp', asAddr, Sem.run_bind, hl]
/-- what lies in blocks from B on is changed: nothing below is -/
theorem Ch.belowB {S : Nat → Prop} {B : Nat} {w0 w w' : World} (hc : Ch S w w') (hb : Below B w0 w) (hB : B ≤ w.heap.size) (hS : ∀ k, S k → B ≤ k) : Below B w0 w' := hb.trans (hc.below hS hB)
end Go.Proofs.YtdphdnllhmnelaaGreat
/- append as an operation of a region that draws; a block made there. -/
namespace Go.Proofs.YtdphdnllhmnelaaGreat
open Go.RowKit
theorem step_app {P : Program} {ops : Array Oper} {o : Oper} {a : Act} {w : World} {K : Act → World → Prop} {Q : Exit → Act → World → Prop} {E : Prop} (hgd : o.guard = none) (s x : Operand) (t : TypeId)
    (ho : o.op = .call { callee := .builtin .append, args := #[s, x], argTypes := #[t, t] })
    (base : Nat) (e : TypeId) (z : Value) (size bytes : Nat) (ht : P.underlying t = some (.slice e)) (hinfo : (P.info? e).map (fun i => (i.zero, i.size, i.bytes)) = some (some z, size, bytes))
    (hzs : z.cells.size = size) (hsz : 0 < size) (v : Value) (n : Nat) (xs : List Value) (hs : a.eval s = v) (hown : w.ownsRow base e size v n xs)
    (A : Option Addr) (m c : Nat) (news : List Value) (hx : a.eval x = .slice A m c) (hsrc : CellsAt w A m size news) (h1 : ∀ u ∈ news, u.oneCell' = true) (hn : A = none → c = 0)
    (h63 : n + m ≤ maxLen) (hbytes : (n + m) * bytes ≤ 140737488355328) (hbase : base ≤ w.heap.size)
    (h : ∀ A' c' w', w'.ownsRow base e size (.slice A' (n + m) c') (n + m) (xs ++ news) → w.grownBy w' v.ownBlock → Below base w w' →
      ((Value.slice A' (n + m) c').ownBlock = v.ownBlock ∨ (Value.slice A' (n + m) c').ownBlock = some w.heap.size) → K (a.put o.dst (.slice A' (n + m) c')) w') :
    if Region.wanted o (yielded ops a.tmps) = true then Oper.wp P o a w K Q else E := by
  have hw : Region.wanted o (yielded ops a.tmps) = true := by simp [Region.wanted, hgd]
  rw [if_pos hw]
  obtain ⟨A', c', w', hr, h2, h3, h4⟩ := run_app (P := P) w base t o.type e z size bytes ht hinfo hzs hsz v n xs hown A m c news hsrc h1 hn h63 hbytes hbase
  unfold Oper.wp execOp
  simp only [ho, resolve, invoke, builtin, Sem.run_bind, Sem.run_pure, Result.andThen_ok, List.map_toArray, List.map_cons, List.map_nil, hs, hx, hr]
  exact h A' c' w' h2 h3 (below_own hown h3 hbase) h4
theorem new1c (w : World) (cs : List Value) (n : Nat) (hn : cs.length = n) (t : TypeId) : CellsAt (w.alloc (.cells cs.toArray t)) (some ⟨w.heap.size, 0, none⟩) 1 n cs := by
  refine ⟨by simpa using hn, fun _ => ⟨w.heap.size, 0, rfl, fun j u hu => ?_⟩⟩
  rw [Nat.zero_add, World.cell?_alloc_new]
  simpa using hu
end Go.Proofs.YtdphdnllhmnelaaGreat
/- A region that draws its order and holds loads of old cells and calls that make memory: one walk in the order of the text, over the class of worlds in which all that lay lies. -/
namespace Go.Proofs.YtdphdnllhmnelaaGreat
open Go.RowKit

/-- a world in which all that lay in w lies -/
def Grow (w : World) : Type := { X : World // Below w.heap.size w X }
instance {w : World} : Nonempty (Grow w) := ⟨⟨w, Below.refl _ _⟩⟩
def Grow.at_ {w : World} (X : Grow w) : World := X.1
theorem Grow.below {w : World} (X : Grow w) : Below w.heap.size w X.at_ := X.2
theorem Grow.cell {w : World} (X : Grow w) {b o : Nat} (h : b < w.heap.size) : X.at_.cell? ⟨b, o, none⟩ = w.cell? ⟨b, o, none⟩ := X.2.cell h
theorem Grow.frozen {w : World} (X : Grow w) {b o : Nat} (h : b < w.heap.size) : X.at_.frozen? ⟨b, o, none⟩ = w.frozen? ⟨b, o, none⟩ := X.2.frozen h
theorem Grow.cell_of {w : World} (X : Grow w) {b o : Nat} {v : Value} (h : b < w.heap.size) (hc : w.cell? ⟨b, o, none⟩ = some v) : X.at_.cell? ⟨b, o, none⟩ = some v := (X.cell h).trans hc
def Grow.mk' {w W : World} (h : Below w.heap.size w W) : Grow w := ⟨W, h⟩
theorem wp_region_grow {P : Program} {id : Nat} {Q : Exit → Act → World → Prop} {a : Act} {w : World} {l : List Oper} (hm : P.follows .mixedOrders = true) (hB : Region.lexB .any l.toArray = true)
    (h : wpQuiet P l.toArray (fun w' => ∃ X : Grow w, w' = X.at_) (fun a' => ∀ w', (∃ X : Grow w, w' = X.at_) → Q .normal a' w') l a) : (Code.region id l.toArray true).wp P Q a w :=
  wp_region_quiet (C := fun w' => ∃ X : Grow w, w' = X.at_) hm hB ⟨⟨w.drew, (Below.refl _ _).drew⟩, rfl⟩ (by simpa using h)
theorem grow_of {P : Program} {f : FuncId} {args : Array Value} {w : World} {X : Grow w} {v : Value} (h : Calls P f args X.at_ fun e w' => e = .returned v ∧ Below X.at_.heap.size X.at_ w') :
    Calls P f args X.at_ fun e w'' => e = .returned v ∧ ∃ Y : Grow w, w'' = Y.at_ :=
  h.mono fun _ w' ⟨he, hb⟩ => ⟨he, Grow.mk' (bthen X.below hb), rfl⟩
theorem grow_same {P : Program} {f : FuncId} {args : Array Value} {w : World} {X : Grow w} {v : Value} (h : Calls P f args X.at_ fun e w' => e = .returned v ∧ X.at_ = w') :
    Calls P f args X.at_ fun e w'' => e = .returned v ∧ ∃ Y : Grow w, w'' = Y.at_ :=
  h.mono fun _ w' ⟨he, hb⟩ => ⟨he, X, hb.symm⟩
/-- an answer that is known -/
theorem known {P : Program} {f : FuncId} {args : Array Value} {w : World} {T : World → Prop} {x y : Bool} (hx : x = y) (h : Calls P f args w fun e w' => e = .returned (.bool x) ∧ T w') : Calls P f args w fun e w' => e = .returned (.bool y) ∧ T w' := by
  subst hx; exact h
end Go.Proofs.YtdphdnllhmnelaaGreat
/- A whole struct read in a region that draws (XGrow). -/
namespace Go.Proofs.YtdphdnllhmnelaaGreat
open Go.RowKit
theorem Grow.range {w : World} (X : Grow w) {b o : Nat} {cs : List Value} (hb : b < w.heap.size) (hc : w.rangeAt b o cs) : X.at_.rangeAt b o cs := fun j v hv => X.cell_of hb (hc j v hv)
theorem wpQuiet_load {P : Program} {ops : Array Oper} {w : World} {Q : Act → Prop} {a : Act} {o : Oper} {rest : List Oper} (ty : TypeId) (x : Operand) (b off : Nat) (cs : List Value) (d : TypeDesc) (hb : b < w.heap.size) (hc : w.rangeAt b off cs)
    (hu : P.underlying ty = some d) {n : Nat} (hi : (P.info? ty).map (·.size) = some n) (hl : cs.length = n) (ho : o.op = .load ty x) (hx : a.eval x = .pointer (some ⟨b, off, none⟩)) (hw : Region.wanted o (yielded ops a.tmps) = true) (hd : d.isRow = true)
    (h : wpQuiet P ops (fun w' => ∃ X : Grow w, w' = X.at_) Q rest (a.put o.dst (.agg cs.toArray))) : wpQuiet P ops (fun w' => ∃ X : Grow w, w' = X.at_) Q (o :: rest) a :=
  by
  subst hl
  exact BigFrame.wpQuiet_want hw fun K hK => ⟨_, fun w' ⟨X, hX⟩ => by
    subst hX
    unfold Oper.quietAt execOp
    simp only [ho, hx, Instr.loadAt, Instr.sureAddr, Sem.run_bind, Sem.run_pure, Result.andThen_ok, run_loadVar_mid _ b off ty cs d (X.range hb hc) hu hd hi]
    exact ⟨rfl, rfl⟩, hK _ h⟩
/-- a struct is read whole, at any offset -/
theorem wpList_load_o {P : Program} {ops : Array Oper} {rest : List Oper} {op : Oper} {a : Act} {w : World} {Q : Exit → Act → World → Prop} (ty : TypeId) (x : Operand) (b o : Nat) (cs : List Value) (d : TypeDesc) (hc : w.rangeAt b o cs)
    (hu : P.underlying ty = some d) {n : Nat} (hi : (P.info? ty).map (·.size) = some n) (hl : cs.length = n) (ho : op.op = .load ty x) (hx : a.eval x = .pointer (some ⟨b, o, none⟩)) (hgd : op.guard = none) (hd : d.isRow = true)
    (h : wpList P ops Q rest (a.put op.dst (.agg cs.toArray)) w) : wpList P ops Q (op :: rest) a w :=
  wpList_load_mid hgd ty x ho b o hx cs d hc hu hd (by rw [hl]; exact hi) h
end Go.Proofs.YtdphdnllhmnelaaGreat
/- A region that draws its order, walked by an invariant over what has been done: no listing of orders. -/
namespace Go.Proofs.YtdphdnllhmnelaaGreat
section
variable {P : Program} {ops : Array Oper} {Q : Exit → Act → World → Prop}

/-- every edge leads to an operation ahead -/
def dagB (ops : Array Oper) : Bool := (List.range ops.size).all fun i => ((ops[i]?).map fun (o : Oper) => o.after.all fun e => decide (e.on < i) || !Region.binds .any e).getD true
/-- operation i waits for operation j -/
def depB (ops : Array Oper) (i j : Nat) : Bool := ((ops[i]?).map fun (o : Oper) => o.after.any fun e => Region.binds .any e && decide (e.on = j)).getD false

theorem getD_of {L : Array Bool} {i : Nat} (hi : i < L.size) (b : Bool) : L.getD i b = L[i] := by simp [Array.getD, hi]
theorem dag_none (hB : dagB ops = true) {L : Array Bool} (hL : L.size = ops.size) (h : Region.ready .any ops L = []) : ∀ i, i < ops.size → L.getD i false = true := by
  intro i
  induction i using Nat.strongRecOn with
  | _ i ih =>
    intro hi
    have hb := List.all_eq_true.1 hB i (List.mem_range.2 hi)
    have ho : ops[i]? = some ops[i] := Array.getElem?_eq_getElem hi
    rw [ho] at hb
    simp only [Option.map_some, Option.getD_some, Array.all_eq_true'] at hb
    cases hc : L.getD i false with
    | true => rfl
    | false =>
      have hm : i ∈ Region.ready .any ops L := by
        rw [mem_ready]
        refine ⟨by rw [getD_of (by omega)] at hc ⊢; exact hc, _, ho, fun e he hbi => ?_⟩
        have := hb e he
        simp only [hbi, Bool.not_true, Bool.or_false, decide_eq_true_eq] at this
        exact ih e.on this (by omega)
      rw [h] at hm; cases hm
theorem dag_set {L : Array Bool} {i : Nat} (hi : i < L.size) : (fun k => (L.setIfInBounds i true).getD k false) = fun k => k == i || L.getD k false := by
  funext k
  by_cases e : k = i
  · subst e; simp [Array.getD, hi]
  · have : (k == i) = false := by simp [e]
    rw [this, Bool.false_or]
    simp only [Array.getD, Array.size_setIfInBounds]
    split
    · rename_i hk
      rw [Array.getInternal_eq_getElem, Array.getInternal_eq_getElem, Array.getElem_setIfInBounds hk]; simp [Ne.symm e]
    · rfl
theorem dag_count {L : Array Bool} {i : Nat} (h : L.getD i true = false) : (L.setIfInBounds i true).toList.countP (!·) + 1 ≤ L.toList.countP (!·) := by
  have hi : i < L.size := by
    rcases Nat.lt_or_ge i L.size with h' | h'
    · exact h'
    · rw [Array.getD, dif_neg (by omega)] at h; cases h
  rw [getD_of hi] at h
  rw [Array.toList_setIfInBounds, List.countP_set (by simpa using hi)]
  have hp : 0 < L.toList.countP (!·) := List.countP_pos_iff.2 ⟨L[i], by simp, by simp [h]⟩
  have e1 : L.toList[i]'(by simpa using hi) = false := by simpa using h
  rw [e1]
  simp only [Bool.not_false, Bool.not_true, if_true, Bool.false_eq_true, if_false]
  omega
theorem dag_any (hB : dagB ops = true) (I : (Nat → Bool) → Act → World → Prop)
    (st : ∀ i D a w, i < ops.size → D i = false → (∀ j, depB ops i j = true → D j = true) → I D a w → wpOp P ops Q i (I (fun k => k == i || D k)) a w)
    (hend : ∀ D a w, (∀ i, i < ops.size → D i = true) → I D a w → Q .normal a w) :
    ∀ (fuel : Nat) (L : Array Bool) (a : Act) (w : World), L.size = ops.size → L.toList.countP (!·) ≤ fuel → I (fun k => L.getD k false) a w → wpAny P .any ops Q fuel L a w := by
  intro fuel
  induction fuel with
  | zero =>
    intro L a w hL hc hI
    have hr : Region.ready .any ops L = [] := by
      rw [List.eq_nil_iff_forall_not_mem]
      intro i hi
      have := dag_count (mem_ready.1 hi).1
      omega
    exact ⟨hr, hend _ a w (dag_none hB hL hr) hI⟩
  | succ fuel ih =>
    intro L a w hL hc hI
    refine ⟨fun hr => hend _ a w (dag_none hB hL hr) hI, fun i hi => ?_⟩
    obtain ⟨h0, o, ho, hall⟩ := mem_ready.1 hi
    have hin : i < ops.size := (Array.getElem?_eq_some_iff.1 ho).1
    have hci := dag_count h0
    refine wpOp_mono (fun a' w' h => ih _ a' w' (by simpa using hL) (by omega) (by rw [dag_set (by omega)]; exact h)) (st i _ a w hin ?_ ?_ hI)
    · rw [getD_of (by omega)] at h0 ⊢; exact h0
    · intro j hj
      unfold depB at hj
      rw [ho] at hj
      simp only [Option.map_some, Option.getD_some, Array.any_eq_true', Bool.and_eq_true, decide_eq_true_eq] at hj
      obtain ⟨e, he, hb, rfl⟩ := hj
      exact hall e he hb
theorem wp_region_dag {id : Nat} {a : Act} {w : World} (hm : P.follows .mixedOrders = true) (hB : dagB ops = true) (I : (Nat → Bool) → Act → World → Prop) (h0 : I (fun _ => false) a w.drew)
    (st : ∀ i D a w, i < ops.size → D i = false → (∀ j, depB ops i j = true → D j = true) → I D a w → wpOp P ops Q i (I (fun k => k == i || D k)) a w)
    (hend : ∀ D a w, (∀ i, i < ops.size → D i = true) → I D a w → Q .normal a w) : (Code.region id ops true).wp P Q a w := by
  refine wp_region_any hm (dag_any hB I st hend _ _ _ _ (by simp) ?_ ?_)
  · refine Nat.le_trans (List.countP_le_length) ?_
    simp
  · have : (fun k => (Array.replicate ops.size false).getD k false) = fun _ => false := by
      funext k
      simp only [Array.getD, Array.size_replicate]
      split
      · rw [Array.getInternal_eq_getElem, Array.getElem_replicate]
      · rfl
    rw [this]
    exact h0
end
end Go.Proofs.YtdphdnllhmnelaaGreat
/- A region that draws its order, walked by an invariant over what has been done; the slots that it writes are given by their numbers alone. -/
namespace Go.Proofs.YtdphdnllhmnelaaGreat
/-- slots set, one by one -/
def putAll (a : Act) : List Nat → List Value → Act
  | i :: is, v :: vs => putAll { a with tmps := a.tmps.setIfInBounds i v } is vs
  | _, _ => a
theorem putAll_self (a : Act) : ∀ ss : List Nat, putAll a ss (ss.map fun i => a.tmps.getD i undef) = a
  | [] => rfl
  | i :: is => by
    have h : ({ a with tmps := a.tmps.setIfInBounds i (a.tmps.getD i undef) } : Act) = a := by
      have : a.tmps.setIfInBounds i (a.tmps.getD i undef) = a.tmps := by
        apply Array.ext
        · simp
        · intro k h1 h2
          rw [Array.getElem_setIfInBounds]
          split
          · rename_i e; subst e; simp [Array.getD, h2]
          · rfl
      rw [this]
    show putAll { a with tmps := a.tmps.setIfInBounds i (a.tmps.getD i undef) } is (is.map fun i => a.tmps.getD i undef) = a
    rw [h]; exact putAll_self a is
section
variable {P : Program} {ops : Array Oper} {Q : Exit → Act → World → Prop}
theorem wp_region_dagb {id : Nat} {a : Act} {w : World} (ss : List Nat) (hm : P.follows .mixedOrders = true) (hB : dagB ops = true) (J : (Nat → Bool) → List Value → World → Prop)
    (h0 : J (fun _ => false) (ss.map fun i => a.tmps.getD i undef) w.drew)
    (st : ∀ i D vs w, i < ops.size → D i = false → (∀ j, depB ops i j = true → D j = true) → (∀ i j, D i = true → depB ops i j = true → D j = true) → J D vs w →
      wpOp P ops Q i (fun a' w' => ∃ vs', a' = putAll a ss vs' ∧ J (fun k => k == i || D k) vs' w') (putAll a ss vs) w)
    (hend : ∀ D vs w, (∀ i, i < ops.size → D i = true) → J D vs w → Q .normal (putAll a ss vs) w) : (Code.region id ops true).wp P Q a w :=
  wp_region_dag hm hB (fun D a' w' => (∀ i j, D i = true → depB ops i j = true → D j = true) ∧ ∃ vs', a' = putAll a ss vs' ∧ J D vs' w') ⟨(fun _ _ h => by cases h), _, (putAll_self a ss).symm, h0⟩
    (fun i D a' w' hi hD hdep hI => by
      obtain ⟨hcl, vs, rfl, hJ⟩ := hI
      refine wpOp_mono (fun a' w' h => ⟨fun k j hk hj => ?_, h⟩) (st i D vs w' hi hD hdep hcl hJ)
      simp only [Bool.or_eq_true] at hk ⊢
      rcases hk with hk | hk
      · have : k = i := by simpa using hk
        subst this; exact .inr (hdep j hj)
      · exact .inr (hcl k j hk hj))
    (fun D a' w' hD hI => by obtain ⟨_, vs, rfl, hJ⟩ := hI; exact hend D vs w' hD hJ)
end
end Go.Proofs.YtdphdnllhmnelaaGreat
/- Copies of a catalog: the program's copyCatalog. -/
namespace Go.Proofs.YtdphdnllhmnelaaGreat
open Go.RowKit
theorem Ch.nam {S : Nat → Prop} {w w' : World} (_ : Ch S w w') : ∃ V, V = w' := ⟨_, rfl⟩
/-- a catalog that fits: what a copy of it costs is little -/
def ctlW (x : Ctl) : Prop := x.sets.length ≤ 1000 ∧ ∀ s ∈ x.sets, s.snaps.length ≤ 1000 ∧ ∀ p ∈ s.snaps, p.ch.length ≤ 1000
theorem results_cell1 {P : Program} {fn : Func} {c : Tmp} {ty : TypeId} (h : fn.results = #[.cell c ty]) {tmps : Array Value} {w : World} {b : Nat} {cs : List Value} {d : TypeDesc} (hp : tmps.getD c undef = .pointer (some ⟨b, 0, none⟩))
    (hc : w.rangeAt b 0 cs) (hu : P.underlying ty = some d) (hd : d.isRow = true) (hi : (P.info? ty).map (·.size) = some cs.length) : (results fn tmps).run P w = .ok (.agg cs.toArray) w := by
  have hl := run_loadVar_mid (P := P) w b 0 ty cs d hc hu hd hi
  have hp' : tmps[c]?.getD undef = .pointer (some ⟨b, 0, none⟩) := by simpa using hp
  simp [results, h, hp', asAddr, Sem.run_bind, hl]
theorem cstInfo : (Tryz.prog.info? 165).map (fun i => (i.zero, i.size, i.bytes)) = some (some (.agg #[.string ByteArray.empty, .slice none 0 0]), 2, 40) := by kernel_rfl
theorem snpInfo : (Tryz.prog.info? 195).map (fun i => (i.zero, i.size, i.bytes)) = some (some (.agg #[.string ByteArray.empty, .string ByteArray.empty, .slice none 0 0]), 3, 56) := by kernel_rfl
theorem sizeCat0 : (Tryz.prog.info? 27).map (·.size) = some 1 := by kernel_rfl
theorem StrR.nilcap {w : World} {A : Option Addr} {n c : Nat} {l : List ByteArray} (h : StrR w A n c l) : A = none → c = 0 := by unfold StrR at h; exact h.2
theorem StrR.at_r' {w : World} {A : Option Addr} {n c : Nat} {l : List ByteArray} (h : StrR w A n c l) : StrsAt w A n l := by unfold StrR at h; exact h.1
theorem strO_in {lo hi n c : Nat} {w : World} {A : Option Addr} {l : List ByteArray} (h : StrsIn lo hi w A n c l) : ∃ fp, fp.Nodup ∧ (∀ b ∈ fp, lo ≤ b ∧ b < hi) ∧ StrO fp w A n c l := StrO.of_in h
theorem cstF_of {f : List Nat} {w : World} {A : Option Addr} {n c : Nat} {y : Cst} (h : RowO snpF 195 3 f w A n c y.snaps) : cstF f w [.string y.nm, .slice A n c] y := ⟨A, n, c, f, rfl, rfl, h⟩
theorem snpF_of {f : List Nat} {w : World} {A : Option Addr} {n c : Nat} {y : Snp} (h : StrO f w A n c y.ch) : snpF f w [.string y.nm, .string y.tg, .slice A n c] y := ⟨A, n, c, f, rfl, rfl, h⟩
attribute [local irreducible] StrsAt StrR StrO RowR RowO
set_option maxRecDepth 8000 in
set_option maxHeartbeats 8000000 in
theorem copyCat_impl (x : Ctl) (A : Option Addr) (n c : Nat) (w : World) (h : RowR cstR 2 w A n c x.sets) (hW : ctlW x) :
    Calls Tryz.prog 168 #[ctlV x (.slice A n c)] w fun e w' => (∃ A' n' c' fp, e = .returned (ctlV x (.slice A' n' c')) ∧ RowO cstF 165 2 fp w' A' n' c' x.sets ∧ fp.Nodup ∧ ∀ b ∈ fp, w.heap.size ≤ b ∧ b < w'.heap.size) ∧ Below w.heap.size w w' := by
  have HL := Lib.hid h.len
  have hn : n ≤ 1000 := by have := h.len; have := hW.1; omega
  unfold ctlV
  go_enter Tryz.func168, Tryz.ntmps168
  go_wp2_with fail
  have al0 := (Below.refl (w).heap.size (w)).alloc (Nat.le_refl _) (.cells #[.slice A n c] 27)
  have X0 := BoxL.new (w) [.slice A n c] 27
  have al1 := (Below.refl ((w).alloc (.cells #[.slice A n c] 27)).heap.size ((w).alloc (.cells #[.slice A n c] 27))).alloc (Nat.le_refl _) (.cells #[.slice none 0 0] 27)
  have X1 := BoxL.new ((w).alloc (.cells #[.slice A n c] 27)) [.slice none 0 0] 27
  have al2 := (Below.refl (((w).alloc (.cells #[.slice A n c] 27)).alloc (.cells #[.slice none 0 0] 27)).heap.size (((w).alloc (.cells #[.slice A n c] 27)).alloc (.cells #[.slice none 0 0] 27))).alloc (Nat.le_refl _) (.cells #[.slice none 0 0] 27)
  have X2 := BoxL.new (((w).alloc (.cells #[.slice A n c] 27)).alloc (.cells #[.slice none 0 0] 27)) [.slice none 0 0] 27
  obtain ⟨W, hW0⟩ : ∃ W, W = (((w).alloc (.cells #[.slice A n c] 27)).alloc (.cells #[.slice none 0 0] 27)).alloc (.cells #[.slice none 0 0] 27) := ⟨_, rfl⟩
  have P0 : BoxL W w.heap.size [.slice A n c] := by rw [hW0]; exact (X0.keep al1).keep al2
  have R0 : BoxL W (w.heap.size + 1) [.slice none 0 0] := by rw [hW0]; have := X1.keep al2; simpa using this
  have O0 : BoxL W (w.heap.size + 1 + 1) [.slice none 0 0] := by rw [hW0]; simpa using X2
  have B0 : Below w.heap.size w W := by rw [hW0]; exact bthen (bthen al0 al1) al2
  rw [← hW0]
  clear X0 X1 X2 al0 al1 al2 hW0
  obtain ⟨g, hg⟩ : ∃ g, w.heap.size = g := ⟨_, rfl⟩
  have HG := Lib.hid hg
  simp only [hg] at P0 R0 O0 ⊢
  clear hg
  have hOl := O0.lt
  go_loopw [13] (fun i wr => ∃ (k : Nat) (P : Option Addr) (cp : Nat) (fp : List Nat), k ≤ n ∧ i = .int .i64 k ∧ BoxL wr g [.slice A n c] ∧ BoxL wr (g + 1) [.slice none 0 0] ∧ BoxL wr (g + 1 + 1) [.slice P k cp] ∧ RowO cstF 165 2 fp wr P k cp (x.sets.take k) ∧ fp.Nodup ∧ (∀ b ∈ fp, W.heap.size ≤ b) ∧ Below w.heap.size w wr ∧ W.heap.size ≤ wr.heap.size) (fun i _ => n - (intOf i).toNat)
  case atStart => exact ⟨0, none, 0, [], Nat.zero_le _, rfl, P0, R0, O0, by rw [List.take_zero]; exact RowO.nil, List.nodup_nil, (fun b hb => by cases hb), B0, Nat.le_refl _⟩
  case round =>
    clear P0 R0 O0 B0
    obtain ⟨k, P, cp, fp, hk, rfl, BP, BR, BO, RO, hND, hFP, hB, hz⟩ := hrel
    by_cases hlt : k < n
    · skip
      have k1 := h.keep cstK hB
      obtain ⟨b, off, rfl⟩ := k1.head (by omega)
      obtain ⟨bl, y, cs, hy, ⟨B1, m1, d1, rfl, y1⟩, hcell⟩ := k1.elem_at hlt
      have hyW := bounds_el hW.2 hy
      have f0 : wr.cell? ⟨b, off + k * 2, none⟩ = some (.string y.nm) := hcell 0 _ rfl
      have f1 : wr.cell? ⟨b, off + k * 2 + 1, none⟩ = some (.slice B1 m1 d1) := hcell 1 _ rfl
      have HT := Lib.hid (take_more hy)
      have HM := Lib.hid y1.len
      have hm1 : m1 ≤ 1000 := by have := y1.len; have := hyW.1; omega
      have p0 := BP.cell 0 _ rfl; have pl := BP.lt
      have hRl := RO.lt cstK
      clear hcell hy
      have al0 := (Below.refl (wr).heap.size (wr)).alloc (Nat.le_refl _) (.cells #[.string y.nm, .slice B1 m1 d1] 165)
      have X0 := BoxL.new (wr) [.string y.nm, .slice B1 m1 d1] 165
      have al1 := (Below.refl ((wr).alloc (.cells #[.string y.nm, .slice B1 m1 d1] 165)).heap.size ((wr).alloc (.cells #[.string y.nm, .slice B1 m1 d1] 165))).alloc (Nat.le_refl _) (.cells #[.string y.nm, .slice none 0 0] 165)
      have X1 := BoxL.new ((wr).alloc (.cells #[.string y.nm, .slice B1 m1 d1] 165)) [.string y.nm, .slice none 0 0] 165
      go_wp2_with fail
      obtain ⟨V, hV⟩ : ∃ V, V = ((wr).alloc (.cells #[.string y.nm, .slice B1 m1 d1] 165)).alloc (.cells #[.string y.nm, .slice none 0 0] 165) := ⟨_, rfl⟩
      have BS : BoxL V wr.heap.size [.string y.nm, .slice B1 m1 d1] := by rw [hV]; exact X0.keep al1
      have BX : BoxL V (wr.heap.size + 1) [.string y.nm, .slice none 0 0] := by rw [hV]; simpa using X1
      have alV : Below wr.heap.size wr V := by rw [hV]; exact bthen al0 al1
      rw [← hV]
      clear X0 X1 al0 al1 hV
      obtain ⟨gs, hgs⟩ : ∃ g, wr.heap.size = g := ⟨_, rfl⟩
      have HGS := Lib.hid hgs
      simp only [hgs] at BS BX ⊢
      clear hgs
      obtain ⟨gx, hgx⟩ : ∃ g, gs + 1 = g := ⟨_, rfl⟩
      have HGX := Lib.hid hgx
      simp only [hgx] at BX ⊢
      have hsx : gs < gx := by omega
      clear hgx
      have hgs1 : gs = wr.heap.size := HGS.out.symm
      have hzx : wr.heap.size ≤ gs := by omega
      clear hgs1
      have BP' := BP.keep alV; have BR' := BR.keep alV; have BO' := BO.keep alV; have RO' := RO.keep cstK alV; have hB' := bthen hB alV
      have y2 := y1.keep snpK alV
      have hVz := alV.size
      have hbw : b < wr.heap.size := bl
      have hxV := BX.lt
      clear BP BR BO RO hB p0 pl f0 f1 k1 bl
      go_loopw [23] (fun i wq => ∃ (j : Nat) (Q : Option Addr) (cq : Nat) (fq : List Nat), j ≤ m1 ∧ i = .int .i64 j ∧ BoxL wq gx [.string y.nm, .slice Q j cq] ∧ RowO snpF 195 3 fq wq Q j cq (y.snaps.take j) ∧ fq.Nodup ∧ (∀ b ∈ fq, V.heap.size ≤ b) ∧ Ch (fun b => b = gx ∨ V.heap.size ≤ b) V wq ∧ V.heap.size ≤ wq.heap.size) (fun i _ => m1 - (intOf i).toNat)
      case atStart => exact ⟨0, none, 0, [], Nat.zero_le _, rfl, BX, by rw [List.take_zero]; exact RowO.nil, List.nodup_nil, (fun b hb => by cases hb), Ch.refl _, Nat.le_refl _⟩
      case round =>
        clear BX
        obtain ⟨j, Q, cq, fq, hj, rfl, BX, RQ, hNQ, hFQ, hCh, hzq⟩ := hrel
        obtain ⟨wq, hwq⟩ := Ch.nam hCh; subst hwq
        have hBq : Below w.heap.size w wq := hCh.belowB hB' (by have := hB'.size; omega) (fun b hb => by have := HG.out; rcases hb with hb | hb <;> omega)
        have nP : ∀ t : Nat, t < g + 3 → ¬ (t = gx ∨ V.heap.size ≤ t) := fun t ht => by omega
        have BPq := BP'.ch hCh (nP _ (by omega)); have BRq := BR'.ch hCh (nP _ (by omega)); have BOq := BO'.ch hCh (nP _ (by omega))
        have BSq := BS.ch hCh (by omega)
        by_cases hltj : j < m1
        · skip
          have yq : RowR snpR 3 wq B1 m1 d1 y.snaps := y1.keep snpK (alV.trans (hCh.below (B := wr.heap.size) (fun b hb => by rcases hb with hb | hb <;> omega) (by omega)))
          have s0 := BSq.cell 0 _ rfl; have s1 := BSq.cell 1 _ rfl; have sl := BSq.lt
          obtain ⟨sb, so, rfl⟩ := yq.head (by omega)
          obtain ⟨sbl, v, cs2, hv, ⟨E1, em, ed, rfl, v1⟩, hcellv⟩ := yq.elem_at hltj
          have hvW := bounds_el hyW.2 hv
          have t0 : wq.cell? ⟨sb, so + j * 3, none⟩ = some (.string v.nm) := hcellv 0 _ rfl
          have t1 : wq.cell? ⟨sb, so + j * 3 + 1, none⟩ = some (.string v.tg) := hcellv 1 _ rfl
          have t2 : wq.cell? ⟨sb, so + j * 3 + 2, none⟩ = some (.slice E1 em ed) := hcellv 2 _ rfl
          have HTV := Lib.hid (take_more hv)
          have HE := Lib.hid v1.len
          have hem : em ≤ 1000 := by have := v1.len; omega
          have hRQl := RQ.lt snpK
          clear hcellv hv
          have aly := (Below.refl wq.heap.size wq).alloc (Nat.le_refl _) (.cells #[.string v.nm, .string v.tg, .slice E1 em ed] 195)
          have BY := BoxL.new wq [.string v.nm, .string v.tg, .slice E1 em ed] 195
          go_wp2_with fail
          obtain ⟨Y, hY⟩ : ∃ V, V = wq.alloc (.cells #[.string v.nm, .string v.tg, .slice E1 em ed] 195) := ⟨_, rfl⟩
          rw [← hY] at aly BY ⊢
          obtain ⟨gy, hgy⟩ : ∃ g, wq.heap.size = g := ⟨_, rfl⟩
          have HGY := Lib.hid hgy
          simp only [hgy] at BY ⊢
          have hzy : wq.heap.size ≤ gy := by omega
          clear hY hgy
          have vY := v1.keep aly
          have BX2 := BX.keep aly; have RQ2 := RQ.keep snpK aly
          have hChY := hCh.trans (Ch.of_below (S := fun b => b = gx ∨ V.heap.size ≤ b) aly)
          have hYl := aly.size
          clear t0 t1 t2 s0 s1 sl BX RQ v1
          obtain ⟨css, fps, rfl, own, hlQ, EQ⟩ := RQ2.ex
          have HLQ := Lib.hid hlQ; clear hlQ
          have hyl := BY.lt; have hxl := BX2.lt
          have hgxy : gx < gy := by omega
          have hNQ2 : (blkL Q ++ fps.flatten).Nodup := hNQ
          have hlt2 : ∀ b ∈ blkL Q ++ fps.flatten, b < wq.heap.size := hRQl
          have hge2 : ∀ b ∈ blkL Q ++ fps.flatten, V.heap.size ≤ b := hFQ
          refine wp_region_dagb [27, 28, 29, 30, 31, 32, 33, 34, 35, 36, 37, 38, 39] (by kernel_rfl) (by kernel_rfl) (fun D vs w' => ∃ v27 v28 v29 v30 v31 v32 v33 v34 v35 v36 v37 v38 v39 : Value, vs = [v27, v28, v29, v30, v31, v32, v33, v34, v35, v36, v37, v38, v39] ∧ (D 11 = false → Below Y.heap.size Y w') ∧ Ch (fun b => b = gx ∨ V.heap.size ≤ b) V w' ∧ Y.heap.size ≤ w'.heap.size ∧ (D 13 = false → BoxL w' gx [.string y.nm, .slice Q j cq]) ∧ BoxL w' gy [.string v.nm, .string v.tg, .slice E1 em ed] ∧ (D 11 = false → w'.ownsRow 0 195 3 (.slice Q j cq) j css.flatten) ∧ (D 11 = false → Els snpF w' css fps (y.snaps.take j)) ∧ (D 0 = true → v27 = .pointer (some ⟨gx, 1, none⟩)) ∧ (D 1 = true → v28 = .slice Q j cq) ∧ (D 2 = true → v29 = .pointer (some ⟨gy, 0, none⟩)) ∧ (D 3 = true → v30 = .string v.nm) ∧ (D 4 = true → v31 = .pointer (some ⟨gy, 1, none⟩)) ∧ (D 5 = true → v32 = .string v.tg) ∧ (D 6 = true → v33 = .pointer (some ⟨gy, 2, none⟩)) ∧ (D 7 = true → v34 = .slice E1 em ed) ∧ (D 8 = true → (D 9 = false → ∃ (E2 : Option Addr) (ed2 : Nat) (f2 : List Nat), v35 = .slice E2 em ed2 ∧ f2.Nodup ∧ (∀ b ∈ f2, Y.heap.size ≤ b ∧ b < w'.heap.size) ∧ StrO f2 w' E2 em ed2 v.ch)) ∧ (D 9 = true → (D 10 = false → ∃ (E2 : Option Addr) (ed2 : Nat) (f2 : List Nat), v36 = .agg #[.string v.nm, .string v.tg, .slice E2 em ed2] ∧ f2.Nodup ∧ (∀ b ∈ f2, Y.heap.size ≤ b ∧ b < w'.heap.size) ∧ StrO f2 w' E2 em ed2 v.ch)) ∧ (D 10 = true → (D 11 = false → ∃ (gb : Nat) (E2 : Option Addr) (ed2 : Nat) (f2 : List Nat), v37 = .slice (some ⟨gb, 0, none⟩) 1 1 ∧ CellsAt w' (some ⟨gb, 0, none⟩) 1 3 [.string v.nm, .string v.tg, .slice E2 em ed2] ∧ f2.Nodup ∧ (∀ b ∈ f2, Y.heap.size ≤ b ∧ b < w'.heap.size) ∧ StrO f2 w' E2 em ed2 v.ch)) ∧ (D 11 = true → (D 13 = false → ∃ (A' : Option Addr) (c' : Nat) (fp' : List Nat), v38 = .slice A' (j + 1) c' ∧ RowO snpF 195 3 fp' w' A' (j + 1) c' (y.snaps.take j ++ [v]) ∧ fp'.Nodup ∧ ∀ b ∈ fp', V.heap.size ≤ b)) ∧ (D 12 = true → v39 = .pointer (some ⟨gx, 1, none⟩)) ∧ (D 13 = true → ∃ (A' : Option Addr) (c' : Nat) (fp' : List Nat), BoxL w' gx [.string y.nm, .slice A' (j + 1) c'] ∧ RowO snpF 195 3 fp' w' A' (j + 1) c' (y.snaps.take j ++ [v]) ∧ fp'.Nodup ∧ ∀ b ∈ fp', V.heap.size ≤ b))
            ⟨_, _, _, _, _, _, _, _, _, _, _, _, _, rfl, (fun _ => (Below.refl _ _).drew), (hChY.trans (Ch.of_below (S := (fun b => b = gx ∨ V.heap.size ≤ b)) (Below.refl _ _).drew)), (by simp), (fun _ => BX2.keep (Below.refl _ _).drew), (BY.keep (Below.refl _ _).drew), (fun _ => own_chL own (Ch.of_below (S := fun _ => False) (Below.refl _ _).drew) (fun _ _ h => h)), (fun _ => EQ.keep snpK (Below.refl _ _).drew), (fun h => by cases h), (fun h => by cases h), (fun h => by cases h), (fun h => by cases h), (fun h => by cases h), (fun h => by cases h), (fun h => by cases h), (fun h => by cases h), (fun h => by cases h), (fun h => by cases h), (fun h => by cases h), (fun h => by cases h), (fun h => by cases h), (fun h => by cases h)⟩ ?_ ?_
          · intro i D vs w' hi hD hdep hcl hI
            have hi' : i < 14 := hi
            obtain ⟨v27, v28, v29, v30, v31, v32, v33, v34, v35, v36, v37, v38, v39, rfl, hb, hC, hzz, hX, hYb, hown, hE, k0, k1, k2, k3, k4, k5, k6, k7, k8, k9, k10, k11, k12, k13⟩ := hI
            simp only [putAll, List.setIfInBounds_toArray, List.set_cons_succ, List.set_cons_zero]
            rcases (show i = 0 ∨ i = 1 ∨ i = 2 ∨ i = 3 ∨ i = 4 ∨ i = 5 ∨ i = 6 ∨ i = 7 ∨ i = 8 ∨ i = 9 ∨ i = 10 ∨ i = 11 ∨ i = 12 ∨ i = 13 by omega) with rfl | rfl | rfl | rfl | rfl | rfl | rfl | rfl | rfl | rfl | rfl | rfl | rfl | rfl
            · refine wpOp_step (by simp only [List.getElem?_toArray, List.getElem?_cons_zero]; rfl) (fun K hK => ?_)
              go_simp
              refine hK _ _ ⟨[.pointer (some ⟨gx, 1, none⟩), v28, v29, v30, v31, v32, v33, v34, v35, v36, v37, v38, v39], ?_, _, _, _, _, _, _, _, _, _, _, _, _, _, rfl, hb, hC, hzz, hX, hYb, hown, hE, (fun _ => rfl), k1, k2, k3, k4, k5, k6, k7, k8, k9, k10, k11, k12, k13⟩
              simp only [putAll, List.setIfInBounds_toArray, List.set_cons_succ, List.set_cons_zero] <;> rfl
            · have e0 := k0 (hdep 0 (by kernel_rfl))
              subst e0
              have n13 : D 13 = false := Bool.eq_false_iff.2 (fun h => absurd (hcl 11 1 (hcl 13 11 h (by kernel_rfl)) (by kernel_rfl)) (by rw [hD]; simp))
              have q7 := (hX n13).cell 1 _ rfl
              refine wpOp_step (by simp only [List.getElem?_toArray, List.getElem?_cons_succ, List.getElem?_cons_zero]; rfl) (fun K hK => ?_)
              go_simp
              refine hK _ _ ⟨[.pointer (some ⟨gx, 1, none⟩), .slice Q j cq, v29, v30, v31, v32, v33, v34, v35, v36, v37, v38, v39], ?_, _, _, _, _, _, _, _, _, _, _, _, _, _, rfl, hb, hC, hzz, hX, hYb, hown, hE, (fun _ => rfl), (fun _ => rfl), k2, k3, k4, k5, k6, k7, k8, k9, k10, k11, k12, k13⟩
              simp only [putAll, List.setIfInBounds_toArray, List.set_cons_succ, List.set_cons_zero] <;> rfl
            · refine wpOp_step (by simp only [List.getElem?_toArray, List.getElem?_cons_succ, List.getElem?_cons_zero]; rfl) (fun K hK => ?_)
              go_simp
              refine hK _ _ ⟨[v27, v28, .pointer (some ⟨gy, 0, none⟩), v30, v31, v32, v33, v34, v35, v36, v37, v38, v39], ?_, _, _, _, _, _, _, _, _, _, _, _, _, _, rfl, hb, hC, hzz, hX, hYb, hown, hE, k0, k1, (fun _ => rfl), k3, k4, k5, k6, k7, k8, k9, k10, k11, k12, k13⟩
              simp only [putAll, List.setIfInBounds_toArray, List.set_cons_succ, List.set_cons_zero] <;> rfl
            · have e2 := k2 (hdep 2 (by kernel_rfl))
              subst e2
              have q7 := hYb.cell 0 _ rfl
              refine wpOp_step (by simp only [List.getElem?_toArray, List.getElem?_cons_succ, List.getElem?_cons_zero]; rfl) (fun K hK => ?_)
              go_simp
              refine hK _ _ ⟨[v27, v28, .pointer (some ⟨gy, 0, none⟩), .string v.nm, v31, v32, v33, v34, v35, v36, v37, v38, v39], ?_, _, _, _, _, _, _, _, _, _, _, _, _, _, rfl, hb, hC, hzz, hX, hYb, hown, hE, k0, k1, (fun _ => rfl), (fun _ => rfl), k4, k5, k6, k7, k8, k9, k10, k11, k12, k13⟩
              simp only [putAll, List.setIfInBounds_toArray, List.set_cons_succ, List.set_cons_zero] <;> rfl
            · refine wpOp_step (by simp only [List.getElem?_toArray, List.getElem?_cons_succ, List.getElem?_cons_zero]; rfl) (fun K hK => ?_)
              go_simp
              refine hK _ _ ⟨[v27, v28, v29, v30, .pointer (some ⟨gy, 1, none⟩), v32, v33, v34, v35, v36, v37, v38, v39], ?_, _, _, _, _, _, _, _, _, _, _, _, _, _, rfl, hb, hC, hzz, hX, hYb, hown, hE, k0, k1, k2, k3, (fun _ => rfl), k5, k6, k7, k8, k9, k10, k11, k12, k13⟩
              simp only [putAll, List.setIfInBounds_toArray, List.set_cons_succ, List.set_cons_zero] <;> rfl
            · have e4 := k4 (hdep 4 (by kernel_rfl))
              subst e4
              have q7 := hYb.cell 1 _ rfl
              refine wpOp_step (by simp only [List.getElem?_toArray, List.getElem?_cons_succ, List.getElem?_cons_zero]; rfl) (fun K hK => ?_)
              go_simp
              refine hK _ _ ⟨[v27, v28, v29, v30, .pointer (some ⟨gy, 1, none⟩), .string v.tg, v33, v34, v35, v36, v37, v38, v39], ?_, _, _, _, _, _, _, _, _, _, _, _, _, _, rfl, hb, hC, hzz, hX, hYb, hown, hE, k0, k1, k2, k3, (fun _ => rfl), (fun _ => rfl), k6, k7, k8, k9, k10, k11, k12, k13⟩
              simp only [putAll, List.setIfInBounds_toArray, List.set_cons_succ, List.set_cons_zero] <;> rfl
            · refine wpOp_step (by simp only [List.getElem?_toArray, List.getElem?_cons_succ, List.getElem?_cons_zero]; rfl) (fun K hK => ?_)
              go_simp
              refine hK _ _ ⟨[v27, v28, v29, v30, v31, v32, .pointer (some ⟨gy, 2, none⟩), v34, v35, v36, v37, v38, v39], ?_, _, _, _, _, _, _, _, _, _, _, _, _, _, rfl, hb, hC, hzz, hX, hYb, hown, hE, k0, k1, k2, k3, k4, k5, (fun _ => rfl), k7, k8, k9, k10, k11, k12, k13⟩
              simp only [putAll, List.setIfInBounds_toArray, List.set_cons_succ, List.set_cons_zero] <;> rfl
            · have e6 := k6 (hdep 6 (by kernel_rfl))
              subst e6
              have q7 := hYb.cell 2 _ rfl
              refine wpOp_step (by simp only [List.getElem?_toArray, List.getElem?_cons_succ, List.getElem?_cons_zero]; rfl) (fun K hK => ?_)
              go_simp
              refine hK _ _ ⟨[v27, v28, v29, v30, v31, v32, .pointer (some ⟨gy, 2, none⟩), .slice E1 em ed, v35, v36, v37, v38, v39], ?_, _, _, _, _, _, _, _, _, _, _, _, _, _, rfl, hb, hC, hzz, hX, hYb, hown, hE, k0, k1, k2, k3, k4, k5, (fun _ => rfl), (fun _ => rfl), k8, k9, k10, k11, k12, k13⟩
              simp only [putAll, List.setIfInBounds_toArray, List.set_cons_succ, List.set_cons_zero] <;> rfl
            · have e7 := k7 (hdep 7 (by kernel_rfl))
              subst e7
              have n9 : D 9 = false := Bool.eq_false_iff.2 (fun h => absurd (hcl 9 8 h (by kernel_rfl)) (by rw [hD]; simp))
              have n10 : D 10 = false := Bool.eq_false_iff.2 (fun h => absurd (hcl 9 8 (hcl 10 9 h (by kernel_rfl)) (by kernel_rfl)) (by rw [hD]; simp))
              have n11 : D 11 = false := Bool.eq_false_iff.2 (fun h => absurd (hcl 9 8 (hcl 10 9 (hcl 11 10 h (by kernel_rfl)) (by kernel_rfl)) (by kernel_rfl)) (by rw [hD]; simp))
              have n13 : D 13 = false := Bool.eq_false_iff.2 (fun h => absurd (hcl 9 8 (hcl 10 9 (hcl 11 10 (hcl 13 11 h (by kernel_rfl)) (by kernel_rfl)) (by kernel_rfl)) (by kernel_rfl)) (by rw [hD]; simp))
              refine wpOp_step (by simp only [List.getElem?_toArray, List.getElem?_cons_succ, List.getElem?_cons_zero]; rfl) (fun K hK => ?_)
              go_simp
              refine (copyTextsT E1 em ed v.ch _ (vY.keep (hb n11)).at_r' vY.nilcap (by omega)).mono ?_
              rintro e w4_ ⟨E2, ed2, rfl, hin, hb4⟩
              obtain ⟨f2, hn2, hf2, so2⟩ := strO_in hin
              refine hK _ _ ⟨[v27, v28, v29, v30, v31, v32, v33, .slice E1 em ed, .slice E2 em ed2, v36, v37, v38, v39], ?_, _, _, _, _, _, _, _, _, _, _, _, _, _, rfl, (fun h' => bthen (hb h') hb4), (hC.trans (Ch.of_below hb4)), (Nat.le_trans hzz hb4.size), (fun h' => (hX h').keep hb4), (hYb.keep hb4), (fun h' => own_chL (hown h') (Ch.of_below (S := fun _ => False) hb4) (fun _ _ h => h)), (fun h' => (hE h').keep snpK hb4), k0, k1, k2, k3, k4, k5, k6, (fun _ => rfl), (fun _ _ => ⟨E2, ed2, f2, rfl, hn2, fun b hb => ⟨by have := (hf2 b hb).1; omega, (hf2 b hb).2⟩, so2⟩), (fun h => by rw [show D 9 = true from by simpa using h] at n9; cases n9), (fun h => by rw [show D 10 = true from by simpa using h] at n10; cases n10), (fun h => by rw [show D 11 = true from by simpa using h] at n11; cases n11), k12, (fun h => by rw [show D 13 = true from by simpa using h] at n13; cases n13)⟩
              simp only [putAll, List.setIfInBounds_toArray, List.set_cons_succ, List.set_cons_zero] <;> rfl
            · have e3 := k3 (hdep 3 (by kernel_rfl))
              subst e3
              have e5 := k5 (hdep 5 (by kernel_rfl))
              subst e5
              obtain z8 := k8 (hdep 8 (by kernel_rfl))
              obtain ⟨E2, ed2, f2, rfl, hn2, hf2, so2⟩ := z8 hD
              refine wpOp_step (by simp only [List.getElem?_toArray, List.getElem?_cons_succ, List.getElem?_cons_zero]; rfl) (fun K hK => ?_)
              go_simp
              refine hK _ _ ⟨[v27, v28, v29, .string v.nm, v31, .string v.tg, v33, v34, .slice E2 em ed2, .agg #[.string v.nm, .string v.tg, .slice E2 em ed2], v37, v38, v39], ?_, _, _, _, _, _, _, _, _, _, _, _, _, _, rfl, hb, hC, hzz, hX, hYb, hown, hE, k0, k1, k2, (fun _ => rfl), k4, (fun _ => rfl), k6, k7, (fun _ h => absurd h (by simp)), (fun _ _ => ⟨E2, ed2, f2, rfl, hn2, hf2, so2⟩), k10, k11, k12, k13⟩
              simp only [putAll, List.setIfInBounds_toArray, List.set_cons_succ, List.set_cons_zero] <;> rfl
            · obtain z9 := k9 (hdep 9 (by kernel_rfl))
              have n11 : D 11 = false := Bool.eq_false_iff.2 (fun h => absurd (hcl 11 10 h (by kernel_rfl)) (by rw [hD]; simp))
              have n13 : D 13 = false := Bool.eq_false_iff.2 (fun h => absurd (hcl 11 10 (hcl 13 11 h (by kernel_rfl)) (by kernel_rfl)) (by rw [hD]; simp))
              obtain ⟨E2, ed2, f2, rfl, hn2, hf2, so2⟩ := z9 hD
              have hal := (Below.refl w'.heap.size w').alloc (Nat.le_refl _) (.cells #[.string v.nm, .string v.tg, .slice E2 em ed2] 195)
              refine wpOp_step (by simp only [List.getElem?_toArray, List.getElem?_cons_succ, List.getElem?_cons_zero]; rfl) (fun K hK => ?_)
              go_simp
              refine hK _ _ ⟨[v27, v28, v29, v30, v31, v32, v33, v34, v35, .agg #[.string v.nm, .string v.tg, .slice E2 em ed2], .slice (some ⟨w'.heap.size, 0, none⟩) 1 1, v38, v39], ?_, _, _, _, _, _, _, _, _, _, _, _, _, _, rfl, (fun h' => bthen (hb h') hal), (hC.trans (Ch.of_below hal)), (Nat.le_trans hzz hal.size), (fun h' => (hX h').keep hal), (hYb.keep hal), (fun h' => own_chL (hown h') (Ch.of_below (S := fun _ => False) hal) (fun _ _ h => h)), (fun h' => (hE h').keep snpK hal), k0, k1, k2, k3, k4, k5, k6, k7, (fun _ h => by have d9 := hdep 9 (by kernel_rfl); rw [show D 9 = false from by simpa using h] at d9; cases d9), (fun _ h => absurd h (by simp)), (fun _ _ => ⟨_, E2, ed2, f2, rfl, new1c _ [.string v.nm, .string v.tg, .slice E2 em ed2] 3 rfl _, hn2, fun b hb => ⟨(hf2 b hb).1, Nat.lt_of_lt_of_le (hf2 b hb).2 hal.size⟩, so2.keep hal⟩), (fun h => by rw [show D 11 = true from by simpa using h] at n11; cases n11), k12, (fun h => by rw [show D 13 = true from by simpa using h] at n13; cases n13)⟩
              simp only [putAll, List.setIfInBounds_toArray, List.set_cons_succ, List.set_cons_zero] <;> rfl
            · have e1 := k1 (hdep 1 (by kernel_rfl))
              subst e1
              obtain z10 := k10 (hdep 10 (by kernel_rfl))
              have n13 : D 13 = false := Bool.eq_false_iff.2 (fun h => absurd (hcl 13 11 h (by kernel_rfl)) (by rw [hD]; simp))
              obtain ⟨gb, E2, ed2, f2, rfl, hcl4, hn2, hf2, so2⟩ := z10 hD
              refine wpOp_step (by simp only [List.getElem?_toArray, List.getElem?_cons_succ, List.getElem?_cons_zero]; rfl) (fun K hK => ?_)
              refine step_app (by rfl) (.tmp 28) (.tmp 37) 163 (by rfl) 0 195 _ 3 56 Tryz.underlying163 snpInfo rfl (by omega) (.slice Q j cq) j css.flatten (by rfl) (hown hD) (some ⟨gb, 0, none⟩) 1 1 [.string v.nm, .string v.tg, .slice E2 em ed2] (by rfl) hcl4 (by simp [Value.oneCell']) (fun h => by cases h) (by unfold maxLen; omega) (by omega) (Nat.zero_le _) ?_
              intro A' c' wq2 own5 hg5 hb5 hob5
              have hNN : ((blkL Q ++ fps.flatten) ++ f2).Nodup := nodup_new (m := Y.heap.size) hNQ2 hn2 (fun x hx => by have := hlt2 x hx; omega) (fun x hx => (hf2 x hx).1)
              obtain ⟨fp', RO5, hN5, hF5, hc5⟩ := row_app1 (x := v) snpK HLQ.out (hE hD) (snpF_of so2) hNN own5 hg5 hob5 (Nat.le_refl _)
              have hq5 : ∀ b ∈ blkL Q, V.heap.size ≤ b ∧ b < wq.heap.size := fun b hb => ⟨hge2 b (List.mem_append_left _ hb), hlt2 b (List.mem_append_left _ hb)⟩
              refine hK _ _ ⟨[v27, .slice Q j cq, v29, v30, v31, v32, v33, v34, v35, v36, .slice (some ⟨gb, 0, none⟩) 1 1, .slice A' (j + 1) c', v39], ?_, _, _, _, _, _, _, _, _, _, _, _, _, _, rfl, (fun h => absurd h (by simp)), (hC.trans (hc5.mono (fun b hb => .inr (hq5 b hb).1))), (Nat.le_trans hzz hc5.size), (fun h' => (hX h').ch hc5 (fun hb => by have := (hq5 _ hb).1; omega)), (hYb.ch hc5 (fun hb => by have := (hq5 _ hb).2; omega)), (fun h => absurd h (by simp)), (fun h => absurd h (by simp)), k0, (fun _ => rfl), k2, k3, k4, k5, k6, k7, (fun _ h => by have d9 := hcl 10 9 (hdep 10 (by kernel_rfl)) (by kernel_rfl); rw [show D 9 = false from by simpa using h] at d9; cases d9), (fun _ h => by have d10 := hdep 10 (by kernel_rfl); rw [show D 10 = false from by simpa using h] at d10; cases d10), (fun _ h => absurd h (by simp)), (fun _ _ => ⟨A', c', fp', rfl, RO5, hN5, fun b hb => by have h3 := hF5 b hb; have h4 := hge2 b; have h5 := hf2 b; rcases h3 with h1 | h1 | h1; (exact h4 h1); (have := (h5 h1).1; omega); omega⟩), k12, (fun h => by rw [show D 13 = true from by simpa using h] at n13; cases n13)⟩
              simp only [Act.put, putAll, List.setIfInBounds_toArray, List.set_cons_succ, List.set_cons_zero] <;> rfl
            · refine wpOp_step (by simp only [List.getElem?_toArray, List.getElem?_cons_succ, List.getElem?_cons_zero]; rfl) (fun K hK => ?_)
              go_simp
              refine hK _ _ ⟨[v27, v28, v29, v30, v31, v32, v33, v34, v35, v36, v37, v38, .pointer (some ⟨gx, 1, none⟩)], ?_, _, _, _, _, _, _, _, _, _, _, _, _, _, rfl, hb, hC, hzz, hX, hYb, hown, hE, k0, k1, k2, k3, k4, k5, k6, k7, k8, k9, k10, k11, (fun _ => rfl), k13⟩
              simp only [putAll, List.setIfInBounds_toArray, List.set_cons_succ, List.set_cons_zero] <;> rfl
            · obtain z11 := k11 (hdep 11 (by kernel_rfl))
              have e12 := k12 (hdep 12 (by kernel_rfl))
              subst e12
              obtain ⟨A', c', fp', rfl, RO5, hN5, hF5⟩ := z11 hD
              have hXn := hX hD
              have q7 := hXn.cell 1 _ rfl
              have y7 := hXn.fz 1 (by simp)
              have d11 : D 11 = true := hdep 11 (by kernel_rfl)
              have one : Ch (fun k => k = gx) w' (w'.setCell ⟨gx, 1, none⟩ (.slice A' (j + 1) c')) := Ch.set
              refine wpOp_step (by simp only [List.getElem?_toArray, List.getElem?_cons_succ, List.getElem?_cons_zero]; rfl) (fun K hK => ?_)
              go_simp
              refine hK _ _ ⟨[v27, v28, v29, v30, v31, v32, v33, v34, v35, v36, v37, .slice A' (j + 1) c', .pointer (some ⟨gx, 1, none⟩)], ?_, _, _, _, _, _, _, _, _, _, _, _, _, _, rfl, (fun h' => by rw [show D 11 = false from by simpa using h'] at d11; cases d11), (hC.trans (one.mono (fun b hb => .inl hb))), (Nat.le_trans hzz one.size), (fun h => absurd h (by simp)), (hYb.ch one (ne_blk (by omega))), (fun h' => by rw [show D 11 = false from by simpa using h'] at d11; cases d11), (fun h' => by rw [show D 11 = false from by simpa using h'] at d11; cases d11), k0, k1, k2, k3, k4, k5, k6, k7, (fun _ h => by have d9 := hcl 10 9 (hcl 11 10 d11 (by kernel_rfl)) (by kernel_rfl); rw [show D 9 = false from by simpa using h] at d9; cases d9), (fun _ h => by have d10 := hcl 11 10 d11 (by kernel_rfl); rw [show D 10 = false from by simpa using h] at d10; cases d10), (fun _ h => by rw [show D 11 = false from by simpa using h] at d11; cases d11), (fun _ h => absurd h (by simp)), (fun _ => rfl), (fun _ => ⟨A', c', fp', hXn.set (j := 1) (by simp), RO5.ch snpK one (fun b hb h2 => by have h2 : b = gx := h2; have := hF5 b hb; omega), hN5, hF5⟩)⟩
              simp only [putAll, List.setIfInBounds_toArray, List.set_cons_succ, List.set_cons_zero] <;> rfl
          · intro D vs w' hD hI
            obtain ⟨v27, v28, v29, v30, v31, v32, v33, v34, v35, v36, v37, v38, v39, rfl, hb, hC, hzz, hX, hYb, hown, hE, k0, k1, k2, k3, k4, k5, k6, k7, k8, k9, k10, k11, k12, k13⟩ := hI
            simp only [putAll, List.setIfInBounds_toArray, List.set_cons_succ, List.set_cons_zero]
            obtain ⟨A', c', fp', X6, RO6, hN6, hF6⟩ := k13 (hD 13 (show 13 < 14 by decide))
            clear hD hb hX hown hE
            go_wp2
            exact ⟨⟨j + 1, A', c', fp', by omega, by go_num, X6, by rw [HTV.out]; exact RO6, hN6, hF6, hC, by omega⟩, by simp [intOf]; omega⟩
        · skip
          have HJ := Lib.hid (show y.snaps.take j = y.snaps from List.take_of_length_le (by have := HM.out; omega))
          rw [HJ.out] at RQ
          have ROq := RO'.ch cstK hCh (fun b hb => by have := hRl b hb; omega)
          obtain ⟨css2, fps2, rfl, own2, hlP, E2⟩ := ROq.ex
          have HLP := Lib.hid hlP; clear hlP
          have x0 := BX.cell 0 _ rfl; have x1 := BX.cell 1 _ rfl; have xl := BX.lt
          have o0 := BOq.cell 0 _ rfl; have of0 := BOq.fz 0 (by simp); have ol := BOq.lt
          have iltq : ¬ ((j : Int) < (m1 : Int)) := by omega
          have hk5 : k ≤ 1000 := by omega
          go_wp2_with (first | (at_builtin; refine wpList_app1g (P := Tryz.prog) wq rfl (.tmp 42) (.tmp 44) 25 rfl 0 165 _ 2 40 Tryz.underlying25 cstInfo rfl (by omega) (.slice P k cp) _ _ rfl own2 #[.string y.nm, .slice Q j cq] _ rfl (by simp) rfl (by simp [Value.oneCell']) (by unfold maxLen; omega) (by omega) (Nat.zero_le _) ?_; intro A' c' w8 own8 hgr hb8 hob; refine stop_of ?_) | fail)
          have hge8 : ∀ b ∈ blkL P ++ fps2.flatten, W.heap.size ≤ b ∧ b < wr.heap.size := fun b hb => ⟨hFP b hb, hRl b hb⟩
          have hNN : ((blkL P ++ fps2.flatten) ++ fq).Nodup := nodup_new (m := V.heap.size) hND hNQ (fun x hx => by have := (hge8 x hx).2; omega) (fun x hx => hFQ x hx)
          obtain ⟨fp', RO8, hN8, hF8, hc8⟩ := row_app1 (x := y) cstK HLP.out E2 (cstF_of RQ) hNN own8 hgr hob (by omega)
          have hq8 : ∀ b ∈ blkL P, W.heap.size ≤ b := fun b hb => (hge8 b (List.mem_append_left _ hb)).1
          have BP8 := BPq.ch hc8 (fun hb => by have := hq8 _ hb; omega); have BR8 := BRq.ch hc8 (fun hb => by have := hq8 _ hb; omega); have BO8 := BOq.ch hc8 (fun hb => by have := hq8 _ hb; omega)
          have hB8 := hc8.belowB hBq (by have := hBq.size; omega) (fun b hb => by have := hq8 b hb; have := HG.out; omega)
          have hz8 := hc8.size
          clear own2 E2 own8 hgr hob o0 of0 ol x0 x1 xl BX ROq
          have o0 := BO8.cell 0 _ rfl; have of0 := BO8.fz 0 (by simp); have ol := BO8.lt
          unfold Stop
          go_wp2
          have d : Ch (fun k => k = g + 1 + 1) w8 (w8.setCell ⟨g + 1 + 1, 0, none⟩ (.slice A' (k + 1) c')) := Ch.set
          have hF9 : ∀ b ∈ fp', W.heap.size ≤ b := fun b hb => by
            rcases hF8 b hb with h1 | h1 | h1
            · exact (hge8 b h1).1
            · have := hFQ b h1; omega
            · omega
          have RO9 := RO8.ch cstK d (fun b hb h2 => by have h2 : b = g + 1 + 1 := h2; have := hF9 b hb; omega)
          have hdz := d.size
          refine ⟨⟨k + 1, A', c', fp', by omega, by go_num, BP8.ch d (ne_blk (by omega)), BR8.ch d (ne_blk (by omega)), by simpa using BO8.set (j := 0) (v := .slice A' (k + 1) c') (by simp), by rw [HT.out]; exact RO9, hN8, hF9, d.belowB hB8 (by have := hB8.size; omega) (fun b hb => by have hb : b = _ := hb; have := HG.out; omega), by omega⟩, by simp [intOf]; omega⟩
    · skip
      have hkn : k = n := by omega
      have HK := Lib.hid (show x.sets.take k = x.sets from List.take_of_length_le (by have := HL.out; omega))
      rw [HK.out] at RO
      have o0 := BO.cell 0 _ rfl; have ol := BO.lt; have r0 := BR.cell 0 _ rfl; have rf := BR.fz 0 (by simp); have rl := BR.lt; have p0 := BP.cell 0 _ rfl; have pl := BP.lt
      have ilt : ¬ ((k : Int) < (n : Int)) := by omega
      clear hkn
      have hWr : (wr.setCell ⟨g + 1, 0, none⟩ (.slice P k cp)).rangeAt (g + 1) 0 [.slice P k cp] := by have := (BR.set (j := 0) (v := .slice P k cp) (by simp)).range; simpa using this
      repeat (first | go_values | go_skip | go_guarded | go_step | go_upon | (simp only []; go_at_K))
      try simp only [Exit.inBlock, Exit.then]
      refine bodyPost_ret (results_cell1 Tryz.results168 rfl hWr Tryz.underlying27 rfl sizeCat0) rfl ?_
      have d : Ch (fun t => t = g + 1) wr (wr.setCell ⟨g + 1, 0, none⟩ (.slice P k cp)) := Ch.set
      have RO9 := RO.ch cstK d (fun b hb h2 => by have h2 : b = g + 1 := h2; have := hFP b hb; omega)
      exact ⟨⟨P, k, cp, fp, rfl, RO9, hND, fun b hb => ⟨by have := hFP b hb; have := HG.out; omega, RO9.lt cstK b hb⟩⟩, d.belowB hB (by have := hB.size; omega) (fun b hb => by have hb : b = _ := hb; have := HG.out; omega)⟩
end Go.Proofs.YtdphdnllhmnelaaGreat
