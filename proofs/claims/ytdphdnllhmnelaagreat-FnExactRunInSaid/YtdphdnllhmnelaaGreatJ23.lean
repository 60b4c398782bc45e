/- Contracts and lemmas: Mix, KSaid, KState, CopyCatS. -/
import Derived.Test.YtdphdnllhmnelaaGreatJ13
import Derived.Deep.RegionHeld3
import Derived.StillTailTactics
import Derived.BigQuiet
import Derived.Deep.QuietTactic
import Derived.Test.YtdphdnllhmnelaaGreatJ14
import Derived.Test.YtdphdnllhmnelaaGreatJ7
import Derived.Test.YtdphdnllhmnelaaGreatJ4
import Derived.Test.YtdphdnllhmnelaaGreatJ5
/- Rows whose cells are the call's own and whose elements are read; a row that is read, as cells. -/
namespace Go.Proofs.YtdphdnllhmnelaaGreat
open Go.RowKit
def ElsR {α : Type} (R : World → List Value → α → Prop) (w : World) (css : List (List Value)) (l : List α) : Prop := css.length = l.length ∧ ∀ (i : Nat) (x : α), l[i]? = some x → ∃ cs, css[i]? = some cs ∧ R w cs x
section
variable {α : Type} {R : World → List Value → α → Prop} {F : List Nat → World → List Value → α → Prop} {e sz n c base : Nat} {w w' : World} {css : List (List Value)} {A : Option Addr} {l : List α} {cs : List Value} {x : α}
theorem ElsR.nil : ElsR R w [] ([] : List α) := ⟨rfl, fun i x h => by simp at h⟩
theorem ElsR.snoc (h : ElsR R w css l) (hx : R w cs x) : ElsR R w (css ++ [cs]) (l ++ [x]) := by
  refine ⟨by simp [h.1], fun i y hy => ?_⟩
  have hlen := h.1
  rw [List.getElem?_append] at hy ⊢
  by_cases hi : i < l.length
  · rw [if_pos hi] at hy
    rw [if_pos (by omega)]
    exact h.2 i y hy
  · rw [if_neg hi] at hy
    rw [if_neg (by omega)]
    have : i - l.length = 0 := by
      rcases Nat.eq_zero_or_pos (i - l.length) with h0 | h0
      · exact h0
      · rw [List.getElem?_eq_none (by simp only [List.length_singleton]; omega)] at hy; cases hy
    rw [this] at hy
    simp at hy
    subst hy
    exact ⟨cs, by rw [hlen, this]; rfl, hx⟩
theorem ElsR.keep (K : KindOk R F sz) (h : ElsR R w css l) (hb : Below w.heap.size w w') : ElsR R w' css l := ⟨h.1, fun i x hx => by
  obtain ⟨cs, h1, h2⟩ := h.2 i x hx
  exact ⟨cs, h1, K.rkeep h2 hb⟩⟩
theorem ElsR.clen (K : KindOk R F sz) (h : ElsR R w css l) : ∀ cs ∈ css, cs.length = sz := by
  intro cs hc
  obtain ⟨i, hi, rfl⟩ := List.getElem_of_mem hc
  have hil : i < l.length := by have := h.1; omega
  obtain ⟨cs', h1, h2⟩ := h.2 i l[i] (List.getElem?_eq_getElem hil)
  rw [List.getElem?_eq_getElem hi] at h1
  obtain rfl := Option.some.inj h1
  exact K.rlen h2
theorem ElsR.ones (K : KindOk R F sz) (h : ElsR R w css l) : ∀ v ∈ css.flatten, v.oneCell' = true := by
  intro v hv
  obtain ⟨cs, hc, hv⟩ := List.mem_flatten.1 hv
  obtain ⟨i, hi, rfl⟩ := List.getElem_of_mem hc
  have hil : i < l.length := by have := h.1; omega
  obtain ⟨cs', h1, h2⟩ := h.2 i l[i] (List.getElem?_eq_getElem hil)
  rw [List.getElem?_eq_getElem hi] at h1
  obtain rfl := Option.some.inj h1
  exact K.one h2 v hv
/-- a row that is the call's own at its top reads as a row -/
theorem RowR.of_els (K : KindOk R F sz) (h0 : 0 < sz) (ho : w.ownsRow base e sz (.slice A n c) n css.flatten) (hl : n = l.length) (hE : ElsR R w css l) : RowR R sz w A n c l := by
  refine ⟨⟨hl, fun hn => ?_⟩, own_none ho⟩
  rcases own_form ho with ⟨_, h0, _⟩ | ⟨g, rfl, _, hg⟩
  · omega
  · refine ⟨g, 0, rfl, hg, fun i x hx => ?_⟩
    obtain ⟨cs, h1, h3⟩ := hE.2 i x hx
    refine ⟨cs, h3, K.rlen h3, fun j u hu => ?_⟩
    have hj : j < sz := by rw [← K.rlen h3]; exact (List.getElem?_eq_some_iff.1 hu).1
    have hc := ho.cells (g := g) rfl (i * sz + j) u (by rw [flat_get (hE.clen K) h1 hj]; exact hu)
    rw [Addr.add_lit] at hc
    simpa using hc
/-- a row that is read: its cells -/
theorem RowR.cells (K : KindOk R F sz) (h0 : 0 < sz) (h : RowR R sz w A n c l) : ∃ css, CellsAt w A n sz css.flatten ∧ ElsR R w css l := by
  by_cases hn : n = 0
  · subst hn
    have hl : l = [] := List.eq_nil_of_length_eq_zero (by have := h.len; omega)
    subst hl
    exact ⟨[], ⟨by simp, fun h => absurd h (by omega)⟩, ElsR.nil⟩
  have hlen := h.len
  obtain ⟨b, off, rfl, hlt, hc⟩ := h.1.2 (by omega)
  have hex : ∀ i : Fin l.length, ∃ cs, R w cs l[i] ∧ cs.length = sz ∧ ∀ j u, cs[j]? = some u → w.cell? ⟨b, off + i * sz + j, none⟩ = some u := fun i => hc i l[i] (List.getElem?_eq_getElem i.2)
  have hE : ElsR R w (List.ofFn (fun i => Classical.choose (hex i))) l := by
    refine ⟨by simp, fun i x hx => ?_⟩
    have hi : i < l.length := (List.getElem?_eq_some_iff.1 hx).1
    obtain ⟨h1, _, _⟩ := Classical.choose_spec (hex ⟨i, hi⟩)
    refine ⟨_, by rw [List.getElem?_ofFn, dif_pos hi], ?_⟩
    have : l[i] = x := (List.getElem?_eq_some_iff.1 hx).2
    rw [← this]
    exact h1
  refine ⟨_, ⟨by rw [flat_len (hE.clen K), hE.1, hlen], fun _ => ⟨b, off, rfl, fun t u hu => ?_⟩⟩, hE⟩
  have ht : t < (List.ofFn (fun i => Classical.choose (hex i))).flatten.length := (List.getElem?_eq_some_iff.1 hu).1
  rw [flat_len (hE.clen K), hE.1] at ht
  have hdiv : t / sz < l.length := (Nat.div_lt_iff_lt_mul h0).2 ht
  have hmod : t % sz < sz := Nat.mod_lt _ h0
  have hsplit : t / sz * sz + t % sz = t := by have := Nat.div_add_mod t sz; rw [Nat.mul_comm]; exact this
  obtain ⟨_, _, h3⟩ := Classical.choose_spec (hex ⟨t / sz, hdiv⟩)
  have := flat_get (hE.clen K) (i := t / sz) (cs := Classical.choose (hex ⟨t / sz, hdiv⟩)) (by rw [List.getElem?_ofFn, dif_pos hdiv]) hmod
  rw [hsplit] at this
  have h4 := h3 (t % sz) u (by rw [← this]; exact hu)
  have h5 : off + t / sz * sz + t % sz = off + t := by rw [Nat.add_assoc, hsplit]
  rw [← h5]
  exact h4
/-- elements that own nothing -/
theorem ElsR.els (hF : ∀ cs x, R w cs x → F [] w cs x) : ∀ {css : List (List Value)} {l : List α}, ElsR R w css l → Els F w css (l.map fun _ => []) l
  | [], [], _ => trivial
  | cs :: css, x :: l, h => by
    obtain ⟨cs', h1, h2⟩ := h.2 0 x rfl
    obtain rfl : cs = cs' := Option.some.inj h1
    exact ⟨hF _ _ h2, ElsR.els hF (css := css) (l := l) ⟨by have := h.1; simpa using this, fun i y hy => by
      obtain ⟨cs', h1, h2⟩ := h.2 (i + 1) y (by simpa using hy)
      exact ⟨cs', by simpa using h1, h2⟩⟩⟩
  | [], _ :: _, h => by have := h.1; simp at this
  | _ :: _, [], h => by have := h.1; simp at this
theorem flat_nils (l : List α) : (l.map fun _ => ([] : List Nat)).flatten = [] := by
  induction l with
  | nil => rfl
  | cons a l ih => simp
end
end Go.Proofs.YtdphdnllhmnelaaGreat
/- Said: how it lies in memory, the laws' helpers on it. -/
namespace Go.Proofs.YtdphdnllhmnelaaGreat
open Go.RowKit
structure Sai where
  cl : Int
  no : Int
  tx : ByteArray
def saiNil : Sai := ⟨0, 0, ByteArray.empty⟩
def saiAt (l : List Sai) (i : Nat) : Sai := l.getD i saiNil
theorem saiAt_get {l : List Sai} {k : Nat} (h : k < l.length) : saiAt l k = l[k] := by simp [saiAt, h]
theorem saiAt_of {l : List Sai} {k : Nat} {x : Sai} (h : l[k]? = some x) : saiAt l k = x := by simp [saiAt, h]
/-- its cells, its value -/
def saiL (x : Sai) : List Value := [.int .i64 x.cl, .int .i64 x.no, .string x.tx]
def saiV (x : Sai) : Value := .agg #[.int .i64 x.cl, .int .i64 x.no, .string x.tx]
def saiR (w : World) (cs : List Value) (x : Sai) : Prop := cs = saiL x
def saiF (fp : List Nat) (w : World) (cs : List Value) (x : Sai) : Prop := cs = saiL x ∧ fp = []
theorem saiK : KindOk saiR saiF 3 where
  rlen := fun h => by obtain rfl := h; rfl
  rkeep := fun h hb => by obtain rfl := h; exact rfl
  flt := fun h b hb => by obtain ⟨rfl, rfl⟩ := h; cases hb
  fch := fun h _ _ => h
  fr := fun h => by obtain ⟨rfl, rfl⟩ := h; exact rfl
  one := fun h v hv => by
    obtain rfl := h
    simp only [saiL, List.mem_cons, List.not_mem_nil, or_false] at hv
    rcases hv with rfl | rfl | rfl <;> rfl
/-- its bounds -/
def saiB (x : Sai) : Prop := x.tx.size ≤ 9223372036854775807
def saisB (l : List Sai) : Prop := l.length ≤ 9223372036854775807 ∧ ∀ y ∈ l, saiB y
def saiSz (x : Sai) : Nat := x.tx.size
def saisSz (l : List Sai) : Nat := l.length + (l.map saiSz).sum
theorem sais_el {l : List Sai} {i : Nat} {x : Sai} (hx : l[i]? = some x) : saiSz x ≤ saisSz l := by have := (sum_el saiSz hx).1; unfold saisSz; omega
/-- its marks -/
def saiCnt (x : Sai) : Nat := 1 + 1 + 1
def saisCnt (l : List Sai) : Nat := (l.map saiCnt).sum
def saiMk (k : Int) (x : Sai) : Sai := ⟨k, (k + 1), mtx (k + 1 + 1)⟩
def saisMk (k : Int) : List Sai → List Sai
  | [] => []
  | x :: l => saiMk k x :: saisMk (k + (saiCnt x : Nat)) l
theorem saisMk_len (k : Int) : ∀ l : List Sai, (saisMk k l).length = l.length
  | [] => rfl
  | x :: l => by simp [saisMk, saisMk_len]
theorem saisMk_snoc (k : Int) (x : Sai) : ∀ l : List Sai, saisMk k (l ++ [x]) = saisMk k l ++ [saiMk (k + (saisCnt l : Nat)) x]
  | [] => by simp [saisMk, saisCnt]
  | y :: l => by
    have := saisMk_snoc (k + (saiCnt y : Nat)) x l
    have e : k + (saiCnt y : Nat) + ((saisCnt l : Nat) : Int) = k + ((saisCnt (y :: l) : Nat) : Int) := by simp only [saisCnt, List.map_cons, List.sum_cons]; push_cast; omega
    simp only [List.cons_append, saisMk, this, e]
theorem saisMk_at (k : Int) : ∀ (l : List Sai) (i : Nat) (x : Sai), l[i]? = some x → (saisMk k l)[i]? = some (saiMk (k + (sumTo saiCnt l i : Nat)) x)
  | [], i, x, h => by simp at h
  | y :: l, 0, x, h => by simp at h; subst h; simp [saisMk, sumTo]
  | y :: l, i + 1, x, h => by
    have := saisMk_at (k + (saiCnt y : Nat)) l i x (by simpa using h)
    have e : k + (saiCnt y : Nat) + ((sumTo saiCnt l i : Nat) : Int) = k + ((sumTo saiCnt (y :: l) (i + 1) : Nat) : Int) := by simp only [sumTo, List.take_succ_cons, List.map_cons, List.sum_cons]; push_cast; omega
    simp only [saisMk, List.getElem?_cons_succ, this, e]
theorem sai_cnt (x : Sai) : saiCnt x ≤ 3 * (1 + saiSz x) := by unfold saiCnt saiSz; omega
theorem sais_cnt : ∀ l : List Sai, saisCnt l ≤ 3 * saisSz l
  | [] => by simp [saisCnt]
  | x :: l => by have h1 := sais_cnt l; have h2 := sai_cnt x; simp only [saisCnt, saisSz, List.map_cons, List.sum_cons, List.length_cons] at *; omega
attribute [local irreducible] StrR IntR StrO IntO RowR RowO StrsAt IntsAt
set_option maxRecDepth 8000 in
theorem sai_eq (x : Sai)   (w : World)   (hs : saiSz x ≤ 16777216) :
    Calls Tryz.prog 83 #[(saiV x), (saiV x)] w fun e w' => e = .returned (.bool true) ∧ Below w.heap.size w w' := by
  unfold saiSz at hs
  unfold saiV
  go_enter Tryz.func83, Tryz.ntmps83
  go_wp2
  go_returns
  exact ⟨rfl, by go_grown⟩
set_option maxRecDepth 8000 in
set_option maxHeartbeats 1000000 in
theorem sais_eq (l : List Sai) (A : Option Addr) (n c : Nat) (A' : Option Addr) (n' c' : Nat) (w : World) (h : RowR saiR 3 w A n c l) (h' : RowR saiR 3 w A' n' c' l) (hs : saisSz l ≤ 16777216) :
    Calls Tryz.prog 39 #[.slice A n c, .slice A' n' c'] w fun e w' => e = .returned (.bool true) ∧ Below w.heap.size w w' := by
  obtain rfl : n = n' := h.len.trans h'.len.symm
  have hn : n ≤ 16777216 := by have h1 := h.len; unfold saisSz at hs; omega
  go_enter Tryz.func39, Tryz.ntmps39
  go_wp2
  go_loopw [5] (fun i wr => ∃ (k : Nat), k ≤ n ∧ i = .int .i64 k ∧ Below w.heap.size w wr) (fun i _ => n - (intOf i).toNat)
  case atStart => exact ⟨0, Nat.zero_le _, rfl, Below.refl _ _⟩
  case round =>
    obtain ⟨k, hk, rfl, hb⟩ := hrel
    by_cases hlt : k < n
    · obtain ⟨b, off, rfl⟩ := h.head (by omega)
      obtain ⟨bl, x, cs, hx, hR, hcell⟩ := h.elem_at hlt
      obtain rfl := hR
      have e0 := (hb.cell (p := ⟨b, off + k * 3, none⟩) bl).trans (show w.cell? ⟨b, off + k * 3, none⟩ = some (.int .i64 x.cl) from hcell 0 _ rfl)
      have e1 := (hb.cell (p := ⟨b, off + k * 3 + 1, none⟩) bl).trans (show w.cell? ⟨b, off + k * 3 + 1, none⟩ = some (.int .i64 x.no) from hcell 1 _ rfl)
      have e2 := (hb.cell (p := ⟨b, off + k * 3 + 2, none⟩) bl).trans (show w.cell? ⟨b, off + k * 3 + 2, none⟩ = some (.string x.tx) from hcell 2 _ rfl)
      clear hcell
      obtain ⟨b', off', rfl⟩ := h'.head (by omega)
      obtain ⟨b'l, x', cs', hx', hR', hcell'⟩ := h'.elem_at hlt
      obtain rfl : x' = x := Option.some.inj (hx'.symm.trans hx)
      obtain rfl := hR'
      have e0' := (hb.cell (p := ⟨b', off' + k * 3, none⟩) b'l).trans (show w.cell? ⟨b', off' + k * 3, none⟩ = some (.int .i64 x'.cl) from hcell' 0 _ rfl)
      have e1' := (hb.cell (p := ⟨b', off' + k * 3 + 1, none⟩) b'l).trans (show w.cell? ⟨b', off' + k * 3 + 1, none⟩ = some (.int .i64 x'.no) from hcell' 1 _ rfl)
      have e2' := (hb.cell (p := ⟨b', off' + k * 3 + 2, none⟩) b'l).trans (show w.cell? ⟨b', off' + k * 3 + 2, none⟩ = some (.string x'.tx) from hcell' 2 _ rfl)
      clear hcell' hx'
      have hek := sais_el hx
      have hn63 : (k : Int) < n := by omega
      go_wp2
      go_still_tail 8, (by kernel_rfl)
      change wpList _ _ _ _ _ wr.drew
      have hbd : Below w.heap.size w wr.drew := hb.drew
      generalize wr.drew = w2 at *
      go_wp2_with fail
      refine (sai_eq x'  _  (by omega)).mono ?_
      rintro e w3 ⟨rfl, hb3⟩
      go_wp2
      exact ⟨⟨k + 1, by omega, by go_num, bthen hbd hb3⟩, by simp [intOf]; omega⟩
    · go_wp2
      go_returns
      exact ⟨rfl, hb⟩


set_option maxRecDepth 8000 in
set_option maxHeartbeats 4000000 in
theorem sais_mark (l : List Sai) (fp : List Nat) (A : Option Addr) (n c : Nat) (k : Int) (w : World) (h : RowO saiF 114 3 fp w A n c l) (hN : fp.Nodup) (hs : saisSz l ≤ 16777216) (hk0 : 0 < k) (hk1 : k ≤ 288230376151711744) :
    Calls Tryz.prog 44 #[.slice A n c, .int .i64 k] w fun e w' => e = .returned (.int .i64 (k + (saisCnt l : Nat))) ∧ RowO saiF 114 3 fp w' A n c (saisMk k l) ∧ Ch (fun b => b ∈ fp) w w' := by
  obtain ⟨css0, fps0, rfl, hown0, hl0, hE0⟩ := h.ex
  have HL := Lib.hid hl0; clear hl0
  have hn : n ≤ 16777216 := by have h1 := HL.out; unfold saisSz at hs; omega
  have hcs := sais_cnt l
  go_enter Tryz.func44, Tryz.ntmps44
  go_wp2
  go_loopw [1, 5] (fun u i wr => ∃ (q : Nat) (css1 css2 : List (List Value)) (fps1 fps2 : List (List Nat)), q ≤ n ∧ i = .int .i64 q ∧ u = .int .i64 (k + ((sumTo saiCnt l q : Nat) : Int)) ∧ fps0 = fps1 ++ fps2 ∧ wr.ownsRow 0 114 3 (.slice A n c) n (css1.flatten ++ css2.flatten) ∧ Els saiF wr css1 fps1 (saisMk k (l.take q)) ∧ Els saiF wr css2 fps2 (l.drop q) ∧ Ch (fun b => b ∈ blkL A ++ fps0.flatten) w wr) (fun _ i _ => n - (intOf i).toNat)
  case atStart => exact ⟨0, [], css0, [], fps0, Nat.zero_le _, rfl, by rw [sumTo_zero]; simp, rfl, by simpa using hown0, Els.nil, by simpa using hE0, Ch.refl _⟩
  case round =>
    clear hown0 hE0 h
    obtain ⟨q, css1, css2, fps1, fps2, hq, rfl, rfl, rfl, ho, hE1, hE2, hC⟩ := hrel
    by_cases hlt : q < n
    · obtain ⟨x, hx⟩ : ∃ x, l[q]? = some x := ⟨_, List.getElem?_eq_getElem (by have := HL.out; omega)⟩
      rw [drop_one hx] at hE2
      obtain ⟨cs, css2, f, fps2, rfl, rfl, hF, hE2t⟩ := hE2.cons
      clear hE2
      obtain ⟨rfl, rfl⟩ := hF
      obtain ⟨g, hA, hg0⟩ : ∃ g, A = some ⟨g, 0, none⟩ ∧ g < wr.heap.size := by rcases own_form ho with ⟨_, h0, _⟩ | ⟨g, h1, _, h2⟩ <;> first | omega | exact ⟨g, h1, h2⟩
      subst hA
      have hP : css1.flatten.length = q * 3 := by rw [hE1.flat saiK, saisMk_len, List.length_take]; have := HL.out; rw [Nat.min_eq_left (by omega)]
      rw [List.flatten_cons] at ho
      unfold saiL at ho
      have hek := sais_el hx
      unfold saiSz at hek
      obtain ⟨HSM, HSS⟩ := sum_el saiCnt hx
      have HSU := Lib.hid HSS
      have hle := sumTo_le saiCnt l (q + 1)
      unfold saisCnt at hcs
      have hcb : sumTo saiCnt l q + saiCnt x ≤ 50331648 := by omega
      clear HSM HSS hle
      have hcx : saiCnt x = 1 + 1 + 1 := rfl
      rw [hcx] at hcb
      have hN' := hN
      simp only [blkL, List.flatten_append, List.flatten_cons, List.nodup_append, List.nodup_cons, List.mem_append, List.mem_cons, List.not_mem_nil, or_false, not_or, List.append_assoc, List.cons_append, List.nil_append] at hN'
      have hx1 : ∀ b ∈ fps1.flatten, ¬ (b = g ∨ b ∈ []) := fun b h1 h2 => by (try simp only [List.mem_append] at h2); grind
      have hx2 : ∀ b ∈ fps2.flatten, ¬ (b = g ∨ b ∈ []) := fun b h1 h2 => by (try simp only [List.mem_append] at h2); grind
      clear hN'
      have hT : Ch (fun b => b = g ∨ b ∈ []) wr wr := Ch.refl _
      have e0 : wr.cell? ⟨g, q * 3, none⟩ = some (.int .i64 x.cl) := own_mid ho hP (r := 0) rfl
      have y0 := ho.frozenAt (q * 3)
      have e1 : wr.cell? ⟨g, q * 3 + 1, none⟩ = some (.int .i64 x.no) := own_mid ho hP (r := 1) rfl
      have y1 := ho.frozenAt (q * 3 + 1)
      go_wp2_with fail
      obtain ⟨v1, hv1⟩ : ∃ W, W = ((wr.setCell ⟨g, q * 3, none⟩ (.int .i64 (k + ((sumTo saiCnt l q : Nat) : Int)))).setCell ⟨g, q * 3 + 1, none⟩ (.int .i64 (k + ((sumTo saiCnt l q : Nat) : Int) + 1))) := ⟨_, rfl⟩
      have hs1 : v1 = setsW wr g (q * 3 + 0) ([.int .i64 (k + ((sumTo saiCnt l q : Nat) : Int)), .int .i64 (k + ((sumTo saiCnt l q : Nat) : Int) + 1)] : List Value) := hv1
      rw [← hv1]
      clear hv1
      have hc1 : Ch (fun b => b = g) wr v1 := by rw [hs1]; exact ch_setsW _ _ _
      have ho1 : v1.ownsRow 0 114 3 (.slice (some ⟨g, 0, none⟩) n c) n (css1.flatten ++ (([(.int .i64 (k + ((sumTo saiCnt l q : Nat) : Int))), (.int .i64 (k + ((sumTo saiCnt l q : Nat) : Int) + 1)), (.string x.tx)] : List Value) ++ css2.flatten)) := by
        have hh := own_setsW ([.int .i64 (k + ((sumTo saiCnt l q : Nat) : Int)), .int .i64 (k + ((sumTo saiCnt l q : Nat) : Int) + 1)] : List Value) (q * 3 + 0) wr _ ho
        rw [setsL_in hP (r := 0) (vs := ([.int .i64 (k + ((sumTo saiCnt l q : Nat) : Int)), .int .i64 (k + ((sumTo saiCnt l q : Nat) : Int) + 1)] : List Value)) (by simp)] at hh
        rw [hs1]; exact hh
      clear e0 y0
      clear e1 y1
      clear hs1 ho
      have hT1 := hT.trans (hc1.mono (fun b hb => .inl hb)); clear hT; have hT := hT1; clear hT1
      have hgz1 : g < v1.heap.size := Nat.lt_of_lt_of_le hg0 hc1.size; clear hg0; have hg0 := hgz1; clear hgz1
      clear hc1
      refine (markText_any _ _ (by omega) (by omega)).mono ?_
      rintro e v2 ⟨rfl, hb2⟩
      have ho2 := own_ch ho1 (Ch.of_below (S := fun _ => False) hb2) (fun _ _ h => h)
      clear ho1
      have hT2 := hT.trans (Ch.of_below hb2); clear hT; have hT := hT2; clear hT2
      have hgz2 : g < v2.heap.size := Nat.lt_of_lt_of_le hg0 hb2.size; clear hg0; have hg0 := hgz2; clear hgz2
      clear hb2
      have e2 : v2.cell? ⟨g, q * 3 + 2, none⟩ = some (.string x.tx) := own_mid ho2 hP (r := 2) rfl
      have y2 := ho2.frozenAt (q * 3 + 2)
      go_wp2
      obtain ⟨v3, hv3⟩ : ∃ W, W = (v2.setCell ⟨g, q * 3 + 2, none⟩ (.string (mtx (k + ((sumTo saiCnt l q : Nat) : Int) + 1 + 1)))) := ⟨_, rfl⟩
      have hs3 : v3 = setsW v2 g (q * 3 + 2) ([.string (mtx (k + ((sumTo saiCnt l q : Nat) : Int) + 1 + 1))] : List Value) := hv3
      rw [← hv3]
      clear hv3
      have hc3 : Ch (fun b => b = g) v2 v3 := by rw [hs3]; exact ch_setsW _ _ _
      have ho3 : v3.ownsRow 0 114 3 (.slice (some ⟨g, 0, none⟩) n c) n (css1.flatten ++ (([(.int .i64 (k + ((sumTo saiCnt l q : Nat) : Int))), (.int .i64 (k + ((sumTo saiCnt l q : Nat) : Int) + 1)), (.string (mtx (k + ((sumTo saiCnt l q : Nat) : Int) + 1 + 1)))] : List Value) ++ css2.flatten)) := by
        have hh := own_setsW ([.string (mtx (k + ((sumTo saiCnt l q : Nat) : Int) + 1 + 1))] : List Value) (q * 3 + 2) v2 _ ho2
        rw [setsL_in hP (r := 2) (vs := ([.string (mtx (k + ((sumTo saiCnt l q : Nat) : Int) + 1 + 1))] : List Value)) (by simp)] at hh
        rw [hs3]; exact hh
      clear e2 y2
      clear hs3 ho2
      have hT3 := hT.trans (hc3.mono (fun b hb => .inl hb)); clear hT; have hT := hT3; clear hT3
      have hgz3 : g < v3.heap.size := Nat.lt_of_lt_of_le hg0 hc3.size; clear hg0; have hg0 := hgz3; clear hgz3
      clear hc3
      have hE1' := hE1.ch saiK hT hx1
      have hE2' := hE2t.ch saiK hT hx2
      have hE3 := hE1'.app (Els.one (⟨rfl, rfl⟩ : saiF ([]) v3 ([(.int .i64 (k + ((sumTo saiCnt l q : Nat) : Int))), (.int .i64 (k + ((sumTo saiCnt l q : Nat) : Int) + 1)), (.string (mtx (k + ((sumTo saiCnt l q : Nat) : Int) + 1 + 1)))] : List Value) (saiMk (k + ((sumTo saiCnt l q : Nat) : Int)) x)))
      have hsm := saisMk_snoc k x (l.take q)
      rw [← take_more hx] at hsm
      have hct : ((saisCnt (l.take q) : Nat) : Int) = ((sumTo saiCnt l q : Nat) : Int) := rfl
      rw [hct] at hsm
      rw [← hsm] at hE3
      refine ⟨⟨q + 1, css1 ++ [([(.int .i64 (k + ((sumTo saiCnt l q : Nat) : Int))), (.int .i64 (k + ((sumTo saiCnt l q : Nat) : Int) + 1)), (.string (mtx (k + ((sumTo saiCnt l q : Nat) : Int) + 1 + 1)))] : List Value)], css2, fps1 ++ [[]], fps2, by omega, by go_num, ?_, by simp, ?_, hE3, hE2', hC.trans (hT.mono (fun b hb => ?_))⟩, by simp [intOf]; omega⟩
      · rw [HSU.out]; congr 1; rw [hcx]; push_cast; omega
      · rw [flat_snoc, List.append_assoc]; exact ho3
      · simp only [blkL, List.flatten_append, List.flatten_cons, List.mem_append, List.mem_cons, List.not_mem_nil, or_false] at hb ⊢
        grind
    · go_wp2
      go_returns
      have hqn : q = n := by omega
      subst hqn
      have hql : l.length ≤ q := by have := HL.out; omega
      rw [List.take_of_length_le hql] at hE1
      rw [List.drop_eq_nil_of_le hql] at hE2
      obtain ⟨rfl, rfl⟩ := hE2.nils
      refine ⟨ret_int ?_, ?_, hC⟩
      · rw [sumTo_all _ _ _ hql]; rfl
      · rw [List.append_nil]; exact RowO.intro (by simpa using ho) (by rw [saisMk_len]; exact HL.out) hE1
set_option maxRecDepth 8000 in
set_option maxHeartbeats 4000000 in
theorem sais_held (l : List Sai) (A : Option Addr) (n c : Nat) (k : Int) (w : World) (h : RowR saiR 3 w A n c (saisMk k l)) (hs : saisSz l ≤ 16777216) (hk0 : 0 < k) (hk1 : k ≤ 288230376151711744) :
    Calls Tryz.prog 46 #[.slice A n c, .int .i64 k] w fun e w' => e = .returned (.int .i64 (k + (saisCnt l : Nat))) ∧ Below w.heap.size w w' := by
  have HL := Lib.hid (show n = l.length by rw [h.len, saisMk_len])
  have hn : n ≤ 16777216 := by have h1 := HL.out; unfold saisSz at hs; omega
  have hcs := sais_cnt l
  go_enter Tryz.func46, Tryz.ntmps46
  go_wp2
  go_loopw [1, 5] (fun u i wr => ∃ (q : Nat), q ≤ n ∧ i = .int .i64 q ∧ u = .int .i64 (k + ((sumTo saiCnt l q : Nat) : Int)) ∧ Below w.heap.size w wr) (fun _ i _ => n - (intOf i).toNat)
  case atStart => exact ⟨0, Nat.zero_le _, rfl, by rw [sumTo_zero]; simp, Below.refl _ _⟩
  case round =>
    obtain ⟨q, hq, rfl, rfl, hb⟩ := hrel
    by_cases hlt : q < n
    · obtain ⟨x, hx⟩ : ∃ x, l[q]? = some x := ⟨_, List.getElem?_eq_getElem (by have := HL.out; omega)⟩
      obtain ⟨b, off, rfl⟩ := h.head (by omega)
      obtain ⟨bl, x', cs, hx', hR, hcell⟩ := h.elem_at hlt
      obtain rfl : x' = saiMk (k + ((sumTo saiCnt l q : Nat) : Int)) x := Option.some.inj (hx'.symm.trans (saisMk_at k l q x hx))
      obtain rfl := hR
      have k0 : w.cell? ⟨b, off + q * 3, none⟩ = some (.int .i64 (k + ((sumTo saiCnt l q : Nat) : Int))) := hcell 0 _ rfl
      have k1 : w.cell? ⟨b, off + q * 3 + 1, none⟩ = some (.int .i64 (k + ((sumTo saiCnt l q : Nat) : Int) + 1)) := hcell 1 _ rfl
      have k2 : w.cell? ⟨b, off + q * 3 + 2, none⟩ = some (.string (mtx (k + ((sumTo saiCnt l q : Nat) : Int) + 1 + 1))) := hcell 2 _ rfl
      clear hcell hx'
      have hek := sais_el hx
      unfold saiSz at hek
      obtain ⟨HSM, HSS⟩ := sum_el saiCnt hx
      have HSU := Lib.hid HSS
      have hle := sumTo_le saiCnt l (q + 1)
      unfold saisCnt at hcs
      have hcb : sumTo saiCnt l q + saiCnt x ≤ 50331648 := by omega
      clear HSM HSS hle
      have hcx : saiCnt x = 1 + 1 + 1 := rfl
      rw [hcx] at hcb
      have e0 := (hb.cell (p := ⟨b, off + q * 3, none⟩) bl).trans k0
      have e1 := (hb.cell (p := ⟨b, off + q * 3 + 1, none⟩) bl).trans k1
      have e2 := (hb.cell (p := ⟨b, off + q * 3 + 2, none⟩) bl).trans k2
      go_wp2
      go_region_held3 (fun w' => w'.cell? ⟨b, off + q * 3 + 2, none⟩ = some (.string (mtx (k + ((sumTo saiCnt l q : Nat) : Int) + 1 + 1))) ∧ Below w.heap.size w w') (first | (have hh := ‹_ ∧ _›; exact ⟨keep_cell hbw hh.1, bthen hh.2 hbw⟩) | (have hh := ‹_ ∧ _›; exact ⟨hh.1, hh.2.drew⟩) | exact ⟨e2, hb.drew⟩ | exact ⟨e2, hb⟩) (first | (go_at_call 41; refine (markText_any _ _ (by omega) (by omega)).mono ?_; rintro e w1 ⟨rfl, hbw⟩))
      have hr1 := (by have hh := ‹_ ∧ _›; exact hh.2 : Below w.heap.size w _)
      clear e0 e1 e2
      replace hbw := hr1
      go_wp2
      refine ⟨⟨q + 1, by omega, by go_num, ?_, hr1⟩, by simp [intOf]; omega⟩
      rw [HSU.out]; congr 1; rw [hcx]; push_cast; omega
    · go_wp2
      go_returns
      have hql : l.length ≤ q := by have := HL.out; omega
      refine ⟨ret_int ?_, hb⟩
      rw [sumTo_all _ _ _ hql]; rfl
end Go.Proofs.YtdphdnllhmnelaaGreat
/- State: how it lies in memory, the laws' helpers on it. -/
namespace Go.Proofs.YtdphdnllhmnelaaGreat
open Go.RowKit
structure Sta where
  cat : Ctl
  said : List Sai
def staNil : Sta := ⟨ctlNil, []⟩
def staAt (l : List Sta) (i : Nat) : Sta := l.getD i staNil
theorem staAt_get {l : List Sta} {k : Nat} (h : k < l.length) : staAt l k = l[k] := by simp [staAt, h]
theorem staAt_of {l : List Sta} {k : Nat} {x : Sta} (h : l[k]? = some x) : staAt l k = x := by simp [staAt, h]
/-- its cells, its value -/
def staL (x : Sta) (s1 : Value) (s2 : Value) : List Value := [s1, s2]
def staV (x : Sta) (s1 : Value) (s2 : Value) : Value := .agg #[s1, s2]
def staR (w : World) (cs : List Value) (x : Sta) : Prop := ∃ (A1 : Option Addr) (n1 c1 : Nat) (A2 : Option Addr) (n2 c2 : Nat), cs = staL x (.slice A1 n1 c1) (.slice A2 n2 c2) ∧ RowR cstR 2 w A1 n1 c1 x.cat.sets ∧ RowR saiR 3 w A2 n2 c2 x.said
def staF (fp : List Nat) (w : World) (cs : List Value) (x : Sta) : Prop := ∃ (A1 : Option Addr) (n1 c1 : Nat) (A2 : Option Addr) (n2 c2 : Nat) (f1 f2 : List Nat), cs = staL x (.slice A1 n1 c1) (.slice A2 n2 c2) ∧ fp = f1 ++ f2 ∧ RowO cstF 165 2 f1 w A1 n1 c1 x.cat.sets ∧ RowO saiF 114 3 f2 w A2 n2 c2 x.said
theorem staK : KindOk staR staF 2 where
  rlen := fun h => by obtain ⟨A1, n1, c1, A2, n2, c2, rfl, h1, h2⟩ := h; rfl
  rkeep := fun h hb => by obtain ⟨A1, n1, c1, A2, n2, c2, rfl, h1, h2⟩ := h; exact ⟨A1, n1, c1, A2, n2, c2, rfl, h1.keep cstK hb, h2.keep saiK hb⟩
  flt := fun h b hb => by
    obtain ⟨A1, n1, c1, A2, n2, c2, f1, f2, rfl, rfl, h1, h2⟩ := h
    simp only [List.mem_append] at hb
    rcases hb with hb | hb
    · exact h1.lt cstK b hb
    · exact h2.lt saiK b hb
  fch := fun h hc hS => by
    obtain ⟨A1, n1, c1, A2, n2, c2, f1, f2, rfl, rfl, h1, h2⟩ := h
    exact ⟨A1, n1, c1, A2, n2, c2, _, _, rfl, rfl, h1.ch cstK hc (fun b hb => hS b (by simp [hb])), h2.ch saiK hc (fun b hb => hS b (by simp [hb]))⟩
  fr := fun h => by obtain ⟨A1, n1, c1, A2, n2, c2, f1, f2, rfl, rfl, h1, h2⟩ := h; exact ⟨A1, n1, c1, A2, n2, c2, rfl, h1.at_ cstK (by omega), h2.at_ saiK (by omega)⟩
  one := fun h v hv => by
    obtain ⟨A1, n1, c1, A2, n2, c2, rfl, h1, h2⟩ := h
    simp only [staL, List.mem_cons, List.not_mem_nil, or_false] at hv
    rcases hv with rfl | rfl <;> rfl
/-- its bounds -/
def staB (x : Sta) : Prop := ctlB x.cat ∧ saisB x.said
def stasB (l : List Sta) : Prop := l.length ≤ 9223372036854775807 ∧ ∀ y ∈ l, staB y
def staSz (x : Sta) : Nat := ctlSz x.cat + saisSz x.said
def stasSz (l : List Sta) : Nat := l.length + (l.map staSz).sum
theorem stas_el {l : List Sta} {i : Nat} {x : Sta} (hx : l[i]? = some x) : staSz x ≤ stasSz l := by have := (sum_el staSz hx).1; unfold stasSz; omega
/-- its marks -/
def staCnt (x : Sta) : Nat := ctlCnt x.cat + saisCnt x.said
def staTop (x : Sta) : Nat := ctlTop x.cat + saisCnt x.said
def stasCnt (l : List Sta) : Nat := (l.map staCnt).sum
def staMk (k : Int) (x : Sta) : Sta := ⟨ctlMk k x.cat, saisMk (k + ((cstsCnt x.cat.sets : Nat) : Int)) x.said⟩
def stasMk (k : Int) : List Sta → List Sta
  | [] => []
  | x :: l => staMk k x :: stasMk (k + (staCnt x : Nat)) l
def staTopMk (k : Int) (x : Sta) : Sta := ⟨ctlTopMk k x.cat, saisMk (k + ((ctlTop x.cat : Nat) : Int)) x.said⟩
theorem stasMk_len (k : Int) : ∀ l : List Sta, (stasMk k l).length = l.length
  | [] => rfl
  | x :: l => by simp [stasMk, stasMk_len]
theorem stasMk_snoc (k : Int) (x : Sta) : ∀ l : List Sta, stasMk k (l ++ [x]) = stasMk k l ++ [staMk (k + (stasCnt l : Nat)) x]
  | [] => by simp [stasMk, stasCnt]
  | y :: l => by
    have := stasMk_snoc (k + (staCnt y : Nat)) x l
    have e : k + (staCnt y : Nat) + ((stasCnt l : Nat) : Int) = k + ((stasCnt (y :: l) : Nat) : Int) := by simp only [stasCnt, List.map_cons, List.sum_cons]; push_cast; omega
    simp only [List.cons_append, stasMk, this, e]
theorem stasMk_at (k : Int) : ∀ (l : List Sta) (i : Nat) (x : Sta), l[i]? = some x → (stasMk k l)[i]? = some (staMk (k + (sumTo staCnt l i : Nat)) x)
  | [], i, x, h => by simp at h
  | y :: l, 0, x, h => by simp at h; subst h; simp [stasMk, sumTo]
  | y :: l, i + 1, x, h => by
    have := stasMk_at (k + (staCnt y : Nat)) l i x (by simpa using h)
    have e : k + (staCnt y : Nat) + ((sumTo staCnt l i : Nat) : Int) = k + ((sumTo staCnt (y :: l) (i + 1) : Nat) : Int) := by simp only [sumTo, List.take_succ_cons, List.map_cons, List.sum_cons]; push_cast; omega
    simp only [stasMk, List.getElem?_cons_succ, this, e]
theorem sta_cnt (x : Sta) : staCnt x ≤ 3 * (1 + staSz x) := by have g0 := ctl_cnt x.cat; have g1 := sais_cnt x.said; unfold staCnt staSz; omega
theorem stas_cnt : ∀ l : List Sta, stasCnt l ≤ 3 * stasSz l
  | [] => by simp [stasCnt]
  | x :: l => by have h1 := stas_cnt l; have h2 := sta_cnt x; simp only [stasCnt, stasSz, List.map_cons, List.sum_cons, List.length_cons] at *; omega
theorem sta_top (x : Sta) : staTop x ≤ 3 * staSz x := by have t0 := ctl_top x.cat; have t1 := sais_cnt x.said; unfold staTop staSz; omega
attribute [local irreducible] StrR IntR StrO IntO RowR RowO StrsAt IntsAt
set_option maxRecDepth 8000 in
theorem sta_eq (x : Sta) (A1 : Option Addr) (n1 c1 : Nat) (A2 : Option Addr) (n2 c2 : Nat) (A1' : Option Addr) (n1' c1' : Nat) (A2' : Option Addr) (n2' c2' : Nat) (w : World) (h1 : RowR cstR 2 w A1 n1 c1 x.cat.sets) (h2 : RowR saiR 3 w A2 n2 c2 x.said) (h1' : RowR cstR 2 w A1' n1' c1' x.cat.sets) (h2' : RowR saiR 3 w A2' n2' c2' x.said) (hs : staSz x ≤ 16777216) :
    Calls Tryz.prog 10 #[(staV x (.slice A1 n1 c1) (.slice A2 n2 c2)), (staV x (.slice A1' n1' c1') (.slice A2' n2' c2'))] w fun e w' => e = .returned (.bool true) ∧ Below w.heap.size w w' := by
  unfold staSz at hs
  unfold staV
  go_enter Tryz.func10, Tryz.ntmps10
  go_wp2_with fail
  refine (ctl_eq x.cat _ _ _ _ _ _ _ (h1.keep cstK (by go_grown)) (h1'.keep cstK (by go_grown)) (by omega)).mono ?_
  rintro e w1 ⟨rfl, hb1⟩
  obtain ⟨hc_w1, hf_w1⟩ := bcell hb1
  have hz_w1 := hb1.size
  try simp at hz_w1
  have hB_w1 : Below w.heap.size w w1 := bthen (by go_grown) hb1
  have hz_w1_0 : w.heap.size < w1.heap.size := by omega
  have hz_w1_1 : w.heap.size + 1 < w1.heap.size := by omega
  go_wp2_with fail
  refine (sais_eq x.said _ _ _ _ _ _ _ (h2.keep saiK hB_w1) (h2'.keep saiK hB_w1) (by omega)).mono ?_
  rintro e w2 ⟨rfl, hb2⟩
  obtain ⟨hc_w2, hf_w2⟩ := bcell hb2
  have hz_w2 := hb2.size
  try simp at hz_w2
  have hB_w2 : Below w.heap.size w w2 := bthen hB_w1 hb2
  have hz_w2_0 : w.heap.size < w2.heap.size := by omega
  have hz_w2_1 : w.heap.size + 1 < w2.heap.size := by omega
  go_wp2
  go_returns
  exact ⟨rfl, hB_w2⟩
set_option maxRecDepth 8000 in
theorem sta_mark (x : Sta) (f1 f2 : List Nat) (A1 : Option Addr) (n1 c1 : Nat) (A2 : Option Addr) (n2 c2 : Nat) (k : Int) (w : World) (h1 : RowO cstF 165 2 f1 w A1 n1 c1 x.cat.sets) (h2 : RowO saiF 114 3 f2 w A2 n2 c2 x.said) (hN : (f1 ++ f2).Nodup) (hs : staSz x ≤ 16777216) (hk0 : 0 < k) (hk1 : k ≤ 36028797018963968) :
    Calls Tryz.prog 15 #[(staV x (.slice A1 n1 c1) (.slice A2 n2 c2)), .int .i64 k] w fun e w' => e = .returned (.int .i64 (k + (staTop x : Nat))) ∧ RowO cstF 165 2 f1 w' A1 n1 c1 (staTopMk k x).cat.sets ∧ RowO saiF 114 3 f2 w' A2 n2 c2 (staTopMk k x).said ∧ Ch (fun b => b ∈ f1 ++ f2) w w' := by
  have htop := sta_top x
  have hsz := hs; unfold staSz at hsz; unfold staTop at htop
  unfold staV
  have al := (Below.refl w.heap.size w).alloc (Nat.le_refl _) (.cells #[.slice A1 n1 c1, .slice A2 n2 c2] 30)
  have a1 := h1.keep cstK al
  have a2 := h2.keep saiK al
  have hC0 : Ch (fun b => b ∈ f1 ++ f2) w (w.alloc (.cells #[.slice A1 n1 c1, .slice A2 n2 c2] 30)) := Ch.of_below al
  have e0 : (w.alloc (.cells #[.slice A1 n1 c1, .slice A2 n2 c2] 30)).cell? ⟨w.heap.size, 0, none⟩ = some (.slice A1 n1 c1) := by simp [go_sem]
  have e1 : (w.alloc (.cells #[.slice A1 n1 c1, .slice A2 n2 c2] 30)).cell? ⟨w.heap.size, 1, none⟩ = some (.slice A2 n2 c2) := by simp [go_sem]
  have lt1 := h1.lt cstK
  have lt2 := h2.lt saiK
  have hD := hN; simp only [List.nodup_append, List.mem_append] at hD
  have hd12 : ∀ b ∈ f1, ¬ b ∈ f2 := fun b h1 h2 => by grind
  have hd21 : ∀ b ∈ f2, ¬ b ∈ f1 := fun b h1 h2 => by grind
  go_enter Tryz.func15, Tryz.ntmps15
  go_wp2_with fail
  refine (ctl_mark x.cat f1 _ _ _ _ _ a1 (by simp only [List.nodup_append] at hN; simp only [hN]) (by omega) (by omega) (by omega)).mono ?_
  rintro e w1 ⟨rfl, b1, hc1⟩
  have hC1 : Ch (fun b => b ∈ f1 ++ f2) w w1 := hC0.trans (hc1.mono (fun b hb => by grind))
  have e0' := hc1.cell e0 (by intro hb; have := lt1 _ hb; omega); clear e0; have e0 := e0'; clear e0'
  have e1' := hc1.cell e1 (by intro hb; have := lt1 _ hb; omega); clear e1; have e1 := e1'; clear e1'
  have a2' := a2.ch saiK hc1 hd21; clear a2; have a2 := a2'; clear a2'
  go_wp2_with fail
  refine (sais_mark x.said f2 _ _ _ _ _ a2 (by simp only [List.nodup_append] at hN; simp only [hN]) (by omega) (by omega) (by omega)).mono ?_
  rintro e w2 ⟨rfl, b2, hc2⟩
  have hC2 : Ch (fun b => b ∈ f1 ++ f2) w w2 := hC1.trans (hc2.mono (fun b hb => by grind))
  have e0' := hc2.cell e0 (by intro hb; have := lt2 _ hb; omega); clear e0; have e0 := e0'; clear e0'
  have e1' := hc2.cell e1 (by intro hb; have := lt2 _ hb; omega); clear e1; have e1 := e1'; clear e1'
  have b1' := b1.ch cstK hc2 hd12; clear b1; have b1 := b1'; clear b1'
  go_wp2
  go_returns
  refine ⟨ret_int (by unfold staTop; push_cast; omega), b1, b2, hC2⟩
set_option maxRecDepth 8000 in
theorem sta_held (x : Sta) (y : Sta) (A1 : Option Addr) (n1 c1 : Nat) (A2 : Option Addr) (n2 c2 : Nat) (k : Int) (w : World) (h1 : RowR cstR 2 w A1 n1 c1 (staTopMk k x).cat.sets) (h2 : RowR saiR 3 w A2 n2 c2 (staTopMk k x).said) (hs : staSz x ≤ 16777216) (hk0 : 0 < k) (hk1 : k ≤ 36028797018963968) :
    Calls Tryz.prog 16 #[(staV y (.slice A1 n1 c1) (.slice A2 n2 c2)), .int .i64 k] w fun e w' => e = .returned (.int .i64 (k + (staTop x : Nat))) ∧ Below w.heap.size w w' := by
  have htop := sta_top x
  have hsz := hs; unfold staSz at hsz; unfold staTop at htop
  unfold staV
  go_enter Tryz.func16, Tryz.ntmps16
  go_wp2_with fail
  refine (ctl_held x.cat y.cat _ _ _ _ _ (h1.keep cstK (by go_grown)) (by omega) (by omega) (by omega)).mono ?_
  rintro e w1 ⟨rfl, hb1⟩
  obtain ⟨hc_w1, hf_w1⟩ := bcell hb1
  have hz_w1 := hb1.size
  try simp at hz_w1
  have hB_w1 : Below w.heap.size w w1 := bthen (by go_grown) hb1
  have hz_w1_0 : w.heap.size < w1.heap.size := by omega
  go_wp2_with fail
  refine (sais_held x.said _ _ _ _ _ (h2.keep saiK hB_w1) (by omega) (by omega) (by omega)).mono ?_
  rintro e w2 ⟨rfl, hb2⟩
  obtain ⟨hc_w2, hf_w2⟩ := bcell hb2
  have hz_w2 := hb2.size
  try simp at hz_w2
  have hB_w2 : Below w.heap.size w w2 := bthen hB_w1 hb2
  have hz_w2_0 : w.heap.size < w2.heap.size := by omega
  go_wp2
  go_returns
  exact ⟨ret_int (by unfold staTop; push_cast; omega), hB_w2⟩
end Go.Proofs.YtdphdnllhmnelaaGreat
/- Copies of a catalog: the reference's l15Copy. -/
namespace Go.Proofs.YtdphdnllhmnelaaGreat
open Go.RowKit
attribute [local irreducible] StrsAt StrR StrO RowR RowO
set_option maxRecDepth 8000 in
set_option maxHeartbeats 8000000 in
theorem copyCat_spec (x : Ctl) (A : Option Addr) (n c : Nat) (w : World) (h : RowR cstR 2 w A n c x.sets) (hW : ctlW x) :
    Calls Tryz.prog 164 #[ctlV x (.slice A n c)] w fun e w' => (∃ A' n' c' fp, e = .returned (ctlV x (.slice A' n' c')) ∧ RowO cstF 165 2 fp w' A' n' c' x.sets ∧ fp.Nodup ∧ ∀ b ∈ fp, w.heap.size ≤ b ∧ b < w'.heap.size) ∧ Below w.heap.size w w' := by
  have HL := Lib.hid h.len
  have hn : n ≤ 1000 := by have := h.len; have := hW.1; omega
  unfold ctlV
  go_enter Tryz.func164, Tryz.ntmps164
  go_wp2_with fail
  have al0 := (Below.refl (w).heap.size (w)).alloc (Nat.le_refl _) (.cells #[.slice A n c] 27)
  have X0 := BoxL.new (w) [.slice A n c] 27
  have al1 := (Below.refl ((w).alloc (.cells #[.slice A n c] 27)).heap.size ((w).alloc (.cells #[.slice A n c] 27))).alloc (Nat.le_refl _) (.cells #[.slice none 0 0] 27)
  have X1 := BoxL.new ((w).alloc (.cells #[.slice A n c] 27)) [.slice none 0 0] 27
  have al2 := (Below.refl (((w).alloc (.cells #[.slice A n c] 27)).alloc (.cells #[.slice none 0 0] 27)).heap.size (((w).alloc (.cells #[.slice A n c] 27)).alloc (.cells #[.slice none 0 0] 27))).alloc (Nat.le_refl _) (.cells #[.slice none 0 0] 27)
  have X2 := BoxL.new (((w).alloc (.cells #[.slice A n c] 27)).alloc (.cells #[.slice none 0 0] 27)) [.slice none 0 0] 27
  obtain ⟨W, hW0⟩ : ∃ W, W = (((w).alloc (.cells #[.slice A n c] 27)).alloc (.cells #[.slice none 0 0] 27)).alloc (.cells #[.slice none 0 0] 27) := ⟨_, rfl⟩
  have P0 : BoxL W w.heap.size [.slice A n c] := by rw [hW0]; exact (X0.keep al1).keep al2
  have R0 : BoxL W (w.heap.size + 1) [.slice none 0 0] := by rw [hW0]; have := X1.keep al2; simpa using this
  have O0 : BoxL W (w.heap.size + 1 + 1) [.slice none 0 0] := by rw [hW0]; simpa using X2
  have B0 : Below w.heap.size w W := by rw [hW0]; exact bthen (bthen al0 al1) al2
  rw [← hW0]
  clear X0 X1 X2 al0 al1 al2 hW0
  obtain ⟨g, hg⟩ : ∃ g, w.heap.size = g := ⟨_, rfl⟩
  have HG := Lib.hid hg
  simp only [hg] at P0 R0 O0 ⊢
  clear hg
  have hOl := O0.lt
  go_loopw [4] (fun i wr => ∃ (k : Nat) (P : Option Addr) (cp : Nat) (fp : List Nat), k ≤ n ∧ i = .int .i64 k ∧ BoxL wr g [.slice A n c] ∧ BoxL wr (g + 1) [.slice none 0 0] ∧ BoxL wr (g + 1 + 1) [.slice P k cp] ∧ RowO cstF 165 2 fp wr P k cp (x.sets.take k) ∧ fp.Nodup ∧ (∀ b ∈ fp, W.heap.size ≤ b) ∧ Below w.heap.size w wr ∧ W.heap.size ≤ wr.heap.size) (fun i _ => n - (intOf i).toNat)
  case atStart => exact ⟨0, none, 0, [], Nat.zero_le _, rfl, P0, R0, O0, by rw [List.take_zero]; exact RowO.nil, List.nodup_nil, (fun b hb => by cases hb), B0, Nat.le_refl _⟩
  case round =>
    clear P0 R0 O0 B0
    obtain ⟨k, P, cp, fp, hk, rfl, BP, BR, BO, RO, hND, hFP, hB, hz⟩ := hrel
    by_cases hlt : k < n
    · skip
      have k1 := h.keep cstK hB
      obtain ⟨b, off, rfl⟩ := k1.head (by omega)
      obtain ⟨bl, y, cs, hy, ⟨B1, m1, d1, rfl, y1⟩, hcell⟩ := k1.elem_at hlt
      have hyW := bounds_el hW.2 hy
      have f0 : wr.cell? ⟨b, off + k * 2, none⟩ = some (.string y.nm) := hcell 0 _ rfl
      have f1 : wr.cell? ⟨b, off + k * 2 + 1, none⟩ = some (.slice B1 m1 d1) := hcell 1 _ rfl
      have HT := Lib.hid (take_more hy)
      have HM := Lib.hid y1.len
      have hm1 : m1 ≤ 1000 := by have := y1.len; have := hyW.1; omega
      have p0 := BP.cell 0 _ rfl; have pl := BP.lt
      have hRl := RO.lt cstK
      clear hcell hy
      have al0 := (Below.refl (wr).heap.size (wr)).alloc (Nat.le_refl _) (.cells #[.string y.nm, .slice none 0 0] 165)
      have X0 := BoxL.new (wr) [.string y.nm, .slice none 0 0] 165
      go_wp2_with fail
      obtain ⟨V, hV⟩ : ∃ V, V = (wr).alloc (.cells #[.string y.nm, .slice none 0 0] 165) := ⟨_, rfl⟩
      have BX : BoxL V wr.heap.size [.string y.nm, .slice none 0 0] := by rw [hV]; exact X0
      have alV : Below wr.heap.size wr V := by rw [hV]; exact al0
      rw [← hV]
      clear X0 al0 hV
      obtain ⟨gx, hgx⟩ : ∃ g, wr.heap.size = g := ⟨_, rfl⟩
      have HGX := Lib.hid hgx
      simp only [hgx] at BX ⊢
      have hzx : wr.heap.size ≤ gx := by omega
      clear hgx
      have BP' := BP.keep alV; have BR' := BR.keep alV; have BO' := BO.keep alV; have RO' := RO.keep cstK alV; have hB' := bthen hB alV
      have y2 := y1.keep snpK alV
      have f0' := keep_cell alV f0; have f1' := keep_cell alV f1
      have hVz := alV.size
      have hbw : b < wr.heap.size := bl
      have hxV := BX.lt
      clear BP BR BO RO hB p0 pl f0 f1 k1 bl
      have bl2 := cell_lt f0'
      go_loopw [6] (fun i wq => ∃ (j : Nat) (Q : Option Addr) (cq : Nat) (fq : List Nat), j ≤ m1 ∧ i = .int .i64 j ∧ BoxL wq gx [.string y.nm, .slice Q j cq] ∧ RowO snpF 195 3 fq wq Q j cq (y.snaps.take j) ∧ fq.Nodup ∧ (∀ b ∈ fq, V.heap.size ≤ b) ∧ Ch (fun b => b = gx ∨ V.heap.size ≤ b) V wq ∧ V.heap.size ≤ wq.heap.size) (fun i _ => m1 - (intOf i).toNat)
      case atStart => exact ⟨0, none, 0, [], Nat.zero_le _, rfl, BX, by rw [List.take_zero]; exact RowO.nil, List.nodup_nil, (fun b hb => by cases hb), Ch.refl _, Nat.le_refl _⟩
      case round =>
        clear BX
        obtain ⟨j, Q, cq, fq, hj, rfl, BX, RQ, hNQ, hFQ, hCh, hzq⟩ := hrel
        obtain ⟨wq, hwq⟩ := Ch.nam hCh; subst hwq
        have hBq : Below w.heap.size w wq := hCh.belowB hB' (by have := hB'.size; omega) (fun b hb => by have := HG.out; rcases hb with hb | hb <;> omega)
        have nP : ∀ t : Nat, t < g + 3 → ¬ (t = gx ∨ V.heap.size ≤ t) := fun t ht => by omega
        have BPq := BP'.ch hCh (nP _ (by omega)); have BRq := BR'.ch hCh (nP _ (by omega)); have BOq := BO'.ch hCh (nP _ (by omega))
        by_cases hltj : j < m1
        · skip
          have yq : RowR snpR 3 wq B1 m1 d1 y.snaps := y1.keep snpK (alV.trans (hCh.below (B := wr.heap.size) (fun b hb => by rcases hb with hb | hb <;> omega) (by omega)))
          have k1 := h.keep cstK hBq
          have f0q : wq.cell? ⟨b, off + k * 2, none⟩ = some (.string y.nm) := hCh.cell f0' (by omega)
          have f1q : wq.cell? ⟨b, off + k * 2 + 1, none⟩ = some (.slice B1 m1 d1) := hCh.cell f1' (by omega)
          have blq := cell_lt f0q; have p0 := BPq.cell 0 _ rfl; have pl := BPq.lt
          obtain ⟨sb, so, rfl⟩ := yq.head (by omega)
          obtain ⟨sbl, v, cs2, hv, ⟨E1, em, ed, rfl, v1⟩, hcellv⟩ := yq.elem_at hltj
          have hvW := bounds_el hyW.2 hv
          have t0 : wq.cell? ⟨sb, so + j * 3, none⟩ = some (.string v.nm) := hcellv 0 _ rfl
          have t1 : wq.cell? ⟨sb, so + j * 3 + 1, none⟩ = some (.string v.tg) := hcellv 1 _ rfl
          have t2 : wq.cell? ⟨sb, so + j * 3 + 2, none⟩ = some (.slice E1 em ed) := hcellv 2 _ rfl
          have HTV := Lib.hid (take_more hv)
          have HE := Lib.hid v1.len
          have hem : em ≤ 1000 := by have := v1.len; omega
          have hRQl := RQ.lt snpK
          clear hcellv hv
          have aly := (Below.refl wq.heap.size wq).alloc (Nat.le_refl _) (.cells #[.string v.nm, .string v.tg, .slice E1 em ed] 195)
          have BY := BoxL.new wq [.string v.nm, .string v.tg, .slice E1 em ed] 195
          have ale := (Below.refl (wq.alloc (.cells #[.string v.nm, .string v.tg, .slice E1 em ed] 195)).heap.size (wq.alloc (.cells #[.string v.nm, .string v.tg, .slice E1 em ed] 195))).alloc (Nat.le_refl _) (.cells #[] 9)
          have own0 : ((wq.alloc (.cells #[.string v.nm, .string v.tg, .slice E1 em ed] 195)).alloc (.cells #[] 9)).ownsRow (wq.heap.size + 1) 9 1 (.slice (some ⟨wq.heap.size + 1, 0, none⟩) 0 0) 0 [] := by simpa using own_empty (wq.alloc (.cells #[.string v.nm, .string v.tg, .slice E1 em ed] 195)) 9 1 (Nat.le_refl _)
          have hsrc := (v1.at_r'.keep (bthen aly ale)).cells
          have hnil := v1.nilcap
          have hbase : wq.heap.size + 1 ≤ ((wq.alloc (.cells #[.string v.nm, .string v.tg, .slice E1 em ed] 195)).alloc (.cells #[] 9)).heap.size := by simp
          have BZ := BY.keep ale
          have hbZ := bthen aly ale
          go_wp2_with (first | (at_builtin; refine wpList_app (P := Tryz.prog) _ rfl (.tmp 43) (.tmp 45) 46 rfl (wq.heap.size + 1) 9 _ 1 16 Tryz.underlying46 infoString rfl (by omega) (.slice (some ⟨wq.heap.size + 1, 0, none⟩) 0 0) _ _ rfl own0 E1 em ed (v.ch.map Value.string) rfl hsrc (strsT_one _) hnil (by unfold maxLen; omega) (by omega) hbase ?_; intro E2 ed2 w5 own5 hg5 hb5 hob5; refine stop_of ?_) | fail)
          have hbq5 : Below wq.heap.size wq w5 := hbZ.trans (hb5.mono (by omega))
          have BY5 := BZ.below hb5 (by omega)
          obtain ⟨gy, hgy⟩ : ∃ g, wq.heap.size = g := ⟨_, rfl⟩
          have HGY := Lib.hid hgy
          have hin : StrsIn (wq.heap.size + 1) w5.heap.size w5 E2 em ed2 v.ch := StrsIn.of_own (by simpa using own5)
          obtain ⟨f2, hn2, hf2, so2⟩ := strO_in hin
          have X5 := BX.keep hbq5; have RQ5 := RQ.keep snpK hbq5; have BP5 := BPq.keep hbq5
          have hzq5 := hbq5.size
          have hxl0 := BX.lt
          clear hg5 hb5 hob5 own5 own0 hsrc hnil hbase BZ hbZ ale aly BY t0 t1 t2 f0q f1q blq p0 pl BX RQ hin v1 sbl
          simp only [hgy] at BY5 hf2 hbq5 ⊢
          have hgxy : gx < gy := by omega
          have hVgy : V.heap.size ≤ gy := by omega
          have hgy5 : gy + 1 ≤ w5.heap.size := BY5.lt
          have hne1 : gx ≠ gy := by omega
          have hne2 : gy ≠ gx := by omega
          have hlt2 : ∀ b ∈ fq, V.heap.size ≤ b ∧ b < gy := fun b hb => ⟨hFQ b hb, by have := hRQl b hb; omega⟩
          clear hgy
          have one : Ch (fun t => t = gy) w5 (w5.setCell ⟨gy, 2, none⟩ (.slice E2 em ed2)) := Ch.set
          have Y6 := BY5.set (j := 2) (v := .slice E2 em ed2) (by simp)
          have X6 := X5.ch one (ne_blk (by omega)); have P6 := BP5.ch one (ne_blk (by omega))
          have RQ6 := RQ5.ch snpK one (fun b hb h2 => by have h2 : b = gy := h2; have := hlt2 b hb; omega)
          have so6 := so2.ch one (fun b hb h2 => by have h2 : b = gy := h2; have := (hf2 b hb).1; omega)
          obtain ⟨css, fps, rfl, own6, hlQ, E6⟩ := RQ6.ex
          have HLQ := Lib.hid hlQ; clear hlQ
          have y0 := BY5.cell 0 _ rfl; have y1_ := BY5.cell 1 _ rfl; have y2_ := BY5.cell 2 _ rfl; have yf := BY5.fz 2 (by simp); have yl := BY5.lt
          have x0 := X5.cell 0 _ rfl; have x1 := X5.cell 1 _ rfl; have xl := X5.lt
          have h6z := one.size
          clear RQ5 BP5
          unfold Stop
          go_wp2_with (first | (at_builtin; refine wpList_app1g (P := Tryz.prog) (w5.setCell ⟨gy, 2, none⟩ (.slice E2 em ed2)) rfl (.tmp 49) (.tmp 51) 163 rfl 0 195 _ 3 56 Tryz.underlying163 snpInfo rfl (by omega) (.slice Q j cq) _ _ rfl own6 #[.string v.nm, .string v.tg, .slice E2 em ed2] _ rfl (by simp) rfl (by simp [Value.oneCell']) (by unfold maxLen; omega) (by omega) (Nat.zero_le _) ?_; intro A' c' w8 own8 hgr hb8 hob; refine stop_of ?_) | fail)
          have hNN : ((blkL Q ++ fps.flatten) ++ f2).Nodup := nodup_new (m := gy) hNQ hn2 (fun x hx => (hlt2 x hx).2) (fun x hx => by have := (hf2 x hx).1; omega)
          obtain ⟨fp', RO8, hN8, hF8, hc8⟩ := row_app1 (x := v) snpK HLQ.out E6 (snpF_of so6) hNN own8 hgr hob (by omega)
          have hq8 : ∀ b ∈ blkL Q, V.heap.size ≤ b ∧ b < gy := fun b hb => hlt2 b (List.mem_append_left _ hb)
          have X8 := X6.ch hc8 (fun hb => by have := (hq8 _ hb).1; omega)
          have hC8 := ((hCh.trans (Ch.of_below (S := fun b => b = gx ∨ V.heap.size ≤ b) (HGY.out ▸ hbq5))).trans (one.mono (fun b hb => .inr (by have hb : b = gy := hb; omega)))).trans (hc8.mono (fun b hb => .inr (hq8 b hb).1))
          have hF9 : ∀ b ∈ fp', V.heap.size ≤ b := fun b hb => by
            rcases hF8 b hb with h1 | h1 | h1
            · exact (hlt2 b h1).1
            · have := (hf2 b h1).1; omega
            · omega
          have hz8 := hc8.size
          clear own6 E6 own8 hgr hob x0 x1 xl y0 y1_ y2_ yf yl X5 X6 BY5 Y6
          have x1 := X8.cell 1 _ rfl; have xf := X8.fz 1 (by simp); have xl := X8.lt
          unfold Stop
          go_wp2
          have d : Ch (fun t => t = gx) w8 (w8.setCell ⟨gx, 1, none⟩ (.slice A' (j + 1) c')) := Ch.set
          have hdz := d.size
          exact ⟨⟨j + 1, A', c', fp', by omega, by go_num, by simpa using X8.set (j := 1) (v := .slice A' (j + 1) c') (by simp), by rw [HTV.out]; exact RO8.ch snpK d (fun b hb h2 => by have h2 : b = gx := h2; have := hF9 b hb; omega), hN8, hF9, hC8.trans (d.mono (fun b hb => .inl hb)), by omega⟩, by simp [intOf]; omega⟩
        · skip
          have HJ := Lib.hid (show y.snaps.take j = y.snaps from List.take_of_length_le (by have := HM.out; omega))
          rw [HJ.out] at RQ
          have ROq := RO'.ch cstK hCh (fun b hb => by have := hRl b hb; omega)
          obtain ⟨css2, fps2, rfl, own2, hlP, E2⟩ := ROq.ex
          have HLP := Lib.hid hlP; clear hlP
          have x0 := BX.cell 0 _ rfl; have x1 := BX.cell 1 _ rfl; have xl := BX.lt
          have o0 := BOq.cell 0 _ rfl; have of0 := BOq.fz 0 (by simp); have ol := BOq.lt
          have f0q : wq.cell? ⟨b, off + k * 2, none⟩ = some (.string y.nm) := hCh.cell f0' (by omega)
          have f1q : wq.cell? ⟨b, off + k * 2 + 1, none⟩ = some (.slice B1 m1 d1) := hCh.cell f1' (by omega)
          have blq := cell_lt f0q; have p0 := BPq.cell 0 _ rfl; have pl := BPq.lt
          have iltq : ¬ ((j : Int) < (m1 : Int)) := by omega
          have hk5 : k ≤ 1000 := by omega
          go_wp2_with (first | (at_builtin; refine wpList_app1g (P := Tryz.prog) wq rfl (.tmp 55) (.tmp 57) 25 rfl 0 165 _ 2 40 Tryz.underlying25 cstInfo rfl (by omega) (.slice P k cp) _ _ rfl own2 #[.string y.nm, .slice Q j cq] _ rfl (by simp) rfl (by simp [Value.oneCell']) (by unfold maxLen; omega) (by omega) (Nat.zero_le _) ?_; intro A' c' w8 own8 hgr hb8 hob; refine stop_of ?_) | fail)
          have hge8 : ∀ b ∈ blkL P ++ fps2.flatten, W.heap.size ≤ b ∧ b < wr.heap.size := fun b hb => ⟨hFP b hb, hRl b hb⟩
          have hNN : ((blkL P ++ fps2.flatten) ++ fq).Nodup := nodup_new (m := V.heap.size) hND hNQ (fun x hx => by have := (hge8 x hx).2; omega) (fun x hx => hFQ x hx)
          obtain ⟨fp', RO8, hN8, hF8, hc8⟩ := row_app1 (x := y) cstK HLP.out E2 (cstF_of RQ) hNN own8 hgr hob (by omega)
          have hq8 : ∀ b ∈ blkL P, W.heap.size ≤ b := fun b hb => (hge8 b (List.mem_append_left _ hb)).1
          have BP8 := BPq.ch hc8 (fun hb => by have := hq8 _ hb; omega); have BR8 := BRq.ch hc8 (fun hb => by have := hq8 _ hb; omega); have BO8 := BOq.ch hc8 (fun hb => by have := hq8 _ hb; omega)
          have hB8 := hc8.belowB hBq (by have := hBq.size; omega) (fun b hb => by have := hq8 b hb; have := HG.out; omega)
          have hz8 := hc8.size
          clear own2 E2 own8 hgr hob o0 of0 ol x0 x1 xl BX ROq
          have o0 := BO8.cell 0 _ rfl; have of0 := BO8.fz 0 (by simp); have ol := BO8.lt
          unfold Stop
          go_wp2
          have d : Ch (fun k => k = g + 1 + 1) w8 (w8.setCell ⟨g + 1 + 1, 0, none⟩ (.slice A' (k + 1) c')) := Ch.set
          have hF9 : ∀ b ∈ fp', W.heap.size ≤ b := fun b hb => by
            rcases hF8 b hb with h1 | h1 | h1
            · exact (hge8 b h1).1
            · have := hFQ b h1; omega
            · omega
          have RO9 := RO8.ch cstK d (fun b hb h2 => by have h2 : b = g + 1 + 1 := h2; have := hF9 b hb; omega)
          have hdz := d.size
          refine ⟨⟨k + 1, A', c', fp', by omega, by go_num, BP8.ch d (ne_blk (by omega)), BR8.ch d (ne_blk (by omega)), by simpa using BO8.set (j := 0) (v := .slice A' (k + 1) c') (by simp), by rw [HT.out]; exact RO9, hN8, hF9, d.belowB hB8 (by have := hB8.size; omega) (fun b hb => by have hb : b = _ := hb; have := HG.out; omega), by omega⟩, by simp [intOf]; omega⟩
    · skip
      have hkn : k = n := by omega
      have HK := Lib.hid (show x.sets.take k = x.sets from List.take_of_length_le (by have := HL.out; omega))
      rw [HK.out] at RO
      have o0 := BO.cell 0 _ rfl; have ol := BO.lt; have r0 := BR.cell 0 _ rfl; have rf := BR.fz 0 (by simp); have rl := BR.lt; have p0 := BP.cell 0 _ rfl; have pl := BP.lt
      have ilt : ¬ ((k : Int) < (n : Int)) := by omega
      clear hkn
      have hWr : (wr.setCell ⟨g + 1, 0, none⟩ (.slice P k cp)).rangeAt (g + 1) 0 [.slice P k cp] := by have := (BR.set (j := 0) (v := .slice P k cp) (by simp)).range; simpa using this
      repeat (first | go_values | go_skip | go_guarded | go_step | go_upon | (simp only []; go_at_K))
      try simp only [Exit.inBlock, Exit.then]
      refine bodyPost_ret (results_cell1 Tryz.results164 rfl hWr Tryz.underlying27 rfl sizeCat0) rfl ?_
      have d : Ch (fun t => t = g + 1) wr (wr.setCell ⟨g + 1, 0, none⟩ (.slice P k cp)) := Ch.set
      have RO9 := RO.ch cstK d (fun b hb h2 => by have h2 : b = g + 1 := h2; have := hFP b hb; omega)
      exact ⟨⟨P, k, cp, fp, rfl, RO9, hND, fun b hb => ⟨by have := hFP b hb; have := HG.out; omega, RO9.lt cstK b hb⟩⟩, d.belowB hB (by have := hB.size; omega) (fun b hb => by have hb : b = _ := hb; have := HG.out; omega)⟩
end Go.Proofs.YtdphdnllhmnelaaGreat
