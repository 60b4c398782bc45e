/- Contracts and lemmas: KState, StateL, StateI, CopyCatS. -/
import Derived.Test.YtdphdnllhmnelaaGreatJ2
import Derived.Test.YtdphdnllhmnelaaGreatJ9
import Derived.Deep.RegionHeld3
import Derived.StillTailTactics
import Derived.BigQuiet
import Derived.Deep.QuietTactic
import Derived.Test.YtdphdnllhmnelaaGreatJ4
/- State: how it lies in memory, the laws' helpers on it. -/
namespace Go.Proofs.YtdphdnllhmnelaaGreat
open Go.RowKit
structure Sta where
  cat : Ctl
  said : List Sai
def staNil : Sta := ⟨ctlNil, []⟩
def staAt (l : List Sta) (i : Nat) : Sta := l.getD i staNil
theorem staAt_get {l : List Sta} {k : Nat} (h : k < l.length) : staAt l k = l[k] := by simp [staAt, h]
theorem staAt_of {l : List Sta} {k : Nat} {x : Sta} (h : l[k]? = some x) : staAt l k = x := by simp [staAt, h]
/-- its cells, its value -/
def staL (x : Sta) (s1 : Value) (s2 : Value) : List Value := [s1, s2]
def staV (x : Sta) (s1 : Value) (s2 : Value) : Value := .agg #[s1, s2]
def staR (w : World) (cs : List Value) (x : Sta) : Prop := ∃ (A1 : Option Addr) (n1 c1 : Nat) (A2 : Option Addr) (n2 c2 : Nat), cs = staL x (.slice A1 n1 c1) (.slice A2 n2 c2) ∧ RowR cstR 2 w A1 n1 c1 x.cat.sets ∧ RowR saiR 3 w A2 n2 c2 x.said
def staF (fp : List Nat) (w : World) (cs : List Value) (x : Sta) : Prop := ∃ (A1 : Option Addr) (n1 c1 : Nat) (A2 : Option Addr) (n2 c2 : Nat) (f1 f2 : List Nat), cs = staL x (.slice A1 n1 c1) (.slice A2 n2 c2) ∧ fp = f1 ++ f2 ∧ RowO cstF 165 2 f1 w A1 n1 c1 x.cat.sets ∧ RowO saiF 114 3 f2 w A2 n2 c2 x.said
theorem staK : KindOk staR staF 2 where
  rlen := fun h => by obtain ⟨A1, n1, c1, A2, n2, c2, rfl, h1, h2⟩ := h; rfl
  rkeep := fun h hb => by obtain ⟨A1, n1, c1, A2, n2, c2, rfl, h1, h2⟩ := h; exact ⟨A1, n1, c1, A2, n2, c2, rfl, h1.keep cstK hb, h2.keep saiK hb⟩
  flt := fun h b hb => by
    obtain ⟨A1, n1, c1, A2, n2, c2, f1, f2, rfl, rfl, h1, h2⟩ := h
    simp only [List.mem_append] at hb
    rcases hb with hb | hb
    · exact h1.lt cstK b hb
    · exact h2.lt saiK b hb
  fch := fun h hc hS => by
    obtain ⟨A1, n1, c1, A2, n2, c2, f1, f2, rfl, rfl, h1, h2⟩ := h
    exact ⟨A1, n1, c1, A2, n2, c2, _, _, rfl, rfl, h1.ch cstK hc (fun b hb => hS b (by simp [hb])), h2.ch saiK hc (fun b hb => hS b (by simp [hb]))⟩
  fr := fun h => by obtain ⟨A1, n1, c1, A2, n2, c2, f1, f2, rfl, rfl, h1, h2⟩ := h; exact ⟨A1, n1, c1, A2, n2, c2, rfl, h1.at_ cstK (by omega), h2.at_ saiK (by omega)⟩
  one := fun h v hv => by
    obtain ⟨A1, n1, c1, A2, n2, c2, rfl, h1, h2⟩ := h
    simp only [staL, List.mem_cons, List.not_mem_nil, or_false] at hv
    rcases hv with rfl | rfl <;> rfl
/-- its bounds -/
def staB (x : Sta) : Prop := ctlB x.cat ∧ saisB x.said
def stasB (l : List Sta) : Prop := l.length ≤ 9223372036854775807 ∧ ∀ y ∈ l, staB y
def staSz (x : Sta) : Nat := ctlSz x.cat + saisSz x.said
def stasSz (l : List Sta) : Nat := l.length + (l.map staSz).sum
theorem stas_el {l : List Sta} {i : Nat} {x : Sta} (hx : l[i]? = some x) : staSz x ≤ stasSz l := by have := (sum_el staSz hx).1; unfold stasSz; omega
/-- its marks -/
def staCnt (x : Sta) : Nat := ctlCnt x.cat + saisCnt x.said
def staTop (x : Sta) : Nat := ctlTop x.cat + saisCnt x.said
def stasCnt (l : List Sta) : Nat := (l.map staCnt).sum
def staMk (k : Int) (x : Sta) : Sta := ⟨ctlMk k x.cat, saisMk (k + ((cstsCnt x.cat.sets : Nat) : Int)) x.said⟩
def stasMk (k : Int) : List Sta → List Sta
  | [] => []
  | x :: l => staMk k x :: stasMk (k + (staCnt x : Nat)) l
def staTopMk (k : Int) (x : Sta) : Sta := ⟨ctlTopMk k x.cat, saisMk (k + ((ctlTop x.cat : Nat) : Int)) x.said⟩
theorem stasMk_len (k : Int) : ∀ l : List Sta, (stasMk k l).length = l.length
  | [] => rfl
  | x :: l => by simp [stasMk, stasMk_len]
theorem stasMk_snoc (k : Int) (x : Sta) : ∀ l : List Sta, stasMk k (l ++ [x]) = stasMk k l ++ [staMk (k + (stasCnt l : Nat)) x]
  | [] => by simp [stasMk, stasCnt]
  | y :: l => by
    have := stasMk_snoc (k + (staCnt y : Nat)) x l
    have e : k + (staCnt y : Nat) + ((stasCnt l : Nat) : Int) = k + ((stasCnt (y :: l) : Nat) : Int) := by simp only [stasCnt, List.map_cons, List.sum_cons]; push_cast; omega
    simp only [List.cons_append, stasMk, this, e]
theorem stasMk_at (k : Int) : ∀ (l : List Sta) (i : Nat) (x : Sta), l[i]? = some x → (stasMk k l)[i]? = some (staMk (k + (sumTo staCnt l i : Nat)) x)
  | [], i, x, h => by simp at h
  | y :: l, 0, x, h => by simp at h; subst h; simp [stasMk, sumTo]
  | y :: l, i + 1, x, h => by
    have := stasMk_at (k + (staCnt y : Nat)) l i x (by simpa using h)
    have e : k + (staCnt y : Nat) + ((sumTo staCnt l i : Nat) : Int) = k + ((sumTo staCnt (y :: l) (i + 1) : Nat) : Int) := by simp only [sumTo, List.take_succ_cons, List.map_cons, List.sum_cons]; push_cast; omega
    simp only [stasMk, List.getElem?_cons_succ, this, e]
theorem sta_cnt (x : Sta) : staCnt x ≤ 3 * (1 + staSz x) := by have g0 := ctl_cnt x.cat; have g1 := sais_cnt x.said; unfold staCnt staSz; omega
theorem stas_cnt : ∀ l : List Sta, stasCnt l ≤ 3 * stasSz l
  | [] => by simp [stasCnt]
  | x :: l => by have h1 := stas_cnt l; have h2 := sta_cnt x; simp only [stasCnt, stasSz, List.map_cons, List.sum_cons, List.length_cons] at *; omega
theorem sta_top (x : Sta) : staTop x ≤ 3 * staSz x := by have t0 := ctl_top x.cat; have t1 := sais_cnt x.said; unfold staTop staSz; omega
attribute [local irreducible] StrR IntR StrO IntO RowR RowO StrsAt IntsAt
set_option maxRecDepth 8000 in
theorem sta_eq (x : Sta) (A1 : Option Addr) (n1 c1 : Nat) (A2 : Option Addr) (n2 c2 : Nat) (A1' : Option Addr) (n1' c1' : Nat) (A2' : Option Addr) (n2' c2' : Nat) (w : World) (h1 : RowR cstR 2 w A1 n1 c1 x.cat.sets) (h2 : RowR saiR 3 w A2 n2 c2 x.said) (h1' : RowR cstR 2 w A1' n1' c1' x.cat.sets) (h2' : RowR saiR 3 w A2' n2' c2' x.said) (hs : staSz x ≤ 16777216) :
    Calls Tryz.prog 10 #[(staV x (.slice A1 n1 c1) (.slice A2 n2 c2)), (staV x (.slice A1' n1' c1') (.slice A2' n2' c2'))] w fun e w' => e = .returned (.bool true) ∧ Below w.heap.size w w' := by
  unfold staSz at hs
  unfold staV
  go_enter Tryz.func10, Tryz.ntmps10
  go_wp2_with fail
  refine (ctl_eq x.cat _ _ _ _ _ _ _ (h1.keep cstK (by go_grown)) (h1'.keep cstK (by go_grown)) (by omega)).mono ?_
  rintro e w1 ⟨rfl, hb1⟩
  obtain ⟨hc_w1, hf_w1⟩ := bcell hb1
  have hz_w1 := hb1.size
  try simp at hz_w1
  have hB_w1 : Below w.heap.size w w1 := bthen (by go_grown) hb1
  have hz_w1_0 : w.heap.size < w1.heap.size := by omega
  have hz_w1_1 : w.heap.size + 1 < w1.heap.size := by omega
  go_wp2_with fail
  refine (sais_eq x.said _ _ _ _ _ _ _ (h2.keep saiK hB_w1) (h2'.keep saiK hB_w1) (by omega)).mono ?_
  rintro e w2 ⟨rfl, hb2⟩
  obtain ⟨hc_w2, hf_w2⟩ := bcell hb2
  have hz_w2 := hb2.size
  try simp at hz_w2
  have hB_w2 : Below w.heap.size w w2 := bthen hB_w1 hb2
  have hz_w2_0 : w.heap.size < w2.heap.size := by omega
  have hz_w2_1 : w.heap.size + 1 < w2.heap.size := by omega
  go_wp2
  go_returns
  exact ⟨rfl, hB_w2⟩
set_option maxRecDepth 8000 in
theorem sta_mark (x : Sta) (f1 f2 : List Nat) (A1 : Option Addr) (n1 c1 : Nat) (A2 : Option Addr) (n2 c2 : Nat) (k : Int) (w : World) (h1 : RowO cstF 165 2 f1 w A1 n1 c1 x.cat.sets) (h2 : RowO saiF 114 3 f2 w A2 n2 c2 x.said) (hN : (f1 ++ f2).Nodup) (hs : staSz x ≤ 16777216) (hk0 : 0 < k) (hk1 : k ≤ 36028797018963968) :
    Calls Tryz.prog 15 #[(staV x (.slice A1 n1 c1) (.slice A2 n2 c2)), .int .i64 k] w fun e w' => e = .returned (.int .i64 (k + (staTop x : Nat))) ∧ RowO cstF 165 2 f1 w' A1 n1 c1 (staTopMk k x).cat.sets ∧ RowO saiF 114 3 f2 w' A2 n2 c2 (staTopMk k x).said ∧ Ch (fun b => b ∈ f1 ++ f2) w w' := by
  have htop := sta_top x
  have hsz := hs; unfold staSz at hsz; unfold staTop at htop
  unfold staV
  have al := (Below.refl w.heap.size w).alloc (Nat.le_refl _) (.cells #[.slice A1 n1 c1, .slice A2 n2 c2] 30)
  have a1 := h1.keep cstK al
  have a2 := h2.keep saiK al
  have hC0 : Ch (fun b => b ∈ f1 ++ f2) w (w.alloc (.cells #[.slice A1 n1 c1, .slice A2 n2 c2] 30)) := Ch.of_below al
  have e0 : (w.alloc (.cells #[.slice A1 n1 c1, .slice A2 n2 c2] 30)).cell? ⟨w.heap.size, 0, none⟩ = some (.slice A1 n1 c1) := by simp [go_sem]
  have e1 : (w.alloc (.cells #[.slice A1 n1 c1, .slice A2 n2 c2] 30)).cell? ⟨w.heap.size, 1, none⟩ = some (.slice A2 n2 c2) := by simp [go_sem]
  have lt1 := h1.lt cstK
  have lt2 := h2.lt saiK
  have hD := hN; simp only [List.nodup_append, List.mem_append] at hD
  have hd12 : ∀ b ∈ f1, ¬ b ∈ f2 := fun b h1 h2 => by grind
  have hd21 : ∀ b ∈ f2, ¬ b ∈ f1 := fun b h1 h2 => by grind
  go_enter Tryz.func15, Tryz.ntmps15
  go_wp2_with fail
  refine (ctl_mark x.cat f1 _ _ _ _ _ a1 (by simp only [List.nodup_append] at hN; simp only [hN]) (by omega) (by omega) (by omega)).mono ?_
  rintro e w1 ⟨rfl, b1, hc1⟩
  have hC1 : Ch (fun b => b ∈ f1 ++ f2) w w1 := hC0.trans (hc1.mono (fun b hb => by grind))
  have e0' := hc1.cell e0 (by intro hb; have := lt1 _ hb; omega); clear e0; have e0 := e0'; clear e0'
  have e1' := hc1.cell e1 (by intro hb; have := lt1 _ hb; omega); clear e1; have e1 := e1'; clear e1'
  have a2' := a2.ch saiK hc1 hd21; clear a2; have a2 := a2'; clear a2'
  go_wp2_with fail
  refine (sais_mark x.said f2 _ _ _ _ _ a2 (by simp only [List.nodup_append] at hN; simp only [hN]) (by omega) (by omega) (by omega)).mono ?_
  rintro e w2 ⟨rfl, b2, hc2⟩
  have hC2 : Ch (fun b => b ∈ f1 ++ f2) w w2 := hC1.trans (hc2.mono (fun b hb => by grind))
  have e0' := hc2.cell e0 (by intro hb; have := lt2 _ hb; omega); clear e0; have e0 := e0'; clear e0'
  have e1' := hc2.cell e1 (by intro hb; have := lt2 _ hb; omega); clear e1; have e1 := e1'; clear e1'
  have b1' := b1.ch cstK hc2 hd12; clear b1; have b1 := b1'; clear b1'
  go_wp2
  go_returns
  refine ⟨ret_int (by unfold staTop; push_cast; omega), b1, b2, hC2⟩
set_option maxRecDepth 8000 in
theorem sta_held (x : Sta) (y : Sta) (A1 : Option Addr) (n1 c1 : Nat) (A2 : Option Addr) (n2 c2 : Nat) (k : Int) (w : World) (h1 : RowR cstR 2 w A1 n1 c1 (staTopMk k x).cat.sets) (h2 : RowR saiR 3 w A2 n2 c2 (staTopMk k x).said) (hs : staSz x ≤ 16777216) (hk0 : 0 < k) (hk1 : k ≤ 36028797018963968) :
    Calls Tryz.prog 16 #[(staV y (.slice A1 n1 c1) (.slice A2 n2 c2)), .int .i64 k] w fun e w' => e = .returned (.int .i64 (k + (staTop x : Nat))) ∧ Below w.heap.size w w' := by
  have htop := sta_top x
  have hsz := hs; unfold staSz at hsz; unfold staTop at htop
  unfold staV
  go_enter Tryz.func16, Tryz.ntmps16
  go_wp2_with fail
  refine (ctl_held x.cat y.cat _ _ _ _ _ (h1.keep cstK (by go_grown)) (by omega) (by omega) (by omega)).mono ?_
  rintro e w1 ⟨rfl, hb1⟩
  obtain ⟨hc_w1, hf_w1⟩ := bcell hb1
  have hz_w1 := hb1.size
  try simp at hz_w1
  have hB_w1 : Below w.heap.size w w1 := bthen (by go_grown) hb1
  have hz_w1_0 : w.heap.size < w1.heap.size := by omega
  go_wp2_with fail
  refine (sais_held x.said _ _ _ _ _ (h2.keep saiK hB_w1) (by omega) (by omega) (by omega)).mono ?_
  rintro e w2 ⟨rfl, hb2⟩
  obtain ⟨hc_w2, hf_w2⟩ := bcell hb2
  have hz_w2 := hb2.size
  try simp at hz_w2
  have hB_w2 : Below w.heap.size w w2 := bthen hB_w1 hb2
  have hz_w2_0 : w.heap.size < w2.heap.size := by omega
  go_wp2
  go_returns
  exact ⟨ret_int (by unfold staTop; push_cast; omega), hB_w2⟩
end Go.Proofs.YtdphdnllhmnelaaGreat
/- Plain laws on a state: what a command makes of it. -/
namespace Go.Proofs.YtdphdnllhmnelaaGreat
open Go.RowKit
/-- the first place with a client not below c -/
def saiFnd : List Sai → Nat → Int → Int
  | [], _, _ => -1
  | x :: l, k, c => if c ≤ x.cl then (k : Int) else saiFnd l (k + 1) c
theorem saiFnd_drop {l : List Sai} {k : Nat} (c : Int) (hk : k < l.length) : saiFnd (l.drop k) k c = if c ≤ (saiAt l k).cl then (k : Int) else saiFnd (l.drop (k + 1)) (k + 1) c := by
  rw [List.drop_eq_getElem_cons hk, saiFnd, saiAt_get hk]
theorem saiFnd_in (c : Int) : ∀ (l : List Sai) (k : Nat), saiFnd l k c = -1 ∧ (∀ x ∈ l, x.cl < c) ∨ ∃ j : Nat, j < l.length ∧ saiFnd l k c = ((k + j : Nat) : Int) ∧ c ≤ (saiAt l j).cl ∧ ∀ i, i < j → (saiAt l i).cl < c
  | [], k => .inl ⟨rfl, fun x hx => by cases hx⟩
  | x :: l, k => by
    unfold saiFnd
    by_cases h : c ≤ x.cl
    · rw [if_pos h]
      exact .inr ⟨0, by simp, by simp, by simpa [saiAt] using h, fun i hi => absurd hi (by omega)⟩
    · rw [if_neg h]
      rcases saiFnd_in c l (k + 1) with ⟨h1, h2⟩ | ⟨j, hj, h1, h2, h3⟩
      · exact .inl ⟨h1, fun y hy => by
          rcases List.mem_cons.1 hy with rfl | hy
          · omega
          · exact h2 y hy⟩
      · refine .inr ⟨j + 1, by simpa using hj, by rw [h1]; congr 1; omega, by simpa [saiAt] using h2, fun i hi => ?_⟩
        rcases i with _ | i
        · simp only [saiAt, List.getD_cons_zero]; omega
        · have := h3 i (by omega)
          simpa [saiAt] using this
def saiAtB (l : List Sai) (k : Nat) : Bool := inB (saiAt l k).cl 1 9 && inB (saiAt l k).no 1 1000 && (k == 0 || decide ((saiAt l (k - 1)).cl < (saiAt l k).cl))
def saisOkB (l : List Sai) : Bool := (List.range l.length).all (fun k => saiAtB l k)
theorem saisOk_yes {l : List Sai} (h : ∀ k, k < l.length → saiAtB l k = true) : saisOkB l = true := all_yes h
theorem saisOk_no {l : List Sai} {k : Nat} (hk : k < l.length) (h : saiAtB l k = false) : saisOkB l = false := all_no hk h
/-- a right state -/
def staOkB (x : Sta) : Bool := saisOkB x.said && catOkB x.cat
/-- the clients rise -/
def Rising (l : List Sai) : Prop := l.Pairwise (fun a b => a.cl < b.cl)
theorem saisOk_lt {l : List Sai} (h : saisOkB l = true) : ∀ j i, i < j → j < l.length → (saiAt l i).cl < (saiAt l j).cl
  | 0, i, hi, _ => absurd hi (by omega)
  | j + 1, i, hi, hj => by
    have h1 := all_at h hj
    unfold saiAtB at h1
    simp only [Bool.and_eq_true, Bool.or_eq_true, decide_eq_true_eq, Nat.add_sub_cancel] at h1
    have h2 : (saiAt l j).cl < (saiAt l (j + 1)).cl := by
      rcases h1.2 with h | h
      · simp at h
      · exact h
    by_cases e : i = j
    · subst e; exact h2
    · have := saisOk_lt h j i (by omega) (by omega)
      omega
theorem saisOk_rise {l : List Sai} (h : saisOkB l = true) : Rising l := by
  unfold Rising
  rw [List.pairwise_iff_getElem]
  intro i j hi hj hij
  have := saisOk_lt h j i hij hj
  rwa [saiAt_get hi, saiAt_get hj] at this
theorem saisOk_cl {l : List Sai} (h : saisOkB l = true) : ∀ k, k < l.length → (k : Int) + 1 ≤ (saiAt l k).cl ∧ (saiAt l k).cl ≤ 9
  | 0, hk => by
    have h1 := all_at h hk
    unfold saiAtB at h1
    simp only [Bool.and_eq_true] at h1
    have := inB_le h1.1.1
    omega
  | k + 1, hk => by
    have h1 := all_at h hk
    unfold saiAtB at h1
    simp only [Bool.and_eq_true] at h1
    have := inB_le h1.1.1
    have h2 := saisOk_lt h (k + 1) k (by omega) hk
    have h3 := saisOk_cl h k (by omega)
    omega
theorem saisOk_len {l : List Sai} (h : saisOkB l = true) : l.length ≤ 9 := by
  by_cases h0 : l.length = 0
  · omega
  · have := saisOk_cl h (l.length - 1) (by omega)
    omega
def oldT : ByteArray := ⟨#[111, 108, 100]⟩
/-- the answer that lies ready -/
def repS : List Sai → Cm → Option ByteArray
  | [], _ => none
  | s :: l, m => if s.cl ≠ m.cl then repS l m else if s.no = m.no then some s.tx else if m.no < s.no then some oldT else repS l m
theorem repS_drop {l : List Sai} {k : Nat} {x : Sai} (m : Cm) (hx : l[k]? = some x) : repS (l.drop k) m = if x.cl ≠ m.cl then repS (l.drop (k + 1)) m else if x.no = m.no then some x.tx else if m.no < x.no then some oldT else repS (l.drop (k + 1)) m := by
  obtain ⟨hk, rfl⟩ := List.getElem?_eq_some_iff.1 hx
  rw [List.drop_eq_getElem_cons hk, repS]
/-- what was said, with one more, in the place of its client -/
def putS : List Sai → Sai → List Sai
  | [], x => [x]
  | y :: l, x => if y.cl < x.cl then y :: putS l x else if y.cl = x.cl then x :: l else x :: y :: l
/-- the same, as the reference goes -/
def putF : List Sai → Sai → Bool → List Sai
  | [], x, put => if put then [] else [x]
  | y :: l, x, put => (if put = false ∧ x.cl ≤ y.cl then [x] else []) ++ ((if y.cl = x.cl then [] else [y]) ++ putF l x (put || decide (x.cl ≤ y.cl)))
theorem putF_drop {l : List Sai} {k : Nat} {y : Sai} (x : Sai) (put : Bool) (hy : l[k]? = some y) :
    putF (l.drop k) x put = (if put = false ∧ x.cl ≤ y.cl then [x] else []) ++ ((if y.cl = x.cl then [] else [y]) ++ putF (l.drop (k + 1)) x (put || decide (x.cl ≤ y.cl))) := by
  obtain ⟨hk, rfl⟩ := List.getElem?_eq_some_iff.1 hy
  rw [List.drop_eq_getElem_cons hk, putF]
theorem putF_end {l : List Sai} {k : Nat} (x : Sai) (put : Bool) (hk : l.length ≤ k) : putF (l.drop k) x put = if put then [] else [x] := by
  rw [List.drop_eq_nil_of_le hk, putF]
theorem putF_true (x : Sai) : ∀ {l : List Sai}, (∀ y ∈ l, x.cl < y.cl) → putF l x true = l
  | [], _ => rfl
  | y :: l, h => by
    have h1 := h y List.mem_cons_self
    unfold putF
    rw [if_neg (by simp), if_neg (by omega), Bool.true_or, putF_true x (fun z hz => h z (List.mem_cons_of_mem _ hz))]
    rfl
theorem putF_put (x : Sai) : ∀ {l : List Sai}, Rising l → putF l x false = putS l x
  | [], _ => rfl
  | y :: l, h => by
    unfold Rising at h
    rw [List.pairwise_cons] at h
    unfold putF putS
    by_cases h1 : y.cl < x.cl
    · rw [if_neg (by omega), if_neg (by omega), if_pos h1, decide_eq_false (by omega), Bool.or_self, putF_put x h.2]
      rfl
    · have h2 : x.cl ≤ y.cl := by omega
      rw [if_pos ⟨rfl, h2⟩, if_neg h1, decide_eq_true h2, Bool.false_or, putF_true x (fun z hz => by have := h.1 z hz; omega)]
      by_cases h3 : y.cl = x.cl
      · rw [if_pos h3, if_pos h3]; rfl
      · rw [if_neg h3, if_neg h3]; rfl
theorem putS_end (x : Sai) : ∀ {l : List Sai}, (∀ y ∈ l, y.cl < x.cl) → putS l x = l ++ [x]
  | [], _ => rfl
  | y :: l, h => by
    unfold putS
    rw [if_pos (h y List.mem_cons_self), putS_end x (fun z hz => h z (List.mem_cons_of_mem _ hz))]
    rfl
theorem putS_at (x : Sai) : ∀ {l : List Sai} {k : Nat}, k < l.length → x.cl ≤ (saiAt l k).cl → (∀ i, i < k → (saiAt l i).cl < x.cl) → putS l x = if (saiAt l k).cl = x.cl then l.set k x else l.take k ++ x :: l.drop k
  | [], k, hk, _, _ => absurd hk (by simp)
  | y :: l, 0, _, h, _ => by
    simp only [saiAt, List.getD_cons_zero] at h ⊢
    unfold putS
    rw [if_neg (by omega)]
    split <;> simp
  | y :: l, k + 1, hk, h, hi => by
    have h0 := hi 0 (by omega)
    simp only [saiAt, List.getD_cons_zero, List.getD_cons_succ] at h h0 ⊢
    have ih := putS_at x (l := l) (k := k) (by simpa using hk) h (fun i hik => by have := hi (i + 1) (by omega); simpa [saiAt] using this)
    unfold putS
    rw [if_pos h0, ih]
    unfold saiAt
    split <;> simp
theorem repS_none {m : Cm} : ∀ {l : List Sai}, (∀ y ∈ l, y.cl ≠ m.cl) → repS l m = none
  | [], _ => rfl
  | y :: l, h => by
    unfold repS
    rw [if_pos (h y List.mem_cons_self), repS_none (fun z hz => h z (List.mem_cons_of_mem _ hz))]
theorem repS_at {m : Cm} : ∀ {l : List Sai} {k : Nat}, Rising l → k < l.length → m.cl ≤ (saiAt l k).cl → (∀ i, i < k → (saiAt l i).cl < m.cl) →
    repS l m = if (saiAt l k).cl ≠ m.cl then none else if (saiAt l k).no = m.no then some (saiAt l k).tx else if m.no < (saiAt l k).no then some oldT else none
  | [], k, _, hk, _, _ => absurd hk (by simp)
  | y :: l, 0, hr, _, h, _ => by
    unfold Rising at hr
    rw [List.pairwise_cons] at hr
    simp only [saiAt, List.getD_cons_zero] at h ⊢
    have hn : repS l m = none := repS_none (fun z hz => by have := hr.1 z hz; omega)
    unfold repS
    rw [hn]
  | y :: l, k + 1, hr, hk, h, hi => by
    unfold Rising at hr
    rw [List.pairwise_cons] at hr
    have h0 := hi 0 (by omega)
    simp only [saiAt, List.getD_cons_zero, List.getD_cons_succ] at h h0 ⊢
    have ih := repS_at (m := m) (l := l) (k := k) hr.2 (by simpa using hk) h (fun i hik => by have := hi (i + 1) (by omega); simpa [saiAt] using this)
    unfold repS
    rw [if_pos (by omega), ih]
    rfl
def saiNew (x : Sta) (m : Cm) : Sai := ⟨m.cl, m.no, (catDo x.cat m).2⟩
/-- what a command makes of a state, behind the answers that lie ready -/
def stGo (x : Sta) (m : Cm) : Sta × ByteArray :=
  match repS x.said m with
  | some t => (x, t)
  | none => (⟨(catDo x.cat m).1, putS x.said (saiNew x m)⟩, (catDo x.cat m).2)
/-- what a command makes of a state -/
def stDo (x : Sta) (m : Cm) : Sta × ByteArray :=
  if staOkB x = false then (⟨⟨[]⟩, []⟩, ByteArray.empty) else if cmOkB m = false then (x, ByteArray.empty) else if m.kd = 0 then (x, ByteArray.empty) else stGo x m
theorem stGo_some {x : Sta} {m : Cm} {t : ByteArray} (h : repS x.said m = some t) : stGo x m = (x, t) := by unfold stGo; rw [h]
theorem stGo_none {x : Sta} {m : Cm} (h : repS x.said m = none) : stGo x m = (⟨(catDo x.cat m).1, putS x.said (saiNew x m)⟩, (catDo x.cat m).2) := by unfold stGo; rw [h]
/-- commands one by one -/
def stPlay (x : Sta) : List Cm → Sta
  | [] => x
  | m :: l => stPlay (stDo x m).1 l
def staNew : Sta := ⟨⟨[]⟩, []⟩
theorem stPlay_snoc (x : Sta) (l : List Cm) (m : Cm) : stPlay x (l ++ [m]) = (stDo (stPlay x l) m).1 := by
  induction l generalizing x with
  | nil => rfl
  | cons a l ih => exact ih _
/-- the commands at the places of an order -/
def pickL (l : List Cm) : List Int → List Cm
  | [] => []
  | i :: o => if 0 ≤ i ∧ i < (l.length : Int) then cmAt l i.toNat :: pickL l o else pickL l o
def runL (l : List Cm) (o : List Int) : Sta := stPlay staNew (pickL l o)
/-- the bounds of a state -/
def StaBd (x : Sta) : Prop := CatBd x.cat ∧ x.said.length ≤ 10 ∧ ∀ y ∈ x.said, y.tx.size ≤ 700
theorem staBd_nil : StaBd staNew := ⟨catBd_nil, by simp [staNew], fun y hy => by cases hy⟩
theorem putS_mem {x : Sai} : ∀ {l : List Sai}, (putS l x).length ≤ l.length + 1 ∧ ∀ y ∈ putS l x, y ∈ l ∨ y = x
  | [] => ⟨by simp [putS], fun y hy => by simpa [putS] using hy⟩
  | z :: l => by
    unfold putS
    split
    · obtain ⟨h1, h2⟩ := putS_mem (x := x) (l := l)
      refine ⟨by simp only [List.length_cons]; omega, fun y hy => ?_⟩
      rcases List.mem_cons.1 hy with h | h
      · exact .inl (h ▸ List.mem_cons_self)
      · rcases h2 y h with h | h
        · exact .inl (List.mem_cons_of_mem _ h)
        · exact .inr h
    · split
      · refine ⟨by simp only [List.length_cons]; omega, fun y hy => ?_⟩
        rcases List.mem_cons.1 hy with h | h
        · exact .inr h
        · exact .inl (List.mem_cons_of_mem _ h)
      · refine ⟨by simp only [List.length_cons]; omega, fun y hy => ?_⟩
        rcases List.mem_cons.1 hy with h | h
        · exact .inr h
        · exact .inl h
theorem stDo_bd {x : Sta} {m : Cm} (h : StaBd x) : StaBd (stDo x m).1 := by
  unfold stDo
  split
  · exact staBd_nil
  rename_i h1
  have h2 : saisOkB x.said = true := by
    have : staOkB x = true := by simpa using h1
    unfold staOkB at this
    rw [Bool.and_eq_true] at this
    exact this.1
  have h3 := saisOk_len h2
  split
  · exact h
  split
  · exact h
  unfold stGo
  split
  · exact h
  · have k := catDo_bd (m := m) h.1
    have p := putS_mem (x := saiNew x m) (l := x.said)
    refine ⟨k.1, by have := p.1; simp only []; omega, fun y hy => ?_⟩
    rcases p.2 y hy with h5 | rfl
    · exact h.2.2 y h5
    · exact k.2
theorem stPlay_bd : ∀ (l : List Cm) {x : Sta}, StaBd x → StaBd (stPlay x l)
  | [], _, h => h
  | m :: l, _, h => stPlay_bd l (stDo_bd h)
theorem staBd_sz {x : Sta} (h : StaBd x) : staSz x ≤ 100000 := by
  have h1 := catBd_sz h.1
  have h2 := sum_le (l := x.said) (f := saiSz) (m := 700) h.2.2
  have := h.2.1
  unfold staSz saisSz
  omega
end Go.Proofs.YtdphdnllhmnelaaGreat
/- A state: the place of a client, is it right (both sides). -/
namespace Go.Proofs.YtdphdnllhmnelaaGreat
open Go.RowKit
attribute [local go_sem] Grow.cell Grow.frozen
theorem sizeSaid0 : (Tryz.prog.info? 114).map (·.size) = some 3 := by kernel_rfl
theorem sai_el {l : List Sai} {w : World} {n c b off i : Nat} (h : RowR saiR 3 w (some ⟨b, off, none⟩) n c l) (hi : i < n) : b < w.heap.size ∧ ∃ x, l[i]? = some x ∧ w.rangeAt b (off + i * 3) [.int .i64 x.cl, .int .i64 x.no, .string x.tx] := by
  obtain ⟨bl, x, cs, hx, rfl, hcell⟩ := h.elem_at hi
  exact ⟨bl, x, hx, hcell⟩
attribute [local irreducible] RowR saiFnd
set_option maxRecDepth 8000 in
theorem sai_fn (x : Sai) (cl : Int) (B : Nat) (w : World) (h0 : w.cell? ⟨B, 1, none⟩ = some (.int .i64 cl)) :
    Calls Tryz.prog 133 #[saiV x, .pointer (some ⟨B, 0, none⟩)] w fun r w' => r = .returned (.bool (decide (cl ≤ x.cl))) ∧ Below w.heap.size w w' := by
  have hlt := cell_lt h0
  unfold saiV
  by_cases hx : cl ≤ x.cl
  · have HX := Lib.hid hx
    have gd : decide (x.cl ≥ cl) = true := decide_eq_true hx
    clear hx
    go_enter Tryz.func133, Tryz.ntmps133
    go_wp2
    go_returns
    exact ⟨ret_bool (by simp [HX.out]), by go_grown⟩
  · have HX := Lib.hid hx
    have gd : decide (x.cl ≥ cl) = false := decide_eq_false hx
    clear hx
    go_enter Tryz.func133, Tryz.ntmps133
    go_wp2
    go_returns
    exact ⟨ret_bool (by simp [HX.out]), by go_grown⟩
set_option maxRecDepth 8000 in
theorem sai_idx (A : Option Addr) (n c : Nat) (l : List Sai) (cl : Int) (B : Nat) (w : World) (h : RowR saiR 3 w A n c l) (hn : n ≤ 9223372036854775807) (h0 : w.cell? ⟨B, 1, none⟩ = some (.int .i64 cl)) :
    Calls Tryz.prog 132 #[.slice A n c, .func (.func 133) #[] #[.pointer (some ⟨B, 0, none⟩)]] w fun r w' => r = .returned (.int .i64 (saiFnd l 0 cl)) ∧ Below w.heap.size w w' := by
  have HL := Lib.hid h.len.symm
  go_enter Tryz.func132, Tryz.ntmps132
  go_wp2
  go_loopw [8] (fun i wr => ∃ k : Nat, k ≤ n ∧ i = .int .i64 k ∧ saiFnd l 0 cl = saiFnd (l.drop k) k cl ∧ Below w.heap.size w wr) (fun i _ => n - (intOf i).toNat)
  case atStart => exact ⟨0, Nat.zero_le _, rfl, rfl, Below.refl _ _⟩
  case round =>
    obtain ⟨k, hk, rfl, hx, hbr⟩ := hrel
    have HX := Lib.hid hx; clear hx
    by_cases hlt : k < n
    · have hR := h.keep saiK hbr
      obtain ⟨b, off, rfl⟩ := hR.head (by omega)
      obtain ⟨bl, x, hx, hcr⟩ := sai_el hR hlt
      have HP := Lib.hid (saiFnd_drop cl (show k < l.length by have := HL.out; omega))
      have HA := Lib.hid (saiAt_of hx)
      have g0 := keep_cell hbr h0
      clear hx
      repeat (first | ((with_reducible refine wpList_load_o 114 (.tmp 14) b (off + k * 3) _ _ hcr Tryz.underlying114 sizeSaid0 ?_ ?_ ?_ ?_ ?_ ?_); (rfl); (rfl); (rfl); (rfl); (rfl)) | go_values | go_skip | go_guarded | go_step | go_upon | (simp only []; go_at_K))
      refine (sai_fn x cl B _ g0).mono ?_
      rintro r w1 ⟨rfl, hb1⟩
      by_cases hq : cl ≤ x.cl
      · rw [decide_eq_true hq]
        have HQ := Lib.hid hq
        clear hq
        go_wp2
        go_returns
        exact ⟨by rw [HX.out, HP.out, HA.out, if_pos HQ.out]; rfl, bthen hbr hb1⟩
      · rw [decide_eq_false hq]
        have HQ := Lib.hid hq
        clear hq
        go_wp2
        exact ⟨⟨k + 1, by omega, by go_num, by rw [HX.out, HP.out, HA.out, if_neg (by have := HQ.out; omega)], bthen hbr hb1⟩, by simp [intOf]; omega⟩
    · go_wp2
      go_returns
      obtain rfl : k = n := by omega
      exact ⟨by rw [HX.out, List.drop_eq_nil_of_le (by have := HL.out; omega), saiFnd]; rfl, hbr⟩
attribute [local irreducible] saiAtB saisOkB catOkB
set_option maxRecDepth 8000 in
set_option maxHeartbeats 4000000 in
theorem staOk_impl (x : Sta) (A1 : Option Addr) (n1 c1 : Nat) (A2 : Option Addr) (n2 c2 : Nat) (w : World) (h1 : RowR cstR 2 w A1 n1 c1 x.cat.sets) (h2 : RowR saiR 3 w A2 n2 c2 x.said) (hb : ctlB x.cat) (hn : n2 ≤ 1000) :
    Calls Tryz.prog 131 #[staV x (.slice A1 n1 c1) (.slice A2 n2 c2)] w fun e w' => e = .returned (.bool (staOkB x)) ∧ Below w.heap.size w w' := by
  have HL := Lib.hid h2.len
  have al := (Below.refl w.heap.size w).alloc (Nat.le_refl _) (.cells #[.slice A1 n1 c1, .slice A2 n2 c2] 30)
  have BX := BoxL.new w [.slice A1 n1 c1, .slice A2 n2 c2] 30
  unfold staV
  go_enter Tryz.func131, Tryz.ntmps131
  go_wp2_with fail
  obtain ⟨W, hW⟩ : ∃ W, W = w.alloc (.cells #[.slice A1 n1 c1, .slice A2 n2 c2] 30) := ⟨_, rfl⟩
  obtain ⟨g, hg⟩ : ∃ g, w.heap.size = g := ⟨_, rfl⟩
  have HG := Lib.hid hg
  rw [← hW] at BX al ⊢
  simp only [hg] at BX ⊢
  clear hW hg
  go_loopw [8] (fun i wr => ∃ (k : Nat), k ≤ n2 ∧ i = .int .i64 k ∧ (∀ j : Nat, j < k → saiAtB x.said j = true) ∧ Below W.heap.size W wr) (fun i _ => n2 - (intOf i).toNat)
  case atStart => exact ⟨0, Nat.zero_le _, rfl, fun j h => absurd h (by omega), Below.refl _ _⟩
  case round =>
    obtain ⟨k, hk, rfl, hcl, hbr⟩ := hrel
    have HCL := Lib.hid hcl; clear hcl
    have BR := BX.keep hbr
    have e0 := BR.cell 0 _ rfl
    have e1 := BR.cell 1 _ rfl
    have hgl := BR.lt
    have hB := bthen al hbr
    by_cases hlt : k < n2
    · have k1 := h2.keep saiK hB
      obtain ⟨b, off, rfl⟩ := k1.head (by omega)
      obtain ⟨bl, y, hy, hcr⟩ := sai_el k1 hlt
      have f0 : wr.cell? ⟨b, off + k * 3, none⟩ = some (.int .i64 y.cl) := hcr 0 _ rfl
      have f1 : wr.cell? ⟨b, off + k * 3 + 1, none⟩ = some (.int .i64 y.no) := hcr 1 _ rfl
      have f2 : wr.cell? ⟨b, off + k * 3 + 2, none⟩ = some (.string y.tx) := hcr 2 _ rfl
      have HAX := Lib.hid (saiAt_of hy)
      clear hy hcr
      have aly := (Below.refl wr.heap.size wr).alloc (Nat.le_refl _) (.cells #[.int .i64 y.cl, .int .i64 y.no, .string y.tx] 114)
      have BY := BoxL.new wr [.int .i64 y.cl, .int .i64 y.no, .string y.tx] 114
      go_wp2_with fail
      obtain ⟨V, hV⟩ : ∃ V, V = wr.alloc (.cells #[.int .i64 y.cl, .int .i64 y.no, .string y.tx] 114) := ⟨_, rfl⟩
      obtain ⟨gy, hgy⟩ : ∃ g, wr.heap.size = g := ⟨_, rfl⟩
      rw [← hV] at BY aly ⊢
      simp only [hgy] at BY ⊢
      have HGY := Lib.hid hgy
      clear hV hgy
      have z0 := BY.cell 0 _ rfl; have z1 := BY.cell 1 _ rfl; have zl := BY.lt
      have BR2 := BR.keep aly
      have f0' := keep_cell aly f0
      clear e0 e1 hgl f0 f1 f2
      have e0 := BR2.cell 0 _ rfl
      have e1 := BR2.cell 1 _ rfl
      have hgl := BR2.lt
      have hbl := cell_lt f0'
      have hB2 := bthen hB aly
      have hbr2 := bthen hbr aly
      have k2 := h2.keep saiK hB2
      have HV := Lib.hid (show saiAtB x.said k = (inB y.cl 1 9 && inB y.no 1 1000 && (k == 0 || decide ((saiAt x.said (k - 1)).cl < y.cl))) by unfold saiAtB; rw [HAX.out])
      obtain ⟨q0, hq0⟩ : ∃ q, inB y.cl 1 9 = q := ⟨_, rfl⟩
      obtain ⟨q1, hq1⟩ : ∃ q, inB y.no 1 1000 = q := ⟨_, rfl⟩
      have Q0 := Lib.hid hq0; have Q1 := Lib.hid hq1
      cases q0
      · have HB := Lib.hid (show staOkB x = false by unfold staOkB; rw [saisOk_no (l := x.said) (k := k) (by have := HL.out; omega) (by rw [HV.out, Q0.out]; rfl)]; rfl)
        clear hq1
        refine wp_region_grow (by kernel_rfl) (by kernel_rfl) ?_
        repeat (first | go_big_quiet_step ((go_at_call 36; exact grow_same (within_any _ _ _ _))))
        refine wpQuiet_nil ?_
        intro _ hw'
        obtain ⟨⟨w4, hb4⟩, hw''⟩ := hw'
        change _ = w4 at hw''
        subst hw''
        go_wp2
        go_returns
        exact ⟨ret_bool HB.out.symm, bthen hB2 hb4⟩
      cases q1
      · have HB := Lib.hid (show staOkB x = false by unfold staOkB; rw [saisOk_no (l := x.said) (k := k) (by have := HL.out; omega) (by rw [HV.out, Q0.out, Q1.out]; rfl)]; rfl)
        refine wp_region_grow (by kernel_rfl) (by kernel_rfl) ?_
        repeat (first | go_big_quiet_step ((go_at_call 36; exact grow_same (within_any _ _ _ _))))
        refine wpQuiet_nil ?_
        intro _ hw'
        obtain ⟨⟨w4, hb4⟩, hw''⟩ := hw'
        change _ = w4 at hw''
        subst hw''
        go_wp2
        go_returns
        exact ⟨ret_bool HB.out.symm, bthen hB2 hb4⟩
      by_cases hk0 : k = 0
      · have HK := Lib.hid (show saiAtB x.said k = true by rw [HV.out, Q0.out, Q1.out, hk0]; rfl)
        have gd0 : decide ((k : Int) > 0) = false := by rw [decide_eq_false_iff_not]; omega
        have gd00 : decide (0 < k) = false := by rw [decide_eq_false_iff_not]; omega
        have gd000 : ¬ 0 < k := by omega
        clear hk0
        refine wp_region_grow (by kernel_rfl) (by kernel_rfl) ?_
        repeat (first | go_big_quiet_step ((go_at_call 36; exact grow_same (within_any _ _ _ _))))
        refine wpQuiet_nil ?_
        intro _ hw'
        obtain ⟨⟨w4, hb4⟩, hw''⟩ := hw'
        change _ = w4 at hw''
        subst hw''
        go_wp2
        exact ⟨⟨k + 1, by omega, by go_num, upto_succ HCL.out HK.out, bthen hbr2 hb4⟩, by simp [intOf]; omega⟩
      · skip
        obtain ⟨k', rfl⟩ : ∃ k', k = k' + 1 := ⟨k - 1, by omega⟩
        clear hk0
        obtain ⟨_, u, hu, hcru⟩ := sai_el k2 (show k' < n2 by omega)
        have u0 : V.cell? ⟨b, off + k' * 3, none⟩ = some (.int .i64 u.cl) := hcru 0 _ rfl
        have HAU := Lib.hid (saiAt_of hu)
        clear hcru hu
        have gd0 : decide (((k' + 1 : Nat) : Int) > 0) = true := by rw [decide_eq_true_eq]; omega
        have gd1 : (((k' + 1 : Nat) : Int)) - 1 = (k' : Int) := by omega
        have HV2 := Lib.hid (show saiAtB x.said (k' + 1) = decide (u.cl < y.cl) by rw [HV.out, Nat.add_sub_cancel, HAU.out, Q0.out, Q1.out]; simp)
        by_cases hlu : u.cl < y.cl
        · have gd2 : decide (u.cl ≥ y.cl) = false := decide_eq_false (by omega)
          have HU := Lib.hid hlu; clear hlu
          refine wp_region_grow (by kernel_rfl) (by kernel_rfl) ?_
          repeat (first | go_big_quiet_step ((go_at_call 36; exact grow_same (within_any _ _ _ _))))
          refine wpQuiet_nil ?_
          intro _ hw'
          obtain ⟨⟨w4, hb4⟩, hw''⟩ := hw'
          change _ = w4 at hw''
          subst hw''
          go_wp2
          exact ⟨⟨k' + 1 + 1, by omega, by go_num, upto_succ HCL.out (by rw [HV2.out]; exact decide_eq_true HU.out), bthen hbr2 hb4⟩, by simp [intOf]; omega⟩
        · have gd2 : decide (u.cl ≥ y.cl) = true := decide_eq_true (by omega)
          have HB := Lib.hid (show staOkB x = false by unfold staOkB; rw [saisOk_no (l := x.said) (k := k' + 1) (by have := HL.out; omega) (by rw [HV2.out]; exact decide_eq_false hlu)]; rfl)
          clear hlu
          refine wp_region_grow (by kernel_rfl) (by kernel_rfl) ?_
          repeat (first | go_big_quiet_step ((go_at_call 36; exact grow_same (within_any _ _ _ _))))
          refine wpQuiet_nil ?_
          intro _ hw'
          obtain ⟨⟨w4, hb4⟩, hw''⟩ := hw'
          change _ = w4 at hw''
          subst hw''
          go_wp2
          go_returns
          exact ⟨ret_bool HB.out.symm, bthen hB2 hb4⟩
    · have HK := Lib.hid (saisOk_yes (l := x.said) (fun j hj => HCL.out j (by have := HL.out; omega)))
      go_wp2_with fail
      have hco := catOk_impl x.cat A1 n1 c1 wr (h1.keep cstK hB) hb
      unfold ctlV at hco
      refine hco.mono ?_
      rintro e w5 ⟨rfl, hb5⟩
      clear hco
      go_wp2
      go_returns
      exact ⟨ret_bool (by unfold staOkB; rw [HK.out, Bool.true_and]), bthen hB hb5⟩
set_option maxRecDepth 8000 in
set_option maxHeartbeats 4000000 in
theorem staOk_spec (x : Sta) (A1 : Option Addr) (n1 c1 : Nat) (A2 : Option Addr) (n2 c2 : Nat) (w : World) (h1 : RowR cstR 2 w A1 n1 c1 x.cat.sets) (h2 : RowR saiR 3 w A2 n2 c2 x.said) (hb : ctlB x.cat) (hn : n2 ≤ 1000) :
    Calls Tryz.prog 126 #[staV x (.slice A1 n1 c1) (.slice A2 n2 c2)] w fun e w' => e = .returned (.bool (staOkB x)) ∧ Below w.heap.size w w' := by
  have HL := Lib.hid h2.len
  have al := (Below.refl w.heap.size w).alloc (Nat.le_refl _) (.cells #[.slice A1 n1 c1, .slice A2 n2 c2] 30)
  have BX := BoxL.new w [.slice A1 n1 c1, .slice A2 n2 c2] 30
  unfold staV
  go_enter Tryz.func126, Tryz.ntmps126
  go_wp2_with fail
  obtain ⟨W, hW⟩ : ∃ W, W = w.alloc (.cells #[.slice A1 n1 c1, .slice A2 n2 c2] 30) := ⟨_, rfl⟩
  obtain ⟨g, hg⟩ : ∃ g, w.heap.size = g := ⟨_, rfl⟩
  have HG := Lib.hid hg
  rw [← hW] at BX al ⊢
  simp only [hg] at BX ⊢
  clear hW hg
  have hco := catOk_spec x.cat A1 n1 c1 W (h1.keep cstK al) hb
  unfold ctlV at hco
  refine hco.mono ?_
  rintro e w1 ⟨rfl, hb1⟩
  clear hco
  obtain ⟨qc, hqc⟩ : ∃ q, catOkB x.cat = q := ⟨_, rfl⟩
  have QC := Lib.hid hqc
  rw [hqc]
  clear hqc
  have BX1 := BX.keep hb1
  have al1 := bthen al hb1
  clear BX al
  have BX := BX1
  have al := al1
  clear BX1 al1
  cases qc
  · have HB := Lib.hid (show staOkB x = false by unfold staOkB; rw [QC.out, Bool.and_false])
    go_wp2
    go_returns
    exact ⟨ret_bool HB.out.symm, al⟩
  go_wp2_with fail
  clear hb1
  obtain ⟨U, hU⟩ : ∃ U, U = w1 := ⟨_, rfl⟩
  subst hU
  go_loopw [3] (fun i wr => ∃ (k : Nat), k ≤ n2 ∧ i = .int .i64 k ∧ (∀ j : Nat, j < k → saiAtB x.said j = true) ∧ Below U.heap.size U wr) (fun i _ => n2 - (intOf i).toNat)
  case atStart => exact ⟨0, Nat.zero_le _, rfl, fun j h => absurd h (by omega), Below.refl _ _⟩
  case round =>
    obtain ⟨k, hk, rfl, hcl, hbr⟩ := hrel
    have HCL := Lib.hid hcl; clear hcl
    have BR := BX.keep hbr
    have e0 := BR.cell 0 _ rfl
    have e1 := BR.cell 1 _ rfl
    have hgl := BR.lt
    have hB := bthen al hbr
    by_cases hlt : k < n2
    · have k1 := h2.keep saiK hB
      obtain ⟨b, off, rfl⟩ := k1.head (by omega)
      obtain ⟨bl, y, hy, hcr⟩ := sai_el k1 hlt
      have f0 : wr.cell? ⟨b, off + k * 3, none⟩ = some (.int .i64 y.cl) := hcr 0 _ rfl
      have f1 : wr.cell? ⟨b, off + k * 3 + 1, none⟩ = some (.int .i64 y.no) := hcr 1 _ rfl
      have f2 : wr.cell? ⟨b, off + k * 3 + 2, none⟩ = some (.string y.tx) := hcr 2 _ rfl
      have HAX := Lib.hid (saiAt_of hy)
      clear hy hcr
      have aly := (Below.refl wr.heap.size wr).alloc (Nat.le_refl _) (.cells #[.int .i64 y.cl, .int .i64 y.no, .string y.tx] 114)
      have BY := BoxL.new wr [.int .i64 y.cl, .int .i64 y.no, .string y.tx] 114
      go_wp2_with fail
      obtain ⟨V, hV⟩ : ∃ V, V = wr.alloc (.cells #[.int .i64 y.cl, .int .i64 y.no, .string y.tx] 114) := ⟨_, rfl⟩
      obtain ⟨gy, hgy⟩ : ∃ g, wr.heap.size = g := ⟨_, rfl⟩
      rw [← hV] at BY aly ⊢
      simp only [hgy] at BY ⊢
      have HGY := Lib.hid hgy
      clear hV hgy
      have z0 := BY.cell 0 _ rfl; have z1 := BY.cell 1 _ rfl; have zl := BY.lt
      have BR2 := BR.keep aly
      have f0' := keep_cell aly f0
      clear e0 e1 hgl f0 f1 f2
      have e0 := BR2.cell 0 _ rfl
      have e1 := BR2.cell 1 _ rfl
      have hgl := BR2.lt
      have hbl := cell_lt f0'
      have hB2 := bthen hB aly
      have hbr2 := bthen hbr aly
      have k2 := h2.keep saiK hB2
      have HV := Lib.hid (show saiAtB x.said k = (inB y.cl 1 9 && inB y.no 1 1000 && (k == 0 || decide ((saiAt x.said (k - 1)).cl < y.cl))) by unfold saiAtB; rw [HAX.out])
      obtain ⟨q0, hq0⟩ : ∃ q, inB y.cl 1 9 = q := ⟨_, rfl⟩
      obtain ⟨q1, hq1⟩ : ∃ q, inB y.no 1 1000 = q := ⟨_, rfl⟩
      have Q0 := Lib.hid hq0; have Q1 := Lib.hid hq1
      cases q0
      · have HB := Lib.hid (show staOkB x = false by unfold staOkB; rw [saisOk_no (l := x.said) (k := k) (by have := HL.out; omega) (by rw [HV.out, Q0.out]; rfl)]; rfl)
        clear hq1
        refine wp_region_grow (by kernel_rfl) (by kernel_rfl) ?_
        repeat (first | go_big_quiet_step ((go_at_call 99; exact grow_same (l1In_any _ _ _ _))))
        refine wpQuiet_nil ?_
        intro _ hw'
        obtain ⟨⟨w4, hb4⟩, hw''⟩ := hw'
        change _ = w4 at hw''
        subst hw''
        go_wp2
        go_returns
        exact ⟨ret_bool HB.out.symm, bthen hB2 hb4⟩
      cases q1
      · have HB := Lib.hid (show staOkB x = false by unfold staOkB; rw [saisOk_no (l := x.said) (k := k) (by have := HL.out; omega) (by rw [HV.out, Q0.out, Q1.out]; rfl)]; rfl)
        refine wp_region_grow (by kernel_rfl) (by kernel_rfl) ?_
        repeat (first | go_big_quiet_step ((go_at_call 99; exact grow_same (l1In_any _ _ _ _))))
        refine wpQuiet_nil ?_
        intro _ hw'
        obtain ⟨⟨w4, hb4⟩, hw''⟩ := hw'
        change _ = w4 at hw''
        subst hw''
        go_wp2
        go_returns
        exact ⟨ret_bool HB.out.symm, bthen hB2 hb4⟩
      by_cases hk0 : k = 0
      · have HK := Lib.hid (show saiAtB x.said k = true by rw [HV.out, Q0.out, Q1.out, hk0]; rfl)
        have gd0 : decide ((k : Int) > 0) = false := by rw [decide_eq_false_iff_not]; omega
        have gd00 : decide (0 < k) = false := by rw [decide_eq_false_iff_not]; omega
        have gd000 : ¬ 0 < k := by omega
        clear hk0
        refine wp_region_grow (by kernel_rfl) (by kernel_rfl) ?_
        repeat (first | go_big_quiet_step ((go_at_call 99; exact grow_same (l1In_any _ _ _ _))))
        refine wpQuiet_nil ?_
        intro _ hw'
        obtain ⟨⟨w4, hb4⟩, hw''⟩ := hw'
        change _ = w4 at hw''
        subst hw''
        go_wp2
        exact ⟨⟨k + 1, by omega, by go_num, upto_succ HCL.out HK.out, bthen hbr2 hb4⟩, by simp [intOf]; omega⟩
      · skip
        obtain ⟨k', rfl⟩ : ∃ k', k = k' + 1 := ⟨k - 1, by omega⟩
        clear hk0
        obtain ⟨_, u, hu, hcru⟩ := sai_el k2 (show k' < n2 by omega)
        have u0 : V.cell? ⟨b, off + k' * 3, none⟩ = some (.int .i64 u.cl) := hcru 0 _ rfl
        have HAU := Lib.hid (saiAt_of hu)
        clear hcru hu
        have gd0 : decide (((k' + 1 : Nat) : Int) > 0) = true := by rw [decide_eq_true_eq]; omega
        have gd1 : (((k' + 1 : Nat) : Int)) - 1 = (k' : Int) := by omega
        have HV2 := Lib.hid (show saiAtB x.said (k' + 1) = decide (u.cl < y.cl) by rw [HV.out, Nat.add_sub_cancel, HAU.out, Q0.out, Q1.out]; simp)
        by_cases hlu : u.cl < y.cl
        · have gd2 : decide (u.cl ≥ y.cl) = false := decide_eq_false (by omega)
          have HU := Lib.hid hlu; clear hlu
          refine wp_region_grow (by kernel_rfl) (by kernel_rfl) ?_
          repeat (first | go_big_quiet_step ((go_at_call 99; exact grow_same (l1In_any _ _ _ _))))
          refine wpQuiet_nil ?_
          intro _ hw'
          obtain ⟨⟨w4, hb4⟩, hw''⟩ := hw'
          change _ = w4 at hw''
          subst hw''
          go_wp2
          exact ⟨⟨k' + 1 + 1, by omega, by go_num, upto_succ HCL.out (by rw [HV2.out]; exact decide_eq_true HU.out), bthen hbr2 hb4⟩, by simp [intOf]; omega⟩
        · have gd2 : decide (u.cl ≥ y.cl) = true := decide_eq_true (by omega)
          have HB := Lib.hid (show staOkB x = false by unfold staOkB; rw [saisOk_no (l := x.said) (k := k' + 1) (by have := HL.out; omega) (by rw [HV2.out]; exact decide_eq_false hlu)]; rfl)
          clear hlu
          refine wp_region_grow (by kernel_rfl) (by kernel_rfl) ?_
          repeat (first | go_big_quiet_step ((go_at_call 99; exact grow_same (l1In_any _ _ _ _))))
          refine wpQuiet_nil ?_
          intro _ hw'
          obtain ⟨⟨w4, hb4⟩, hw''⟩ := hw'
          change _ = w4 at hw''
          subst hw''
          go_wp2
          go_returns
          exact ⟨ret_bool HB.out.symm, bthen hB2 hb4⟩
    · have HK := Lib.hid (saisOk_yes (l := x.said) (fun j hj => HCL.out j (by have := HL.out; omega)))
      go_wp2
      go_returns
      exact ⟨ret_bool (by unfold staOkB; rw [HK.out, QC.out]; rfl), hB⟩
end Go.Proofs.YtdphdnllhmnelaaGreat
/- Copies of a catalog: the reference's l15Copy. -/
namespace Go.Proofs.YtdphdnllhmnelaaGreat
open Go.RowKit
attribute [local irreducible] StrsAt StrR StrO RowR RowO
set_option maxRecDepth 8000 in
set_option maxHeartbeats 8000000 in
theorem copyCat_spec (x : Ctl) (A : Option Addr) (n c : Nat) (w : World) (h : RowR cstR 2 w A n c x.sets) (hW : ctlW x) :
    Calls Tryz.prog 164 #[ctlV x (.slice A n c)] w fun e w' => (∃ A' n' c' fp, e = .returned (ctlV x (.slice A' n' c')) ∧ RowO cstF 165 2 fp w' A' n' c' x.sets ∧ fp.Nodup ∧ ∀ b ∈ fp, w.heap.size ≤ b ∧ b < w'.heap.size) ∧ Below w.heap.size w w' := by
  have HL := Lib.hid h.len
  have hn : n ≤ 1000 := by have := h.len; have := hW.1; omega
  unfold ctlV
  go_enter Tryz.func164, Tryz.ntmps164
  go_wp2_with fail
  have al0 := (Below.refl (w).heap.size (w)).alloc (Nat.le_refl _) (.cells #[.slice A n c] 27)
  have X0 := BoxL.new (w) [.slice A n c] 27
  have al1 := (Below.refl ((w).alloc (.cells #[.slice A n c] 27)).heap.size ((w).alloc (.cells #[.slice A n c] 27))).alloc (Nat.le_refl _) (.cells #[.slice none 0 0] 27)
  have X1 := BoxL.new ((w).alloc (.cells #[.slice A n c] 27)) [.slice none 0 0] 27
  have al2 := (Below.refl (((w).alloc (.cells #[.slice A n c] 27)).alloc (.cells #[.slice none 0 0] 27)).heap.size (((w).alloc (.cells #[.slice A n c] 27)).alloc (.cells #[.slice none 0 0] 27))).alloc (Nat.le_refl _) (.cells #[.slice none 0 0] 27)
  have X2 := BoxL.new (((w).alloc (.cells #[.slice A n c] 27)).alloc (.cells #[.slice none 0 0] 27)) [.slice none 0 0] 27
  obtain ⟨W, hW0⟩ : ∃ W, W = (((w).alloc (.cells #[.slice A n c] 27)).alloc (.cells #[.slice none 0 0] 27)).alloc (.cells #[.slice none 0 0] 27) := ⟨_, rfl⟩
  have P0 : BoxL W w.heap.size [.slice A n c] := by rw [hW0]; exact (X0.keep al1).keep al2
  have R0 : BoxL W (w.heap.size + 1) [.slice none 0 0] := by rw [hW0]; have := X1.keep al2; simpa using this
  have O0 : BoxL W (w.heap.size + 1 + 1) [.slice none 0 0] := by rw [hW0]; simpa using X2
  have B0 : Below w.heap.size w W := by rw [hW0]; exact bthen (bthen al0 al1) al2
  rw [← hW0]
  clear X0 X1 X2 al0 al1 al2 hW0
  obtain ⟨g, hg⟩ : ∃ g, w.heap.size = g := ⟨_, rfl⟩
  have HG := Lib.hid hg
  simp only [hg] at P0 R0 O0 ⊢
  clear hg
  have hOl := O0.lt
  go_loopw [4] (fun i wr => ∃ (k : Nat) (P : Option Addr) (cp : Nat) (fp : List Nat), k ≤ n ∧ i = .int .i64 k ∧ BoxL wr g [.slice A n c] ∧ BoxL wr (g + 1) [.slice none 0 0] ∧ BoxL wr (g + 1 + 1) [.slice P k cp] ∧ RowO cstF 165 2 fp wr P k cp (x.sets.take k) ∧ fp.Nodup ∧ (∀ b ∈ fp, W.heap.size ≤ b) ∧ Below w.heap.size w wr ∧ W.heap.size ≤ wr.heap.size) (fun i _ => n - (intOf i).toNat)
  case atStart => exact ⟨0, none, 0, [], Nat.zero_le _, rfl, P0, R0, O0, by rw [List.take_zero]; exact RowO.nil, List.nodup_nil, (fun b hb => by cases hb), B0, Nat.le_refl _⟩
  case round =>
    clear P0 R0 O0 B0
    obtain ⟨k, P, cp, fp, hk, rfl, BP, BR, BO, RO, hND, hFP, hB, hz⟩ := hrel
    by_cases hlt : k < n
    · skip
      have k1 := h.keep cstK hB
      obtain ⟨b, off, rfl⟩ := k1.head (by omega)
      obtain ⟨bl, y, cs, hy, ⟨B1, m1, d1, rfl, y1⟩, hcell⟩ := k1.elem_at hlt
      have hyW := bounds_el hW.2 hy
      have f0 : wr.cell? ⟨b, off + k * 2, none⟩ = some (.string y.nm) := hcell 0 _ rfl
      have f1 : wr.cell? ⟨b, off + k * 2 + 1, none⟩ = some (.slice B1 m1 d1) := hcell 1 _ rfl
      have HT := Lib.hid (take_more hy)
      have HM := Lib.hid y1.len
      have hm1 : m1 ≤ 1000 := by have := y1.len; have := hyW.1; omega
      have p0 := BP.cell 0 _ rfl; have pl := BP.lt
      have hRl := RO.lt cstK
      clear hcell hy
      have al0 := (Below.refl (wr).heap.size (wr)).alloc (Nat.le_refl _) (.cells #[.string y.nm, .slice none 0 0] 165)
      have X0 := BoxL.new (wr) [.string y.nm, .slice none 0 0] 165
      go_wp2_with fail
      obtain ⟨V, hV⟩ : ∃ V, V = (wr).alloc (.cells #[.string y.nm, .slice none 0 0] 165) := ⟨_, rfl⟩
      have BX : BoxL V wr.heap.size [.string y.nm, .slice none 0 0] := by rw [hV]; exact X0
      have alV : Below wr.heap.size wr V := by rw [hV]; exact al0
      rw [← hV]
      clear X0 al0 hV
      obtain ⟨gx, hgx⟩ : ∃ g, wr.heap.size = g := ⟨_, rfl⟩
      have HGX := Lib.hid hgx
      simp only [hgx] at BX ⊢
      have hzx : wr.heap.size ≤ gx := by omega
      clear hgx
      have BP' := BP.keep alV; have BR' := BR.keep alV; have BO' := BO.keep alV; have RO' := RO.keep cstK alV; have hB' := bthen hB alV
      have y2 := y1.keep snpK alV
      have f0' := keep_cell alV f0; have f1' := keep_cell alV f1
      have hVz := alV.size
      have hbw : b < wr.heap.size := bl
      have hxV := BX.lt
      clear BP BR BO RO hB p0 pl f0 f1 k1 bl
      have bl2 := cell_lt f0'
      go_loopw [6] (fun i wq => ∃ (j : Nat) (Q : Option Addr) (cq : Nat) (fq : List Nat), j ≤ m1 ∧ i = .int .i64 j ∧ BoxL wq gx [.string y.nm, .slice Q j cq] ∧ RowO snpF 195 3 fq wq Q j cq (y.snaps.take j) ∧ fq.Nodup ∧ (∀ b ∈ fq, V.heap.size ≤ b) ∧ Ch (fun b => b = gx ∨ V.heap.size ≤ b) V wq ∧ V.heap.size ≤ wq.heap.size) (fun i _ => m1 - (intOf i).toNat)
      case atStart => exact ⟨0, none, 0, [], Nat.zero_le _, rfl, BX, by rw [List.take_zero]; exact RowO.nil, List.nodup_nil, (fun b hb => by cases hb), Ch.refl _, Nat.le_refl _⟩
      case round =>
        clear BX
        obtain ⟨j, Q, cq, fq, hj, rfl, BX, RQ, hNQ, hFQ, hCh, hzq⟩ := hrel
        obtain ⟨wq, hwq⟩ := Ch.nam hCh; subst hwq
        have hBq : Below w.heap.size w wq := hCh.belowB hB' (by have := hB'.size; omega) (fun b hb => by have := HG.out; rcases hb with hb | hb <;> omega)
        have nP : ∀ t : Nat, t < g + 3 → ¬ (t = gx ∨ V.heap.size ≤ t) := fun t ht => by omega
        have BPq := BP'.ch hCh (nP _ (by omega)); have BRq := BR'.ch hCh (nP _ (by omega)); have BOq := BO'.ch hCh (nP _ (by omega))
        by_cases hltj : j < m1
        · skip
          have yq : RowR snpR 3 wq B1 m1 d1 y.snaps := y1.keep snpK (alV.trans (hCh.below (B := wr.heap.size) (fun b hb => by rcases hb with hb | hb <;> omega) (by omega)))
          have k1 := h.keep cstK hBq
          have f0q : wq.cell? ⟨b, off + k * 2, none⟩ = some (.string y.nm) := hCh.cell f0' (by omega)
          have f1q : wq.cell? ⟨b, off + k * 2 + 1, none⟩ = some (.slice B1 m1 d1) := hCh.cell f1' (by omega)
          have blq := cell_lt f0q; have p0 := BPq.cell 0 _ rfl; have pl := BPq.lt
          obtain ⟨sb, so, rfl⟩ := yq.head (by omega)
          obtain ⟨sbl, v, cs2, hv, ⟨E1, em, ed, rfl, v1⟩, hcellv⟩ := yq.elem_at hltj
          have hvW := bounds_el hyW.2 hv
          have t0 : wq.cell? ⟨sb, so + j * 3, none⟩ = some (.string v.nm) := hcellv 0 _ rfl
          have t1 : wq.cell? ⟨sb, so + j * 3 + 1, none⟩ = some (.string v.tg) := hcellv 1 _ rfl
          have t2 : wq.cell? ⟨sb, so + j * 3 + 2, none⟩ = some (.slice E1 em ed) := hcellv 2 _ rfl
          have HTV := Lib.hid (take_more hv)
          have HE := Lib.hid v1.len
          have hem : em ≤ 1000 := by have := v1.len; omega
          have hRQl := RQ.lt snpK
          clear hcellv hv
          have aly := (Below.refl wq.heap.size wq).alloc (Nat.le_refl _) (.cells #[.string v.nm, .string v.tg, .slice E1 em ed] 195)
          have BY := BoxL.new wq [.string v.nm, .string v.tg, .slice E1 em ed] 195
          have ale := (Below.refl (wq.alloc (.cells #[.string v.nm, .string v.tg, .slice E1 em ed] 195)).heap.size (wq.alloc (.cells #[.string v.nm, .string v.tg, .slice E1 em ed] 195))).alloc (Nat.le_refl _) (.cells #[] 9)
          have own0 : ((wq.alloc (.cells #[.string v.nm, .string v.tg, .slice E1 em ed] 195)).alloc (.cells #[] 9)).ownsRow (wq.heap.size + 1) 9 1 (.slice (some ⟨wq.heap.size + 1, 0, none⟩) 0 0) 0 [] := by simpa using own_empty (wq.alloc (.cells #[.string v.nm, .string v.tg, .slice E1 em ed] 195)) 9 1 (Nat.le_refl _)
          have hsrc := (v1.at_r'.keep (bthen aly ale)).cells
          have hnil := v1.nilcap
          have hbase : wq.heap.size + 1 ≤ ((wq.alloc (.cells #[.string v.nm, .string v.tg, .slice E1 em ed] 195)).alloc (.cells #[] 9)).heap.size := by simp
          have BZ := BY.keep ale
          have hbZ := bthen aly ale
          go_wp2_with (first | (at_builtin; refine wpList_app (P := Tryz.prog) _ rfl (.tmp 43) (.tmp 45) 46 rfl (wq.heap.size + 1) 9 _ 1 16 Tryz.underlying46 infoString rfl (by omega) (.slice (some ⟨wq.heap.size + 1, 0, none⟩) 0 0) _ _ rfl own0 E1 em ed (v.ch.map Value.string) rfl hsrc (strsT_one _) hnil (by unfold maxLen; omega) (by omega) hbase ?_; intro E2 ed2 w5 own5 hg5 hb5 hob5; refine stop_of ?_) | fail)
          have hbq5 : Below wq.heap.size wq w5 := hbZ.trans (hb5.mono (by omega))
          have BY5 := BZ.below hb5 (by omega)
          obtain ⟨gy, hgy⟩ : ∃ g, wq.heap.size = g := ⟨_, rfl⟩
          have HGY := Lib.hid hgy
          have hin : StrsIn (wq.heap.size + 1) w5.heap.size w5 E2 em ed2 v.ch := StrsIn.of_own (by simpa using own5)
          obtain ⟨f2, hn2, hf2, so2⟩ := strO_in hin
          have X5 := BX.keep hbq5; have RQ5 := RQ.keep snpK hbq5; have BP5 := BPq.keep hbq5
          have hzq5 := hbq5.size
          have hxl0 := BX.lt
          clear hg5 hb5 hob5 own5 own0 hsrc hnil hbase BZ hbZ ale aly BY t0 t1 t2 f0q f1q blq p0 pl BX RQ hin v1 sbl
          simp only [hgy] at BY5 hf2 hbq5 ⊢
          have hgxy : gx < gy := by omega
          have hVgy : V.heap.size ≤ gy := by omega
          have hgy5 : gy + 1 ≤ w5.heap.size := BY5.lt
          have hne1 : gx ≠ gy := by omega
          have hne2 : gy ≠ gx := by omega
          have hlt2 : ∀ b ∈ fq, V.heap.size ≤ b ∧ b < gy := fun b hb => ⟨hFQ b hb, by have := hRQl b hb; omega⟩
          clear hgy
          have one : Ch (fun t => t = gy) w5 (w5.setCell ⟨gy, 2, none⟩ (.slice E2 em ed2)) := Ch.set
          have Y6 := BY5.set (j := 2) (v := .slice E2 em ed2) (by simp)
          have X6 := X5.ch one (ne_blk (by omega)); have P6 := BP5.ch one (ne_blk (by omega))
          have RQ6 := RQ5.ch snpK one (fun b hb h2 => by have h2 : b = gy := h2; have := hlt2 b hb; omega)
          have so6 := so2.ch one (fun b hb h2 => by have h2 : b = gy := h2; have := (hf2 b hb).1; omega)
          obtain ⟨css, fps, rfl, own6, hlQ, E6⟩ := RQ6.ex
          have HLQ := Lib.hid hlQ; clear hlQ
          have y0 := BY5.cell 0 _ rfl; have y1_ := BY5.cell 1 _ rfl; have y2_ := BY5.cell 2 _ rfl; have yf := BY5.fz 2 (by simp); have yl := BY5.lt
          have x0 := X5.cell 0 _ rfl; have x1 := X5.cell 1 _ rfl; have xl := X5.lt
          have h6z := one.size
          clear RQ5 BP5
          unfold Stop
          go_wp2_with (first | (at_builtin; refine wpList_app1g (P := Tryz.prog) (w5.setCell ⟨gy, 2, none⟩ (.slice E2 em ed2)) rfl (.tmp 49) (.tmp 51) 163 rfl 0 195 _ 3 56 Tryz.underlying163 snpInfo rfl (by omega) (.slice Q j cq) _ _ rfl own6 #[.string v.nm, .string v.tg, .slice E2 em ed2] _ rfl (by simp) rfl (by simp [Value.oneCell']) (by unfold maxLen; omega) (by omega) (Nat.zero_le _) ?_; intro A' c' w8 own8 hgr hb8 hob; refine stop_of ?_) | fail)
          have hNN : ((blkL Q ++ fps.flatten) ++ f2).Nodup := nodup_new (m := gy) hNQ hn2 (fun x hx => (hlt2 x hx).2) (fun x hx => by have := (hf2 x hx).1; omega)
          obtain ⟨fp', RO8, hN8, hF8, hc8⟩ := row_app1 (x := v) snpK HLQ.out E6 (snpF_of so6) hNN own8 hgr hob (by omega)
          have hq8 : ∀ b ∈ blkL Q, V.heap.size ≤ b ∧ b < gy := fun b hb => hlt2 b (List.mem_append_left _ hb)
          have X8 := X6.ch hc8 (fun hb => by have := (hq8 _ hb).1; omega)
          have hC8 := ((hCh.trans (Ch.of_below (S := fun b => b = gx ∨ V.heap.size ≤ b) (HGY.out ▸ hbq5))).trans (one.mono (fun b hb => .inr (by have hb : b = gy := hb; omega)))).trans (hc8.mono (fun b hb => .inr (hq8 b hb).1))
          have hF9 : ∀ b ∈ fp', V.heap.size ≤ b := fun b hb => by
            rcases hF8 b hb with h1 | h1 | h1
            · exact (hlt2 b h1).1
            · have := (hf2 b h1).1; omega
            · omega
          have hz8 := hc8.size
          clear own6 E6 own8 hgr hob x0 x1 xl y0 y1_ y2_ yf yl X5 X6 BY5 Y6
          have x1 := X8.cell 1 _ rfl; have xf := X8.fz 1 (by simp); have xl := X8.lt
          unfold Stop
          go_wp2
          have d : Ch (fun t => t = gx) w8 (w8.setCell ⟨gx, 1, none⟩ (.slice A' (j + 1) c')) := Ch.set
          have hdz := d.size
          exact ⟨⟨j + 1, A', c', fp', by omega, by go_num, by simpa using X8.set (j := 1) (v := .slice A' (j + 1) c') (by simp), by rw [HTV.out]; exact RO8.ch snpK d (fun b hb h2 => by have h2 : b = gx := h2; have := hF9 b hb; omega), hN8, hF9, hC8.trans (d.mono (fun b hb => .inl hb)), by omega⟩, by simp [intOf]; omega⟩
        · skip
          have HJ := Lib.hid (show y.snaps.take j = y.snaps from List.take_of_length_le (by have := HM.out; omega))
          rw [HJ.out] at RQ
          have ROq := RO'.ch cstK hCh (fun b hb => by have := hRl b hb; omega)
          obtain ⟨css2, fps2, rfl, own2, hlP, E2⟩ := ROq.ex
          have HLP := Lib.hid hlP; clear hlP
          have x0 := BX.cell 0 _ rfl; have x1 := BX.cell 1 _ rfl; have xl := BX.lt
          have o0 := BOq.cell 0 _ rfl; have of0 := BOq.fz 0 (by simp); have ol := BOq.lt
          have f0q : wq.cell? ⟨b, off + k * 2, none⟩ = some (.string y.nm) := hCh.cell f0' (by omega)
          have f1q : wq.cell? ⟨b, off + k * 2 + 1, none⟩ = some (.slice B1 m1 d1) := hCh.cell f1' (by omega)
          have blq := cell_lt f0q; have p0 := BPq.cell 0 _ rfl; have pl := BPq.lt
          have iltq : ¬ ((j : Int) < (m1 : Int)) := by omega
          have hk5 : k ≤ 1000 := by omega
          go_wp2_with (first | (at_builtin; refine wpList_app1g (P := Tryz.prog) wq rfl (.tmp 55) (.tmp 57) 25 rfl 0 165 _ 2 40 Tryz.underlying25 cstInfo rfl (by omega) (.slice P k cp) _ _ rfl own2 #[.string y.nm, .slice Q j cq] _ rfl (by simp) rfl (by simp [Value.oneCell']) (by unfold maxLen; omega) (by omega) (Nat.zero_le _) ?_; intro A' c' w8 own8 hgr hb8 hob; refine stop_of ?_) | fail)
          have hge8 : ∀ b ∈ blkL P ++ fps2.flatten, W.heap.size ≤ b ∧ b < wr.heap.size := fun b hb => ⟨hFP b hb, hRl b hb⟩
          have hNN : ((blkL P ++ fps2.flatten) ++ fq).Nodup := nodup_new (m := V.heap.size) hND hNQ (fun x hx => by have := (hge8 x hx).2; omega) (fun x hx => hFQ x hx)
          obtain ⟨fp', RO8, hN8, hF8, hc8⟩ := row_app1 (x := y) cstK HLP.out E2 (cstF_of RQ) hNN own8 hgr hob (by omega)
          have hq8 : ∀ b ∈ blkL P, W.heap.size ≤ b := fun b hb => (hge8 b (List.mem_append_left _ hb)).1
          have BP8 := BPq.ch hc8 (fun hb => by have := hq8 _ hb; omega); have BR8 := BRq.ch hc8 (fun hb => by have := hq8 _ hb; omega); have BO8 := BOq.ch hc8 (fun hb => by have := hq8 _ hb; omega)
          have hB8 := hc8.belowB hBq (by have := hBq.size; omega) (fun b hb => by have := hq8 b hb; have := HG.out; omega)
          have hz8 := hc8.size
          clear own2 E2 own8 hgr hob o0 of0 ol x0 x1 xl BX ROq
          have o0 := BO8.cell 0 _ rfl; have of0 := BO8.fz 0 (by simp); have ol := BO8.lt
          unfold Stop
          go_wp2
          have d : Ch (fun k => k = g + 1 + 1) w8 (w8.setCell ⟨g + 1 + 1, 0, none⟩ (.slice A' (k + 1) c')) := Ch.set
          have hF9 : ∀ b ∈ fp', W.heap.size ≤ b := fun b hb => by
            rcases hF8 b hb with h1 | h1 | h1
            · exact (hge8 b h1).1
            · have := hFQ b h1; omega
            · omega
          have RO9 := RO8.ch cstK d (fun b hb h2 => by have h2 : b = g + 1 + 1 := h2; have := hF9 b hb; omega)
          have hdz := d.size
          refine ⟨⟨k + 1, A', c', fp', by omega, by go_num, BP8.ch d (ne_blk (by omega)), BR8.ch d (ne_blk (by omega)), by simpa using BO8.set (j := 0) (v := .slice A' (k + 1) c') (by simp), by rw [HT.out]; exact RO9, hN8, hF9, d.belowB hB8 (by have := hB8.size; omega) (fun b hb => by have hb : b = _ := hb; have := HG.out; omega), by omega⟩, by simp [intOf]; omega⟩
    · skip
      have hkn : k = n := by omega
      have HK := Lib.hid (show x.sets.take k = x.sets from List.take_of_length_le (by have := HL.out; omega))
      rw [HK.out] at RO
      have o0 := BO.cell 0 _ rfl; have ol := BO.lt; have r0 := BR.cell 0 _ rfl; have rf := BR.fz 0 (by simp); have rl := BR.lt; have p0 := BP.cell 0 _ rfl; have pl := BP.lt
      have ilt : ¬ ((k : Int) < (n : Int)) := by omega
      clear hkn
      have hWr : (wr.setCell ⟨g + 1, 0, none⟩ (.slice P k cp)).rangeAt (g + 1) 0 [.slice P k cp] := by have := (BR.set (j := 0) (v := .slice P k cp) (by simp)).range; simpa using this
      repeat (first | go_values | go_skip | go_guarded | go_step | go_upon | (simp only []; go_at_K))
      try simp only [Exit.inBlock, Exit.then]
      refine bodyPost_ret (results_cell1 Tryz.results164 rfl hWr Tryz.underlying27 rfl sizeCat0) rfl ?_
      have d : Ch (fun t => t = g + 1) wr (wr.setCell ⟨g + 1, 0, none⟩ (.slice P k cp)) := Ch.set
      have RO9 := RO.ch cstK d (fun b hb h2 => by have h2 : b = g + 1 := h2; have := hFP b hb; omega)
      exact ⟨⟨P, k, cp, fp, rfl, RO9, hND, fun b hb => ⟨by have := hFP b hb; have := HG.out; omega, RO9.lt cstK b hb⟩⟩, d.belowB hB (by have := hB.size; omega) (fun b hb => by have hb : b = _ := hb; have := HG.out; omega)⟩
end Go.Proofs.YtdphdnllhmnelaaGreat
