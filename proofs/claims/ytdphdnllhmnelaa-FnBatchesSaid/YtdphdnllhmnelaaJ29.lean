/- Contracts and lemmas: CmText, KSaid, KState, FitI, Fit, FitS, FlatK, Same, Mix, CopyCatS. -/
import Derived.Test.YtdphdnllhmnelaaJ18
import Derived.Test.YtdphdnllhmnelaaJ7
import Derived.Test.YtdphdnllhmnelaaJ17
import Derived.Deep.RegionHeld3
import Derived.StillTailTactics
import Derived.BigQuiet
import Derived.Deep.QuietTactic
import Derived.Test.YtdphdnllhmnelaaJ23
import Derived.Test.YtdphdnllhmnelaaJ21
import Derived.Test.YtdphdnllhmnelaaJ5
import Derived.Test.YtdphdnllhmnelaaJ2
import Derived.Test.YtdphdnllhmnelaaJ0
import Derived.Test.YtdphdnllhmnelaaJ15
import Derived.Test.YtdphdnllhmnelaaJ4
/- Plain laws: the text of a command, and its being read back. -/
namespace Go.Proofs.Ytdphdnllhmnelaa
open Go.RowKit

theorem inB_le {x lo hi : Int} (h : inB x lo hi = true) : lo ≤ x ∧ x ≤ hi := by simpa [inB] using h
theorem wordB_size {s : ByteArray} (h : wordB s = true) : s.size ≤ 8 := by
  unfold wordB at h
  rw [Bool.and_eq_true] at h
  have := inB_le h.1
  omega
theorem wifB_size {s : ByteArray} {b : Bool} (h : wifB s b = true) : s.size ≤ 8 := by
  unfold wifB at h
  split at h
  · exact wordB_size h
  · have : s = ByteArray.empty := by simpa using h
    subst this; exact Nat.zero_le _
theorem ok8_at {l : List ByteArray} (h : ok8 l = true) {j : Nat} (hj : j < l.length) : (sAt l j).size = 8 := by
  unfold ok8 at h
  rw [List.all_eq_true] at h
  simpa using h j (List.mem_range.2 hj)
/-- the bounds of a right command -/
structure CmBd (x : Cm) : Prop where
  kd : 0 ≤ x.kd ∧ x.kd ≤ 7
  cl : 0 ≤ x.cl ∧ x.cl ≤ 9
  no : 0 ≤ x.no ∧ x.no ≤ 1000
  n : 0 ≤ x.n ∧ x.n ≤ 9
  s : x.s.size ≤ 8
  nm : x.nm.size ≤ 8
  tg : x.tg.size ≤ 8
  ch : x.ch.length ≤ 4
  c8 : ∀ j, j < x.ch.length → (sAt x.ch j).size = 8
theorem cmOk_bd {x : Cm} (h : cmOkB x = true) : CmBd x := by
  unfold cmOkB at h
  split at h
  · unfold sameB cmNil eqS at h
    simp only [Bool.and_eq_true, decide_eq_true_eq] at h
    obtain ⟨⟨⟨⟨⟨⟨⟨h1, h2⟩, h3⟩, h4⟩, h5⟩, h6⟩, h7⟩, h8⟩ := h
    refine ⟨by omega, by omega, by omega, by omega, by rw [h4]; exact Nat.zero_le _, by rw [h5]; exact Nat.zero_le _, by rw [h6]; exact Nat.zero_le _, by rw [h8]; exact Nat.zero_le _, fun j hj => ?_⟩
    rw [h8] at hj; cases hj
  · simp only [Bool.and_eq_true] at h
    obtain ⟨⟨⟨⟨⟨⟨⟨h1, h2⟩, h3⟩, h4⟩, h5⟩, h6⟩, h7⟩, h8⟩ := h
    have k1 := inB_le h1
    have k2 := inB_le h2
    have k3 := inB_le h3
    have hn : 0 ≤ x.n ∧ x.n ≤ 9 := by
      rw [Bool.or_eq_true] at h7
      rcases h7 with h7 | h7
      · have : x.n = 0 := by simpa using h7
        omega
      · rw [Bool.and_eq_true] at h7; exact inB_le h7.2
    split at h8
    · rw [Bool.and_eq_true] at h8
      have k8 := inB_le h8.1
      exact ⟨by omega, by omega, by omega, hn, wifB_size h4, wifB_size h5, wifB_size h6, by omega, fun j hj => ok8_at h8.2 hj⟩
    · have k8 : x.ch.length = 0 := by simpa using h8
      exact ⟨by omega, by omega, by omega, hn, wifB_size h4, wifB_size h5, wifB_size h6, by omega, fun j hj => by omega⟩
def cmHd (x : Cm) : ByteArray := varS x.kd.toNat ++ varS x.cl.toNat ++ varS x.no.toNat ++ varS x.n.toNat ++ (varS x.s.size ++ x.s) ++ (varS x.nm.size ++ x.nm) ++ (varS x.tg.size ++ x.tg) ++ varS x.ch.length
def cmTo (x : Cm) : Nat → ByteArray
  | 0 => cmHd x
  | k + 1 => cmTo x k ++ sAt x.ch k
/-- a command as text -/
def cmText (x : Cm) : ByteArray := if cmOkB x = true then cmTo x x.ch.length else ByteArray.empty
/-- what is read so far agrees with whatever command the text is the text of: the numbers and texts -/
def CmJ (s : ByteArray) (kd cl no n : Nat) (a b t : ByteArray) (m : Nat) (cs : List ByteArray) (x : Sc) : Prop :=
  ∀ c, cmOkB c = true → cmText c = s → c.kd = kd ∧ c.cl = cl ∧ c.no = no ∧ c.n = n ∧ c.s = a ∧ c.nm = b ∧ c.tg = t ∧ m = c.ch.length ∧ cs = c.ch.take cs.length ∧ cs.length ≤ c.ch.length ∧ x = (chL (c.ch.drop cs.length), false)
open Classical in
noncomputable def rdCm (s : ByteArray) : Cm := if h : ∃ c, cmOkB c = true ∧ cmText c = s then Classical.choose h else cmNil
open Classical in
noncomputable def rdCmB (s : ByteArray) : Bool := if ∃ c, cmOkB c = true ∧ cmText c = s then true else false
end Go.Proofs.Ytdphdnllhmnelaa
/- Said: how it lies in memory, the laws' helpers on it. -/
namespace Go.Proofs.Ytdphdnllhmnelaa
open Go.RowKit
structure Sai where
  cl : Int
  no : Int
  tx : ByteArray
def saiNil : Sai := ⟨0, 0, ByteArray.empty⟩
def saiAt (l : List Sai) (i : Nat) : Sai := l.getD i saiNil
theorem saiAt_get {l : List Sai} {k : Nat} (h : k < l.length) : saiAt l k = l[k] := by simp [saiAt, h]
theorem saiAt_of {l : List Sai} {k : Nat} {x : Sai} (h : l[k]? = some x) : saiAt l k = x := by simp [saiAt, h]
/-- its cells, its value -/
def saiL (x : Sai) : List Value := [.int .i64 x.cl, .int .i64 x.no, .string x.tx]
def saiV (x : Sai) : Value := .agg #[.int .i64 x.cl, .int .i64 x.no, .string x.tx]
def saiR (w : World) (cs : List Value) (x : Sai) : Prop := cs = saiL x
def saiF (fp : List Nat) (w : World) (cs : List Value) (x : Sai) : Prop := cs = saiL x ∧ fp = []
theorem saiK : KindOk saiR saiF 3 where
  rlen := fun h => by obtain rfl := h; rfl
  rkeep := fun h hb => by obtain rfl := h; exact rfl
  flt := fun h b hb => by obtain ⟨rfl, rfl⟩ := h; cases hb
  fch := fun h _ _ => h
  fr := fun h => by obtain ⟨rfl, rfl⟩ := h; exact rfl
  one := fun h v hv => by
    obtain rfl := h
    simp only [saiL, List.mem_cons, List.not_mem_nil, or_false] at hv
    rcases hv with rfl | rfl | rfl <;> rfl
/-- its bounds -/
def saiB (x : Sai) : Prop := x.tx.size ≤ 9223372036854775807
def saisB (l : List Sai) : Prop := l.length ≤ 9223372036854775807 ∧ ∀ y ∈ l, saiB y
def saiSz (x : Sai) : Nat := x.tx.size
def saisSz (l : List Sai) : Nat := l.length + (l.map saiSz).sum
/-- its marks -/
def saiCnt (x : Sai) : Nat := 1 + 1 + 1
def saisCnt (l : List Sai) : Nat := (l.map saiCnt).sum
def saiMk (k : Int) (x : Sai) : Sai := ⟨k, (k + 1), mtx (k + 1 + 1)⟩
def saisMk (k : Int) : List Sai → List Sai
  | [] => []
  | x :: l => saiMk k x :: saisMk (k + (saiCnt x : Nat)) l
attribute [local irreducible] StrR IntR StrO IntO RowR RowO StrsAt IntsAt
end Go.Proofs.Ytdphdnllhmnelaa
/- State: how it lies in memory, the laws' helpers on it. -/
namespace Go.Proofs.Ytdphdnllhmnelaa
open Go.RowKit
structure Sta where
  cat : Ctl
  said : List Sai
def staNil : Sta := ⟨ctlNil, []⟩
def staAt (l : List Sta) (i : Nat) : Sta := l.getD i staNil
/-- its cells, its value -/
def staL (x : Sta) (s1 : Value) (s2 : Value) : List Value := [s1, s2]
def staV (x : Sta) (s1 : Value) (s2 : Value) : Value := .agg #[s1, s2]
def staR (w : World) (cs : List Value) (x : Sta) : Prop := ∃ (A1 : Option Addr) (n1 c1 : Nat) (A2 : Option Addr) (n2 c2 : Nat), cs = staL x (.slice A1 n1 c1) (.slice A2 n2 c2) ∧ RowR cstR 2 w A1 n1 c1 x.cat.sets ∧ RowR saiR 3 w A2 n2 c2 x.said
def staF (fp : List Nat) (w : World) (cs : List Value) (x : Sta) : Prop := ∃ (A1 : Option Addr) (n1 c1 : Nat) (A2 : Option Addr) (n2 c2 : Nat) (f1 f2 : List Nat), cs = staL x (.slice A1 n1 c1) (.slice A2 n2 c2) ∧ fp = f1 ++ f2 ∧ RowO cstF 148 2 f1 w A1 n1 c1 x.cat.sets ∧ RowO saiF 153 3 f2 w A2 n2 c2 x.said
/-- its bounds -/
def staB (x : Sta) : Prop := ctlB x.cat ∧ saisB x.said
def stasB (l : List Sta) : Prop := l.length ≤ 9223372036854775807 ∧ ∀ y ∈ l, staB y
def staSz (x : Sta) : Nat := ctlSz x.cat + saisSz x.said
def stasSz (l : List Sta) : Nat := l.length + (l.map staSz).sum
/-- its marks -/
def staCnt (x : Sta) : Nat := ctlCnt x.cat + saisCnt x.said
def staTop (x : Sta) : Nat := ctlTop x.cat + saisCnt x.said
def stasCnt (l : List Sta) : Nat := (l.map staCnt).sum
def staMk (k : Int) (x : Sta) : Sta := ⟨ctlMk k x.cat, saisMk (k + ((cstsCnt x.cat.sets : Nat) : Int)) x.said⟩
def stasMk (k : Int) : List Sta → List Sta
  | [] => []
  | x :: l => staMk k x :: stasMk (k + (staCnt x : Nat)) l
def staTopMk (k : Int) (x : Sta) : Sta := ⟨ctlTopMk k x.cat, saisMk (k + ((ctlTop x.cat : Nat) : Int)) x.said⟩
attribute [local irreducible] StrR IntR StrO IntO RowR RowO StrsAt IntsAt
end Go.Proofs.Ytdphdnllhmnelaa
/- Flat (its length), slices.IndexFunc with BatchFits' test: contracts over new-style rows of []int. -/
namespace Go.Proofs.Ytdphdnllhmnelaa
open Go.RowKit
/-- a list of numbers that is read, with its capacity -/
def intRc (w : World) (cs : List Value) (x : List Int) : Prop := ∃ (A1 : Option Addr) (n1 c1 : Nat), cs = [.slice A1 n1 c1] ∧ IntR w A1 n1 c1 x ∧ n1 ≤ c1
theorem intKc : KindOk intRc intF 1 where
  rlen := fun h => by obtain ⟨A1, n1, c1, rfl, h1⟩ := h; rfl
  rkeep := fun h hb => by obtain ⟨A1, n1, c1, rfl, h1, h2⟩ := h; exact ⟨A1, n1, c1, rfl, h1.keep hb, h2⟩
  flt := fun h b hb => by obtain ⟨A1, n1, c1, rfl, h1⟩ := h; exact h1.lt b hb
  fch := fun h hc hS => by obtain ⟨A1, n1, c1, rfl, h1⟩ := h; exact ⟨A1, n1, c1, rfl, h1.ch hc hS⟩
  fr := fun h => by obtain ⟨A1, n1, c1, rfl, h1⟩ := h; exact ⟨A1, n1, c1, rfl, h1.at_, (own_le h1.2).1⟩
  one := fun h v hv => by
    obtain ⟨A1, n1, c1, rfl, h1⟩ := h
    simp only [List.mem_cons, List.not_mem_nil, or_false] at hv
    subst hv; rfl
theorem intR_cells {w : World} {A : Option Addr} {n c : Nat} {l : List Int} (h : IntR w A n c l) : CellsAt w A n 1 (l.map (Value.int .i64)) := by
  have h := h.1
  refine ⟨by simp [h.1], fun hn => ?_⟩
  obtain ⟨b, off, rfl, _, hc⟩ := h.2 hn
  refine ⟨b, off, rfl, fun j u hu => ?_⟩
  have hl := h.1
  have hj : j < l.length := by
    have := (List.getElem?_eq_some_iff.1 hu).1
    simpa using this
  rw [hc j (by omega)]
  simp [hj] at hu
  rw [← hu]; unfold intV; rw [iAt_get hj]
theorem intL_one (l : List Int) : ∀ u ∈ l.map (Value.int .i64), u.oneCell' = true := by
  intro u hu
  obtain ⟨x, _, rfl⟩ := List.mem_map.1 hu
  rfl
def flatTo (l : List (List Int)) (k : Nat) : List Int := (l.take k).flatten
theorem flatTo_zero (l : List (List Int)) : flatTo l 0 = [] := by simp [flatTo]
theorem flatTo_succ {l : List (List Int)} {k : Nat} {x : List Int} (hx : l[k]? = some x) : flatTo l (k + 1) = flatTo l k ++ x := by
  obtain ⟨h, rfl⟩ := List.getElem?_eq_some_iff.1 hx
  unfold flatTo; rw [take_snoc l k h, List.flatten_append, List.flatten_cons, List.flatten_nil, List.append_nil]
theorem flat_len_le : ∀ l : List (List Int), l.flatten.length ≤ intssSz l
  | [] => by simp
  | x :: l => by
    have := flat_len_le l
    unfold intssSz at this ⊢
    have e : intsSz x = x.length := rfl
    rw [List.flatten_cons, List.length_append, List.map_cons, List.sum_cons, List.length_cons, e]; omega
theorem flatTo_len (l : List (List Int)) (k : Nat) : (flatTo l k).length ≤ intssSz l := by
  have h : (flatTo l k).length ≤ l.flatten.length := by
    have e : l.flatten = flatTo l k ++ (l.drop k).flatten := by unfold flatTo; rw [← List.flatten_append, List.take_append_drop]
    rw [e]; simp
  have := flat_len_le l; omega
theorem flatTo_all (l : List (List Int)) {n : Nat} (h : l.length ≤ n) : flatTo l n = l.flatten := by unfold flatTo; rw [List.take_of_length_le h]
attribute [local irreducible] IntsAt IntR RowR
theorem flatLen_impl (A0 : Option Addr) (n0 c0 : Nat) (l0 : List (List Int)) (w : World) (h0 : RowR intRc 1 w A0 n0 c0 l0) (s0 : intssSz l0 ≤ 1048576) :
    Calls Try.prog 44 #[.slice A0 n0 c0] w fun e w' => ∃ O cap, e = .returned (.slice O l0.flatten.length cap) ∧ Below w.heap.size w w' := by
  have HL := Lib.hid h0.len.symm
  have hn : n0 ≤ 1048576 := by have := h0.len; unfold intssSz at s0; omega
  go_enter Try.func44, Try.ntmps44
  go_wp2
  go_loopw [3, 9] (fun o i wr => ∃ (k : Nat) (O : Option Addr) (cap : Nat), k ≤ n0 ∧ i = .int .i64 k ∧ o = .slice O (flatTo l0 k).length cap ∧ wr.ownsRow w.heap.size 3 1 (.slice O (flatTo l0 k).length cap) (flatTo l0 k).length ((flatTo l0 k).map (Value.int .i64)) ∧ Below w.heap.size w wr) (fun _ i _ => n0 - (intOf i).toNat)
  case atStart => exact ⟨0, _, _, Nat.zero_le _, rfl, by rw [flatTo_zero]; rfl, by rw [flatTo_zero]; exact own_empty w _ _ (Nat.le_refl _), by go_grown⟩
  case round =>
    obtain ⟨k, O, cap, hk, rfl, rfl, hown, hb⟩ := hrel
    by_cases hlt : k < n0
    · obtain ⟨b, off, rfl⟩ := h0.head (by omega)
      obtain ⟨hbl, x, cs, hx, ⟨A1, n1, c1, rfl, hat, hcap⟩, hcell⟩ := h0.elem_at hlt
      have hck := (hb.cell (p := ⟨b, off + k, none⟩) hbl).trans (show w.cell? ⟨b, off + k, none⟩ = some (.slice A1 n1 c1) by simpa using hcell 0 _ rfl)
      clear hcell
      have hat2 := hat.keep hb
      have hn1 : n1 ≤ 1048576 := by have := hat.len; have := intss_el hx; unfold intsSz at this; omega
      have hle := flatTo_len l0 k
      have HS := Lib.hid (flatTo_succ hx)
      have hcl := intR_cells hat2
      have HN := Lib.hid hat.len
      have HC := Lib.hid (show A1 = none → c1 = 0 by unfold IntR at hat; exact hat.2)
      clear hcap
      go_wp2_with (at_builtin; refine wpList_app (P := Try.prog) wr rfl (.tmp 13) (.tmp 14) 78 rfl w.heap.size 3 _ 1 8 Try.underlying78 infoInt rfl (by omega) (.slice O _ cap) _ _ rfl hown A1 n1 c1 (x.map (Value.int .i64)) rfl hcl (intL_one _) HC.out (by unfold maxLen; omega) (by omega) hb.size ?_; intro A' c' w1 hown1 hg1 hb1 _)
      refine ⟨⟨k + 1, A', c', by omega, by go_num, ?_⟩, by simp [intOf]; omega⟩
      rw [HS.out]
      have hn2 := HN.out
      subst hn2
      exact ⟨by simp, by simpa using hown1, hb.trans hb1⟩
    · go_wp2
      go_returns
      have e := flatTo_all l0 (n := k) (by have := HL.out; omega)
      exact ⟨O, cap, by rw [e]; rfl, hb⟩
theorem fit_fn (A : Option Addr) (n c : Nat) (x : List Int) (j : Int) (B : Nat) (w : World) (h : IntR w A n c x) (hn : n ≤ 1048576) (hB : w.cell? ⟨B, 0, none⟩ = some (.int .i64 j)) :
    Calls Try.prog 66 #[.slice A n c, .pointer (some ⟨B, 0, none⟩)] w fun r w' => r = .returned (.bool (hasI x j)) ∧ w = w' := by
  have hlt := cell_lt hB
  go_enter Try.func66, Try.ntmps66
  go_wp2_with fail
  refine (containsI_any A n c x j _ (IntR.at_r h) (by omega)).mono ?_
  rintro r w1 ⟨rfl, rfl⟩
  go_wp2
  go_returns
  exact ⟨rfl, rfl⟩
theorem fit_idx (A : Option Addr) (n c : Nat) (l : List (List Int)) (j : Int) (B : Nat) (w : World) (h : RowR intRc 1 w A n c l) (s0 : intssSz l ≤ 1048576) (hB : w.cell? ⟨B, 0, none⟩ = some (.int .i64 j)) :
    Calls Try.prog 65 #[.slice A n c, .func (.func 66) #[] #[.pointer (some ⟨B, 0, none⟩)]] w fun r w' => r = .returned (.int .i64 (posI l 0 j)) ∧ w = w' := by
  have HL := Lib.hid h.len.symm
  have hn : n ≤ 1048576 := by have := h.len; unfold intssSz at s0; omega
  go_enter Try.func65, Try.ntmps65
  go_wp2
  go_loopw [8] (fun i wr => ∃ k : Nat, k ≤ n ∧ i = .int .i64 k ∧ posI l 0 j = posI (l.drop k) k j ∧ w = wr) (fun i _ => n - (intOf i).toNat)
  case atStart => exact ⟨0, Nat.zero_le _, rfl, rfl, rfl⟩
  case round =>
    obtain ⟨k, hk, rfl, hx, rfl⟩ := hrel
    have HX := Lib.hid hx; clear hx
    by_cases hlt : k < n
    · obtain ⟨b, off, rfl⟩ := h.head (by omega)
      obtain ⟨hbl, x, cs, hx, ⟨A1, n1, c1, rfl, hat, hcap⟩, hcell⟩ := h.elem_at hlt
      have hck := (show w.cell? ⟨b, off + k, none⟩ = some (.slice A1 n1 c1) by simpa using hcell 0 _ rfl)
      clear hcell
      have hn1 : n1 ≤ 1048576 := by have := hat.len; have := intss_el hx; unfold intsSz at this; omega
      have HP := Lib.hid (posI_drop j (show k < l.length by have := HL.out; omega))
      have HA := Lib.hid (show lAt l k = x by obtain ⟨h1, h2⟩ := List.getElem?_eq_some_iff.1 hx; rw [lAt_get h1, h2])
      clear hx hcap
      go_wp2_with fail
      refine (fit_fn A1 n1 c1 x j B _ hat hn1 hB).mono ?_
      rintro r w1 ⟨rfl, rfl⟩
      obtain ⟨q, hq⟩ : ∃ q, hasI x j = q := ⟨_, rfl⟩
      have HQ := Lib.hid hq
      rw [hq]
      clear hq
      cases q
      · go_wp2
        exact ⟨⟨k + 1, by omega, by go_num, by rw [HX.out, HP.out, HA.out, HQ.out]; rfl, by first | trivial | rfl⟩, by simp [intOf]; omega⟩
      · go_wp2
        go_returns
        exact ⟨by rw [HX.out, HP.out, HA.out, HQ.out]; rfl, rfl⟩
    · go_wp2
      go_returns
      obtain rfl : k = n := by omega
      exact ⟨by rw [HX.out, List.drop_eq_nil_of_le (by have := HL.out; omega)]; rfl, rfl⟩
end Go.Proofs.Ytdphdnllhmnelaa
/- Contract of the program's BatchFits. -/
namespace Go.Proofs.Ytdphdnllhmnelaa
open Go.RowKit
attribute [local go_sem] Grow.cell Grow.frozen
theorem RowF.frz2 {e lo hi : Nat} {w : World} {g n c : Nat} {f : Nat → Value} (h : RowF e lo hi w (some ⟨g, 0, none⟩) n c f) (j : Nat) : w.frozen? ⟨g, j, none⟩ = false := (RowIn.own h).frozenAt j
theorem RowF.at2 {e lo hi : Nat} {w : World} {g n c : Nat} {f : Nat → Value} (h : RowF e lo hi w (some ⟨g, 0, none⟩) n c f) {j : Nat} (hj : j < n) : w.cell? ⟨g, j, none⟩ = some (f j) := by
  obtain ⟨b, off, hA, _, hc⟩ := h.vals (by omega)
  injection hA with hA; injection hA with e1 e2 _
  subst e1 e2
  simpa using hc j hj
/-- the places found so far -/
def posTo (b : List (List Int)) (k j : Nat) : Value := .int .i64 (if j < k then posI b 0 (j : Int) else 0)
theorem posTo_at {b : List (List Int)} {k j : Nat} (h : j < k) : posTo b k j = .int .i64 (posI b 0 (j : Int)) := by unfold posTo; rw [if_pos h]
theorem posTo_set (b : List (List Int)) (k : Nat) : (fun j => if j = k then Value.int .i64 (posI b 0 (k : Int)) else posTo b k j) = posTo b (k + 1) := by
  funext j
  by_cases h : j = k
  · subst h; rw [if_pos rfl, posTo_at (Nat.lt_succ_self _)]
  · rw [if_neg h]; unfold posTo
    by_cases h1 : j < k
    · rw [if_pos h1, if_pos (by omega)]
    · rw [if_neg h1, if_neg (by omega)]
theorem posI_bd (b : List (List Int)) (j : Int) (s : intssSz b ≤ 1048576) : -1 ≤ posI b 0 j ∧ posI b 0 j ≤ 1048576 := by
  have hb : b.length ≤ 1048576 := by unfold intssSz at s; omega
  rcases posI_or b 0 j with ⟨h, _⟩ | ⟨h1, h2, _⟩ <;> omega
attribute [local irreducible] StrR IntR StrO IntO RowR RowO StrsAt IntsAt clashB cmsOkB posI posTo fitsB RowF
set_option maxRecDepth 8000 in
set_option maxHeartbeats 4000000 in
theorem batchFits_impl (A0 : Option Addr) (n0 c0 : Nat) (l0 : List Cm) (A1 : Option Addr) (n1 c1 : Nat) (l1 : List (List Int)) (w : World) (h0 : RowR cmR 8 w A0 n0 c0 l0) (h1 : RowR intRc 1 w A1 n1 c1 l1) (s0 : cmsSz l0 ≤ 1048576) (s1 : intssSz l1 ≤ 1048576) (hb : cmsB l0) (hcap : n0 ≤ c0) :
    Calls Try.prog 22 #[.slice A0 n0 c0, .slice A1 n1 c1] w fun e w' => e = .returned (.bool (fitsB l0 l1)) ∧ Below w.heap.size w w' := by
  have HL := Lib.hid h0.len.symm
  go_enter Try.func22, Try.ntmps22
  go_wp2_with fail
  refine (flatLen_impl A1 n1 c1 l1 _ h1 s1).mono ?_
  rintro e w1 ⟨OF, cf, rfl, hb1⟩
  have h0a := h0.keep cmK hb1
  have h1a := h1.keep intKc hb1
  have hfl := flat_len_le l1
  obtain ⟨m, hm⟩ : ∃ m, l1.flatten.length = m := ⟨_, rfl⟩
  rw [hm] at hfl ⊢
  go_wp2_with fail
  refine (areCmds_impl l0 _ _ _ _ h0a hb).mono ?_
  rintro e w2 ⟨rfl, hb2⟩
  have hbb := bthen hb1 hb2
  obtain ⟨q, hq⟩ : ∃ q, cmsOkB l0 = q := ⟨_, rfl⟩
  rw [hq]
  cases q
  · have HB := Lib.hid (fits_no (l := l0) (b := l1) (fun h => by have := h.1; rw [hq] at this; cases this))
    clear hq hm
    go_wp2
    go_returns
    exact ⟨by rw [HB.out]; rfl, hbb⟩
  · have hn10 : n0 ≤ 10 := by have := cmsOk_len hq; have := HL.out; omega
    have HQ0 := Lib.hid hq; clear hq
    by_cases hmn : ¬ m = n0
    · have HB := Lib.hid (fits_no (l := l0) (b := l1) (fun h => by have := perm_len h.2.1; have := HL.out; omega))
      clear hm
      have gd : ((m : Int) != (n0 : Int)) = true := by simp; omega
      have gd2 : ((m : Int) == (n0 : Int)) = false := by simp; omega
      go_wp2
      go_returns
      exact ⟨by rw [HB.out]; rfl, hbb⟩
    obtain rfl : m = n0 := Decidable.not_not.1 hmn
    clear hmn
    have HM := Lib.hid hm; clear hm
    have h1b := h1a.keep intKc hb2
    have h0b := h0a.keep cmK hb2
    clear h0 h1 h0a h1a
    go_wp2_with (refine wpList_mk (P := Try.prog) _ rfl _ _ 78 rfl w2.heap.size 3 _ 1 8 Try.underlying78 infoInt _ _ _ _ m rfl rfl rfl rfl (by omega) (by unfold maxLen; omega) (Nat.le_refl _) ?_; intro w3 hown3 hg3 hb3)
    have hR : RowF 3 w2.heap.size (w2.heap.size + 1) w3 (some ⟨w2.heap.size, 0, none⟩) m m (posTo l1 0) := by
      have hx : (madeCells (Value.int .i64 0).cells (m * 1)).toList = List.replicate m (.int .i64 0) := by rw [Nat.mul_one]; exact toList_madeCells_one _ m
      rw [hx] at hown3
      have h3 : RowF 3 w2.heap.size w3.heap.size w3 (some ⟨w2.heap.size, 0, none⟩) m m (posTo l1 0) := RowF.of_own hown3 (fun j hj => by unfold posTo; simp [hj])
      unfold RowF at h3 ⊢
      exact ⟨h3.own, fun g hg => by have := hg.eq; omega⟩
    have hG3 : w2.heap.size < w3.heap.size := (own_lo hown3 w2.heap.size (by simp [blkL])).2
    clear hown3 hg3
    obtain ⟨G, hG⟩ : ∃ G, w2.heap.size = G := ⟨_, rfl⟩
    rw [hG] at hR hG3 hb3 ⊢
    have hbG : Below G w2 w2 := Below.refl _ _
    go_wp2_with fail
    go_loopw [29] (fun i wr => ∃ (k : Nat), k ≤ m ∧ i = .int .i64 k ∧ RowF 3 G (G + 1) wr (some ⟨G, 0, none⟩) m m (posTo l1 k) ∧ (∀ j : Nat, j < k → 0 ≤ posI l1 0 (j : Int)) ∧ G < wr.heap.size ∧ Below G w2 wr) (fun i _ => m - (intOf i).toNat)
    case atStart => exact ⟨0, Nat.zero_le _, rfl, hR, fun j hj => absurd hj (by omega), hG3, hb3⟩
    case round =>
      clear hR hG3 hb3 hbG
      obtain ⟨k, hk, rfl, hR, hpos, hGr, hbr⟩ := hrel
      have HPOS := Lib.hid hpos; clear hpos
      by_cases hlt : k < m
      · have hpb := posI_bd l1 k s1
        go_wp2_with fail
        have al := (Below.refl wr.heap.size wr).alloc (Nat.le_refl _) (.cells #[.int .i64 (k : Int)] 3)
        obtain ⟨V, hV⟩ : ∃ V, V = wr.alloc (.cells #[.int .i64 (k : Int)] 3) := ⟨_, rfl⟩
        have hzV := al.size
        have hBV : wr.heap.size < V.heap.size := by rw [hV]; simp
        have hcB : V.cell? ⟨wr.heap.size, 0, none⟩ = some (.int .i64 (k : Int)) := by rw [hV]; simp [go_sem]
        rw [← hV] at al ⊢
        have hRV := hR.keep al
        have hbV : Below G w2 V := hbr.trans (al.mono (by omega))
        have h1V := h1b.keep intKc (show Below w2.heap.size w2 V by rw [hG]; exact hbV)
        obtain ⟨B, hB⟩ : ∃ B, wr.heap.size = B := ⟨_, rfl⟩
        rw [hB] at hcB hGr hBV ⊢
        clear hV al hR hbr hB
        refine wp_region_dagb [32, 33, 34, 35, 36, 37] (by kernel_rfl) (by kernel_rfl) (fun D vs w' => ∃ v32 v33 v34 v35 v36 v37 : Value, vs = [v32, v33, v34, v35, v36, v37] ∧ w'.cell? ⟨B, 0, none⟩ = some (.int .i64 (k : Int)) ∧ (D 6 = false → RowF 3 G (G + 1) w' (some ⟨G, 0, none⟩) m m (posTo l1 k)) ∧ (D 6 = false → RowR intRc 1 w' A1 n1 c1 l1) ∧ Below G w2 w' ∧ B < w'.heap.size ∧ (D 0 = true → v32 = .slice (some ⟨G, 0, none⟩) m m) ∧ (D 1 = true → v33 = .int .i64 (k : Int)) ∧ (D 2 = true → v34 = .slice A1 n1 c1) ∧ (D 3 = true → v35 = .func (.func 66) #[] #[.pointer (some ⟨B, 0, none⟩)]) ∧ (D 4 = true → v36 = .int .i64 (posI l1 0 (k : Int))) ∧ (D 5 = true → v37 = .pointer (some ⟨G, k, none⟩)) ∧ (D 6 = true → RowF 3 G (G + 1) w' (some ⟨G, 0, none⟩) m m (posTo l1 (k + 1))))
          ⟨_, _, _, _, _, _, rfl, (keep_cell (Below.refl _ _).drew hcB), (fun _ => hRV.keep (Below.refl _ _).drew), (fun _ => h1V.keep intKc (Below.refl _ _).drew), (hbV.trans ((Below.refl _ _).drew.mono (show G ≤ V.heap.size by omega))), (by simpa using hBV), (fun h => by cases h), (fun h => by cases h), (fun h => by cases h), (fun h => by cases h), (fun h => by cases h), (fun h => by cases h), (fun h => by cases h)⟩ ?_ ?_
        · intro i D vs w' hi hD hdep hcl hI
          have hi' : i < 7 := hi
          obtain ⟨v32, v33, v34, v35, v36, v37, rfl, hcB, hR0, h10, hbw, hgw, k0, k1, k2, k3, k4, k5, k6⟩ := hI
          simp only [putAll, List.setIfInBounds_toArray, List.set_cons_succ, List.set_cons_zero]
          rcases (show i = 0 ∨ i = 1 ∨ i = 2 ∨ i = 3 ∨ i = 4 ∨ i = 5 ∨ i = 6 by omega) with rfl | rfl | rfl | rfl | rfl | rfl | rfl
          · refine wpOp_step (by simp only [List.getElem?_toArray, List.getElem?_cons_zero]; rfl) (fun K hK => ?_)
            go_simp
            refine hK _ _ ⟨[.slice (some ⟨G, 0, none⟩) m m, v33, v34, v35, v36, v37], ?_, _, _, _, _, _, _, rfl, hcB, hR0, h10, hbw, hgw, (fun _ => rfl), k1, k2, k3, k4, k5, k6⟩
            simp only [putAll, List.setIfInBounds_toArray, List.set_cons_succ, List.set_cons_zero]
          · refine wpOp_step (by simp only [List.getElem?_toArray, List.getElem?_cons_succ, List.getElem?_cons_zero]; rfl) (fun K hK => ?_)
            go_simp
            refine hK _ _ ⟨[v32, .int .i64 (k : Int), v34, v35, v36, v37], ?_, _, _, _, _, _, _, rfl, hcB, hR0, h10, hbw, hgw, k0, (fun _ => rfl), k2, k3, k4, k5, k6⟩
            simp only [putAll, List.setIfInBounds_toArray, List.set_cons_succ, List.set_cons_zero]
          · refine wpOp_step (by simp only [List.getElem?_toArray, List.getElem?_cons_succ, List.getElem?_cons_zero]; rfl) (fun K hK => ?_)
            go_simp
            refine hK _ _ ⟨[v32, v33, .slice A1 n1 c1, v35, v36, v37], ?_, _, _, _, _, _, _, rfl, hcB, hR0, h10, hbw, hgw, k0, k1, (fun _ => rfl), k3, k4, k5, k6⟩
            simp only [putAll, List.setIfInBounds_toArray, List.set_cons_succ, List.set_cons_zero]
          · refine wpOp_step (by simp only [List.getElem?_toArray, List.getElem?_cons_succ, List.getElem?_cons_zero]; rfl) (fun K hK => ?_)
            go_simp
            refine hK _ _ ⟨[v32, v33, v34, .func (.func 66) #[] #[.pointer (some ⟨B, 0, none⟩)], v36, v37], ?_, _, _, _, _, _, _, rfl, hcB, hR0, h10, hbw, hgw, k0, k1, k2, (fun _ => rfl), k4, k5, k6⟩
            simp only [putAll, List.setIfInBounds_toArray, List.set_cons_succ, List.set_cons_zero]
          · have e2 := k2 (hdep 2 (by kernel_rfl))
            subst e2
            have e3 := k3 (hdep 3 (by kernel_rfl))
            subst e3
            have n6 : D 6 = false := Bool.eq_false_iff.2 (fun h => absurd (hcl 6 4 h (by kernel_rfl)) (by rw [hD]; simp))
            refine wpOp_step (by simp only [List.getElem?_toArray, List.getElem?_cons_succ, List.getElem?_cons_zero]; rfl) (fun K hK => ?_)
            go_simp
            refine (fit_idx A1 n1 c1 l1 _ B _ (h10 n6) s1 hcB).mono ?_
            rintro e w4 ⟨rfl, rfl⟩
            refine hK _ _ ⟨[v32, v33, .slice A1 n1 c1, .func (.func 66) #[] #[.pointer (some ⟨B, 0, none⟩)], .int .i64 (posI l1 0 (k : Int)), v37], ?_, _, _, _, _, _, _, rfl, hcB, hR0, h10, hbw, hgw, k0, k1, (fun _ => rfl), (fun _ => rfl), (fun _ => rfl), k5, k6⟩
            simp only [putAll, List.setIfInBounds_toArray, List.set_cons_succ, List.set_cons_zero]
          · have e0 := k0 (hdep 0 (by kernel_rfl))
            subst e0
            have e1 := k1 (hdep 1 (by kernel_rfl))
            subst e1
            refine wpOp_step (by simp only [List.getElem?_toArray, List.getElem?_cons_succ, List.getElem?_cons_zero]; rfl) (fun K hK => ?_)
            go_simp
            refine hK _ _ ⟨[.slice (some ⟨G, 0, none⟩) m m, .int .i64 (k : Int), v34, v35, v36, .pointer (some ⟨G, k, none⟩)], ?_, _, _, _, _, _, _, rfl, hcB, hR0, h10, hbw, hgw, (fun _ => rfl), (fun _ => rfl), k2, k3, k4, (fun _ => rfl), k6⟩
            simp only [putAll, List.setIfInBounds_toArray, List.set_cons_succ, List.set_cons_zero]
          · have e4 := k4 (hdep 4 (by kernel_rfl))
            subst e4
            have e5 := k5 (hdep 5 (by kernel_rfl))
            subst e5
            have hRd := hR0 hD
            have c6 := hRd.at2 hlt
            have f6 := hRd.frz2 k
            have one : Ch (fun x => x = G) w' (w'.setCell ⟨G, k, none⟩ (.int .i64 (posI l1 0 (k : Int)))) := (Ch.refl (S := fun x => x = G) w').setCell (p := ⟨G, k, none⟩) rfl _
            refine wpOp_step (by simp only [List.getElem?_toArray, List.getElem?_cons_succ, List.getElem?_cons_zero]; rfl) (fun K hK => ?_)
            go_simp
            refine hK _ _ ⟨[v32, v33, v34, v35, .int .i64 (posI l1 0 (k : Int)), .pointer (some ⟨G, k, none⟩)], ?_, _, _, _, _, _, _, rfl, (one.cell hcB (by omega)), (fun h => absurd h (by simp)), (fun h => absurd h (by simp)), (hbw.setCell (Nat.le_refl _) _), (Nat.lt_of_lt_of_le hgw one.size), k0, k1, k2, k3, (fun _ => rfl), (fun _ => rfl), (fun _ => by have := hRd.store k (.int .i64 (posI l1 0 (k : Int))); rwa [posTo_set] at this)⟩
            simp only [putAll, List.setIfInBounds_toArray, List.set_cons_succ, List.set_cons_zero]
        · intro D vs w' hD hI
          obtain ⟨v32, v33, v34, v35, v36, v37, rfl, hcB, hR0, h10, hbw, hgw, k0, k1, k2, k3, k4, k5, k6⟩ := hI
          simp only [putAll, List.setIfInBounds_toArray, List.set_cons_succ, List.set_cons_zero]
          have hR1 := k6 (hD 6 (show 6 < 7 by decide))
          clear k0 k1 k2 k3 k4 k5 k6 hD hR0 h10 hRV h1V hbV
          have v1 := hR1.at2 hlt
          rw [posTo_at (Nat.lt_succ_self _)] at v1
          by_cases hneg : posI l1 0 (k : Int) < 0
          · have HB := Lib.hid (fits_no (l := l0) (b := l1) (fun h => by have := h.2.1.2 k (by have := HL.out; omega); omega))
            go_wp2
            go_returns
            exact ⟨by rw [HB.out]; rfl, hbb.trans (hbw.mono (by have := hbb.size; omega))⟩
          · have HNEG := Lib.hid hneg; clear hneg
            have gd : decide (posI l1 0 (k : Int) < 0) = false := by have := HNEG.out; simp; omega
            go_wp2
            refine ⟨⟨k + 1, by omega, by go_num, hR1, fun j hj => ?_, by omega, hbw⟩, by simp [intOf]; omega⟩
            by_cases e1 : j = k
            · subst e1; have := HNEG.out; omega
            · exact HPOS.out j (by omega)
      · have hkm : k = m := by omega
        rw [hkm] at hR
        have HPM := Lib.hid (perm_of (b := l1) HM.out (fun j hj => HPOS.out j (by omega)))
        have hbx := bthen hbb (show Below w2.heap.size w2 wr by rw [hG]; exact hbr)
        have h0c := h0b.keep cmK (show Below w2.heap.size w2 wr by rw [hG]; exact hbr)
        clear h1b HPOS hbr hG
        go_wp2_with fail
        have hRm : RowF 3 G (G + 1) wr (some ⟨G, 0, none⟩) m m (posTo l1 m) := hR
        obtain ⟨U, hU⟩ : ∃ U, U = wr := ⟨_, rfl⟩
        subst hU
        go_loopw [46] (fun i wx => ∃ (i2 : Nat), i2 ≤ m ∧ i = .int .i64 i2 ∧ (∀ i k : Nat, k < i → i < i2 → clashB (cmAt l0 i) (cmAt l0 k) = true → posI l1 0 k < posI l1 0 i) ∧ Below U.heap.size U wx) (fun i _ => m - (intOf i).toNat)
        case atStart => exact ⟨0, Nat.zero_le _, rfl, fun i k h1 h2 => absurd h2 (by omega), Below.refl _ _⟩
        case round =>
          obtain ⟨i, hi, rfl, hcl, hbi⟩ := hrel
          have HCL := Lib.hid hcl; clear hcl
          by_cases hlt : i < m
          · obtain ⟨b, off, rfl⟩ := h0c.head (by omega)
            obtain ⟨bl, x, cs, hx, ⟨A3, n3, c3, rfl, hx1⟩, hcell⟩ := h0c.elem_at hlt
            have e0 := (hbi.cell (p := ⟨b, off + i * 8, none⟩) bl).trans (show U.cell? ⟨b, off + i * 8, none⟩ = some (.int .i64 x.kd) from hcell 0 _ rfl)
            have e1 := (hbi.cell (p := ⟨b, off + i * 8 + 1, none⟩) bl).trans (show U.cell? ⟨b, off + i * 8 + 1, none⟩ = some (.int .i64 x.cl) from hcell 1 _ rfl)
            have e2 := (hbi.cell (p := ⟨b, off + i * 8 + 2, none⟩) bl).trans (show U.cell? ⟨b, off + i * 8 + 2, none⟩ = some (.int .i64 x.no) from hcell 2 _ rfl)
            have e3 := (hbi.cell (p := ⟨b, off + i * 8 + 3, none⟩) bl).trans (show U.cell? ⟨b, off + i * 8 + 3, none⟩ = some (.string x.s) from hcell 3 _ rfl)
            have e4 := (hbi.cell (p := ⟨b, off + i * 8 + 4, none⟩) bl).trans (show U.cell? ⟨b, off + i * 8 + 4, none⟩ = some (.string x.nm) from hcell 4 _ rfl)
            have e5 := (hbi.cell (p := ⟨b, off + i * 8 + 5, none⟩) bl).trans (show U.cell? ⟨b, off + i * 8 + 5, none⟩ = some (.string x.tg) from hcell 5 _ rfl)
            have e6 := (hbi.cell (p := ⟨b, off + i * 8 + 6, none⟩) bl).trans (show U.cell? ⟨b, off + i * 8 + 6, none⟩ = some (.int .i64 x.n) from hcell 6 _ rfl)
            have e7 := (hbi.cell (p := ⟨b, off + i * 8 + 7, none⟩) bl).trans (show U.cell? ⟨b, off + i * 8 + 7, none⟩ = some (.slice A3 n3 c3) from hcell 7 _ rfl)
            clear hcell
            have hbx1 := bounds_el hb.2 hx
            have al := (Below.refl wr.heap.size wr).alloc (Nat.le_refl _) (.cells #[.int .i64 x.kd, .int .i64 x.cl, .int .i64 x.no, .string x.s, .string x.nm, .string x.tg, .int .i64 x.n, .slice A3 n3 c3] 47)
            have hin : i ≤ c0 := by omega
            have hxr := hx1.keep (bthen hbi al)
            have hrow := h0c.keep cmK (bthen hbi al)
            have hcmi : cmAt l0 i = x := cmAt_of hx
            go_wp2
            obtain ⟨W, hW⟩ : ∃ W, W = wr.alloc (.cells #[.int .i64 x.kd, .int .i64 x.cl, .int .i64 x.no, .string x.s, .string x.nm, .string x.tg, .int .i64 x.n, .slice A3 n3 c3] 47) := ⟨_, rfl⟩
            obtain ⟨gc, hgc⟩ : ∃ g, wr.heap.size = g := ⟨_, rfl⟩
            have x0 : W.cell? ⟨gc, 0, none⟩ = some (.int .i64 x.kd) := by rw [hW, ← hgc]; simp [go_sem]
            have x1 : W.cell? ⟨gc, 1, none⟩ = some (.int .i64 x.cl) := by rw [hW, ← hgc]; simp [go_sem]
            have x2 : W.cell? ⟨gc, 2, none⟩ = some (.int .i64 x.no) := by rw [hW, ← hgc]; simp [go_sem]
            have x3 : W.cell? ⟨gc, 3, none⟩ = some (.string x.s) := by rw [hW, ← hgc]; simp [go_sem]
            have x4 : W.cell? ⟨gc, 4, none⟩ = some (.string x.nm) := by rw [hW, ← hgc]; simp [go_sem]
            have x5 : W.cell? ⟨gc, 5, none⟩ = some (.string x.tg) := by rw [hW, ← hgc]; simp [go_sem]
            have x6 : W.cell? ⟨gc, 6, none⟩ = some (.int .i64 x.n) := by rw [hW, ← hgc]; simp [go_sem]
            have x7 : W.cell? ⟨gc, 7, none⟩ = some (.slice A3 n3 c3) := by rw [hW, ← hgc]; simp [go_sem]
            rw [← hW] at al hxr hrow ⊢
            have hbW := bthen hbi al
            have hgW : gc < W.heap.size := cell_lt x0
            rw [hgc] at ⊢
            clear hW al
            clear e0 e1 e2 e3 e4 e5 e6 e7
            go_loopw [55] (fun t wy => ∃ (k : Nat), k ≤ i ∧ t = .int .i64 k ∧ (∀ k' : Nat, k' < k → clashB x (cmAt l0 k') = true → posI l1 0 k' < posI l1 0 i) ∧ Below W.heap.size W wy) (fun t _ => i - (intOf t).toNat)
            case atStart => exact ⟨0, Nat.zero_le _, rfl, fun k' h => absurd h (by omega), Below.refl _ _⟩
            case round =>
              obtain ⟨k, hk, rfl, hcl, hbs⟩ := hrel
              have HCK := Lib.hid hcl; clear hcl
              by_cases hlk : k < i
              · obtain ⟨_, y, cs', hy, ⟨A4, n4, c4, rfl, hy1⟩, hcelly⟩ := hrow.elem_at (i := k) (by omega)
                have blW : b < W.heap.size := Nat.lt_of_lt_of_le bl hbW.size
                have y0 := (hbs.cell (p := ⟨b, off + k * 8, none⟩) blW).trans (show W.cell? ⟨b, off + k * 8, none⟩ = some (.int .i64 y.kd) from hcelly 0 _ rfl)
                have y1 := (hbs.cell (p := ⟨b, off + k * 8 + 1, none⟩) blW).trans (show W.cell? ⟨b, off + k * 8 + 1, none⟩ = some (.int .i64 y.cl) from hcelly 1 _ rfl)
                have y2 := (hbs.cell (p := ⟨b, off + k * 8 + 2, none⟩) blW).trans (show W.cell? ⟨b, off + k * 8 + 2, none⟩ = some (.int .i64 y.no) from hcelly 2 _ rfl)
                have y3 := (hbs.cell (p := ⟨b, off + k * 8 + 3, none⟩) blW).trans (show W.cell? ⟨b, off + k * 8 + 3, none⟩ = some (.string y.s) from hcelly 3 _ rfl)
                have y4 := (hbs.cell (p := ⟨b, off + k * 8 + 4, none⟩) blW).trans (show W.cell? ⟨b, off + k * 8 + 4, none⟩ = some (.string y.nm) from hcelly 4 _ rfl)
                have y5 := (hbs.cell (p := ⟨b, off + k * 8 + 5, none⟩) blW).trans (show W.cell? ⟨b, off + k * 8 + 5, none⟩ = some (.string y.tg) from hcelly 5 _ rfl)
                have y6 := (hbs.cell (p := ⟨b, off + k * 8 + 6, none⟩) blW).trans (show W.cell? ⟨b, off + k * 8 + 6, none⟩ = some (.int .i64 y.n) from hcelly 6 _ rfl)
                have y7 := (hbs.cell (p := ⟨b, off + k * 8 + 7, none⟩) blW).trans (show W.cell? ⟨b, off + k * 8 + 7, none⟩ = some (.slice A4 n4 c4) from hcelly 7 _ rfl)
                clear hcelly
                have hby := bounds_el hb.2 hy
                have al := (Below.refl wr.heap.size wr).alloc (Nat.le_refl _) (.cells #[.int .i64 y.kd, .int .i64 y.cl, .int .i64 y.no, .string y.s, .string y.nm, .string y.tg, .int .i64 y.n, .slice A4 n4 c4] 47)
                have z0 := keep_cell al (keep_cell hbs x0)
                have z1 := keep_cell al (keep_cell hbs x1)
                have z2 := keep_cell al (keep_cell hbs x2)
                have z3 := keep_cell al (keep_cell hbs x3)
                have z4 := keep_cell al (keep_cell hbs x4)
                have z5 := keep_cell al (keep_cell hbs x5)
                have z6 := keep_cell al (keep_cell hbs x6)
                have z7 := keep_cell al (keep_cell hbs x7)
                have hyr := hy1.keep (bthen hbs al)
                have hxr2 := hxr.keep (bthen hbs al)
                have hcmk : cmAt l0 k = y := cmAt_of hy
                have hbsl := bthen hbs al
                have hbz := bthen hbW hbsl
                have v0 := (hbz.cell (p := ⟨G, k, none⟩) hGr).trans (hRm.at2 (j := k) (by omega))
                have v1 := (hbz.cell (p := ⟨G, i, none⟩) hGr).trans (hRm.at2 (j := i) hlt)
                rw [posTo_at (by omega)] at v0
                rw [posTo_at hlt] at v1
                go_wp2_with fail
                obtain ⟨Z, hZ⟩ : ∃ Z, Z = wr.alloc (.cells #[.int .i64 y.kd, .int .i64 y.cl, .int .i64 y.no, .string y.s, .string y.nm, .string y.tg, .int .i64 y.n, .slice A4 n4 c4] 47) := ⟨_, rfl⟩
                obtain ⟨gd, hgd⟩ : ∃ g, wr.heap.size = g := ⟨_, rfl⟩
                have q0 : Z.cell? ⟨gd, 0, none⟩ = some (.int .i64 y.kd) := by rw [hZ, ← hgd]; simp [go_sem]
                have q1 : Z.cell? ⟨gd, 1, none⟩ = some (.int .i64 y.cl) := by rw [hZ, ← hgd]; simp [go_sem]
                have q2 : Z.cell? ⟨gd, 2, none⟩ = some (.int .i64 y.no) := by rw [hZ, ← hgd]; simp [go_sem]
                have q3 : Z.cell? ⟨gd, 3, none⟩ = some (.string y.s) := by rw [hZ, ← hgd]; simp [go_sem]
                have q4 : Z.cell? ⟨gd, 4, none⟩ = some (.string y.nm) := by rw [hZ, ← hgd]; simp [go_sem]
                have q5 : Z.cell? ⟨gd, 5, none⟩ = some (.string y.tg) := by rw [hZ, ← hgd]; simp [go_sem]
                have q6 : Z.cell? ⟨gd, 6, none⟩ = some (.int .i64 y.n) := by rw [hZ, ← hgd]; simp [go_sem]
                have q7 : Z.cell? ⟨gd, 7, none⟩ = some (.slice A4 n4 c4) := by rw [hZ, ← hgd]; simp [go_sem]
                rw [← hZ] at hyr hxr2 hbsl hbz v0 v1 z0 z1 z2 z3 z4 z5 z6 z7 ⊢
                rw [hgd] at ⊢
                have hgZ := cell_lt q0
                have hcZ := cell_lt z0
                have hGZ := cell_lt v0
                clear hZ al y0 y1 y2 y3 y4 y5 y6 y7
                obtain ⟨q, hq⟩ : ∃ q, clashB y x = q := ⟨_, rfl⟩
                have HQ := Lib.hid hq; clear hq
                cases q
                · refine wp_region_grow (by kernel_rfl) (by kernel_rfl) ?_
                  repeat (first | go_big_quiet_step ((go_at_call 55; exact grow_of (known HQ.out (clash_impl y x _ _ _ _ _ _ _ (hyr.keep (Grow.below _)) (hxr2.keep (Grow.below _)) hby hbx1)))))
                  refine wpQuiet_nil ?_
                  intro _ hw'
                  obtain ⟨⟨w4, hb4⟩, hw''⟩ := hw'
                  change _ = w4 at hw''
                  subst hw''
                  go_wp2
                  refine ⟨⟨k + 1, by omega, by go_num, fun k' hk' hc => ?_, bthen hbsl hb4⟩, by simp [intOf]; omega⟩
                  by_cases e : k' = k
                  · subst e; rw [hcmk, sameBA_symm, HQ.out] at hc; cases hc
                  · exact HCK.out k' (by omega) hc
                · by_cases hge : posI l1 0 (k : Int) ≥ posI l1 0 (i : Int)
                  · have gd1 : decide (posI l1 0 (k : Int) ≥ posI l1 0 (i : Int)) = true := by simpa using hge
                    have HB := Lib.hid (fits_no (l := l0) (b := l1) (fun h => by
                      have := h.2.2 i k hlk (by have := HL.out; omega) (by rw [hcmi, hcmk, sameBA_symm]; exact HQ.out)
                      omega))
                    clear hge
                    refine wp_region_grow (by kernel_rfl) (by kernel_rfl) ?_
                    repeat (first | go_big_quiet_step ((go_at_call 55; exact grow_of (known HQ.out (clash_impl y x _ _ _ _ _ _ _ (hyr.keep (Grow.below _)) (hxr2.keep (Grow.below _)) hby hbx1)))))
                    refine wpQuiet_nil ?_
                    intro _ hw'
                    obtain ⟨⟨w4, hb4⟩, hw''⟩ := hw'
                    change _ = w4 at hw''
                    subst hw''
                    go_wp2
                    go_returns
                    exact ⟨by rw [HB.out]; rfl, bthen hbx (bthen hbz hb4)⟩
                  · have gd1 : decide (posI l1 0 (k : Int) ≥ posI l1 0 (i : Int)) = false := by simpa using hge
                    have HGE := Lib.hid hge; clear hge
                    refine wp_region_grow (by kernel_rfl) (by kernel_rfl) ?_
                    repeat (first | go_big_quiet_step ((go_at_call 55; exact grow_of (known HQ.out (clash_impl y x _ _ _ _ _ _ _ (hyr.keep (Grow.below _)) (hxr2.keep (Grow.below _)) hby hbx1)))))
                    refine wpQuiet_nil ?_
                    intro _ hw'
                    obtain ⟨⟨w4, hb4⟩, hw''⟩ := hw'
                    change _ = w4 at hw''
                    subst hw''
                    go_wp2
                    refine ⟨⟨k + 1, by omega, by go_num, fun k' hk' hc => ?_, bthen hbsl hb4⟩, by simp [intOf]; omega⟩
                    by_cases e : k' = k
                    · subst e; have := HGE.out; omega
                    · exact HCK.out k' (by omega) hc
              · have hki : k = i := by omega
                go_wp2
                refine ⟨⟨i + 1, by omega, by go_num, fun i' k' h1 h2 hc => ?_, bthen hbW hbs⟩, by simp [intOf]; omega⟩
                by_cases e : i' = i
                · subst e; rw [hcmi] at hc; exact HCK.out k' (by omega) hc
                · exact HCL.out i' k' h1 (by omega) hc
          · go_wp2
            go_returns
            have hin : i = m := by omega
            have HB := fits_yes (l := l0) (b := l1) ⟨HQ0.out, by rw [HL.out]; exact HPM.out, fun i' k' h1 h2 hc => HCL.out i' k' h1 (by have := HL.out; omega) hc⟩
            exact ⟨by rw [HB]; rfl, bthen hbx hbi⟩
end Go.Proofs.Ytdphdnllhmnelaa
/- Contract of the reference's BatchFits. -/
namespace Go.Proofs.Ytdphdnllhmnelaa
open Go.RowKit
attribute [local go_sem] Grow.cell Grow.frozen
theorem RowF.frz3 {e lo hi : Nat} {w : World} {g n c : Nat} {f : Nat → Value} (h : RowF e lo hi w (some ⟨g, 0, none⟩) n c f) (j : Nat) : w.frozen? ⟨g, j, none⟩ = false := (RowIn.own h).frozenAt j
theorem RowF.at3 {e lo hi : Nat} {w : World} {g n c : Nat} {f : Nat → Value} (h : RowF e lo hi w (some ⟨g, 0, none⟩) n c f) {j : Nat} (hj : j < n) : w.cell? ⟨g, j, none⟩ = some (f j) := by
  obtain ⟨b, off, hA, _, hc⟩ := h.vals (by omega)
  injection hA with hA; injection hA with e1 e2 _
  subst e1 e2
  simpa using hc j hj
def negTo (k j : Nat) : Value := .int .i64 (if j < k then -1 else 0)
def posV (b : List (List Int)) (j : Nat) : Value := .int .i64 (posI b 0 (j : Int))
def cutV (b : List (List Int)) (k i : Nat) (j : Nat) : Value := .int .i64 (cutI b k i (j : Int))
theorem negTo_set (k j : Nat) : (if j = k then Value.int .i64 (-1) else negTo k j) = negTo (k + 1) j := by
  unfold negTo
  by_cases h : j = k
  · subst h; simp
  · by_cases h1 : j < k
    · rw [if_neg h, if_pos h1, if_pos (by omega)]
    · rw [if_neg h, if_neg h1, if_neg (by omega)]
theorem cutV_set {b : List (List Int)} {k i m : Nat} (h : k ≤ b.length) (hi : i < (lAt b k).length) (hx : iAt (lAt b k) i = (m : Int)) (hn : cutI b k i (m : Int) < 0) (j : Nat) :
    (if j = m then Value.int .i64 (k : Int) else cutV b k i j) = cutV b k (i + 1) j := by
  unfold cutV
  rw [cut_step h hi hx hn (j : Int)]
  by_cases e : j = m
  · subst e; simp
  · rw [if_neg e, if_neg (by omega)]
attribute [local irreducible] StrR IntR StrO IntO RowR RowO StrsAt IntsAt clashB cmsOkB posI posV cutV negTo cutI fitsB RowF
def InRes (m : Nat) (l1 : List (List Int)) (w w' : World) (v : Value) (ok : Bool) : Prop :=
  (ok = true ∧ PermB m l1 ∧ ∃ G, v = .slice (some ⟨G, 0, none⟩) m m ∧ RowF 3 G (G + 1) w' (some ⟨G, 0, none⟩) m m (posV l1)) ∨ (ok = false ∧ ¬ PermB m l1)
def InPost (m : Nat) (l1 : List (List Int)) (w : World) (e : Ending) (w' : World) : Prop := ∃ v ok, e = .returned (.tuple #[v, .bool ok]) ∧ InRes m l1 w w' v ok ∧ Below w.heap.size w w'
set_option maxRecDepth 8000 in
set_option maxHeartbeats 4000000 in
theorem l34In_spec (m : Nat) (A1 : Option Addr) (n1 c1 : Nat) (l1 : List (List Int)) (w : World) (h1 : RowR intRc 1 w A1 n1 c1 l1) (s1 : intssSz l1 ≤ 1048576) (hm : m ≤ 1048576) :
    Calls Try.prog 63 #[.int .i64 m, .slice A1 n1 c1] w (InPost m l1 w) := by
  have HL := Lib.hid h1.len.symm
  have hn1 : n1 ≤ 1048576 := by have := h1.len; unfold intssSz at s1; omega
  go_enter Try.func63, Try.ntmps63
  go_wp2_with (refine wpList_mk (P := Try.prog) _ rfl _ _ 78 rfl w.heap.size 3 _ 1 8 Try.underlying78 infoInt _ _ _ _ m rfl rfl rfl rfl (by omega) (by unfold maxLen; omega) (Nat.le_refl _) ?_; intro w2 hown2 hg2 hb2)
  have hR : RowF 3 w.heap.size (w.heap.size + 1) w2 (some ⟨w.heap.size, 0, none⟩) m m (negTo 0) := by
    have hx : (madeCells (Value.int .i64 0).cells (m * 1)).toList = List.replicate m (.int .i64 0) := by rw [Nat.mul_one]; exact toList_madeCells_one _ m
    rw [hx] at hown2
    have h3 : RowF 3 w.heap.size w2.heap.size w2 (some ⟨w.heap.size, 0, none⟩) m m (negTo 0) := RowF.of_own hown2 (fun j hj => by unfold negTo; simp [hj])
    unfold RowF at h3 ⊢
    exact ⟨h3.own, fun g hg => by have := hg.eq; omega⟩
  have hG2 : w.heap.size < w2.heap.size := (own_lo hown2 w.heap.size (by simp [blkL])).2
  clear hown2 hg2
  obtain ⟨G, hG⟩ : ∃ G, w.heap.size = G := ⟨_, rfl⟩
  rw [hG] at hR hG2 hb2 ⊢
  go_wp2_with fail
  go_loopw [7] (fun i wr => ∃ (k : Nat), k ≤ m ∧ i = .int .i64 k ∧ RowF 3 G (G + 1) wr (some ⟨G, 0, none⟩) m m (negTo k) ∧ G < wr.heap.size ∧ Below G w wr) (fun i _ => m - (intOf i).toNat)
  case atStart => exact ⟨0, Nat.zero_le _, rfl, hR, hG2, hb2⟩
  case round =>
    clear hR hG2 hb2
    obtain ⟨k, hk, rfl, hR, hGr, hbr⟩ := hrel
    by_cases hlt : k < m
    · have v1 := hR.at3 hlt
      have f1 := hR.frz3 k
      go_wp2
      have hst := hR.store k (.int .i64 (-1))
      have hbs : Below G w (wr.setCell ⟨G, k, none⟩ (.int .i64 (-1))) := hbr.setCell (Nat.le_refl _) _
      exact ⟨⟨k + 1, by omega, by go_num, hst.congr (fun j _ => negTo_set k j), by simpa using hGr, hbs⟩, by simp [intOf]; omega⟩
    · have hkm : k = m := by omega
      have hR0 : RowF 3 G (G + 1) wr (some ⟨G, 0, none⟩) m m (posV (l1.take 0)) := hR.congr (fun j hj => by
        unfold negTo posV; rw [if_pos (by omega), List.take_zero]; unfold posI; rfl)
      clear hR
      obtain ⟨U, hU⟩ : ∃ U, U = wr := ⟨_, rfl⟩
      subst hU
      go_wp2_with fail
      go_loopw [8] (fun t wr => ∃ (k : Nat), k ≤ n1 ∧ t = .int .i64 k ∧ RowF 3 G (G + 1) wr (some ⟨G, 0, none⟩) m m (posV (l1.take k)) ∧ okP m (seen l1 k 0) ∧ G < wr.heap.size ∧ Below G w wr) (fun t _ => n1 - (intOf t).toNat)
      case atStart => exact ⟨0, Nat.zero_le _, rfl, hR0, by rw [seen_zero]; exact okP_nil _, hGr, hbr⟩
      case round =>
        clear hR0 hGr hbr
        obtain ⟨t, ht, rfl, hR, hok, hGr, hbr⟩ := hrel
        have HOK := Lib.hid hok; clear hok
        by_cases hlt2 : t < n1
        · obtain ⟨b, off, rfl⟩ := h1.head (by omega)
          obtain ⟨bl, x, cs, hx, ⟨A2, n2, c2, rfl, hx2, hc2⟩, hcell⟩ := h1.elem_at hlt2
          have e0 := (show w.cell? ⟨b, off + t, none⟩ = some (.slice A2 n2 c2) by simpa using hcell 0 _ rfl)
          clear hcell
          have hn2 : n2 ≤ 1048576 := by have := hx2.len; have := intss_el hx; unfold intsSz at this; omega
          have HX := Lib.hid (show lAt l1 t = x by obtain ⟨h1, h2⟩ := List.getElem?_eq_some_iff.1 hx; rw [lAt_get h1, h2])
          have HLX := Lib.hid hx2.len
          have htl : t < l1.length := by have := HL.out; omega
          have hbG : b < G := by rw [← hG]; exact bl
          have hR0 : RowF 3 G (G + 1) wr (some ⟨G, 0, none⟩) m m (cutV l1 t 0) := hR.congr (fun j hj => by unfold posV cutV; rw [cut_zero])
          clear hR hx hc2
          go_wp2_with fail
          go_loopw [9] (fun s wr => ∃ (i : Nat), i ≤ n2 ∧ s = .int .i64 i ∧ RowF 3 G (G + 1) wr (some ⟨G, 0, none⟩) m m (cutV l1 t i) ∧ okP m (seen l1 t i) ∧ G < wr.heap.size ∧ Below G w wr) (fun s _ => n2 - (intOf s).toNat)
          case atStart => exact ⟨0, Nat.zero_le _, rfl, hR0, HOK.out, hGr, hbr⟩
          case round =>
            clear hR0 hGr hbr
            obtain ⟨i, hi, rfl, hR, hok, hGr, hbr⟩ := hrel
            have HOI := Lib.hid hok; clear hok
            have e1 := (hbr.cell (p := ⟨b, off + t, none⟩) hbG).trans e0
            by_cases hli : i < n2
            · obtain ⟨b2, off2, rfl, bl2, hc⟩ := (IntR.at_r hx2).at_ (by omega)
              have e2 := (hbr.cell (p := ⟨b2, off2 + i, none⟩) (by rw [← hG]; exact bl2)).trans (hc i hli)
              clear hc
              obtain ⟨y, hy⟩ : ∃ y, iAt x i = y := ⟨_, rfl⟩
              rw [hy] at e2
              have HY := Lib.hid (show iAt (lAt l1 t) i = y by rw [HX.out]; exact hy)
              clear hy
              have hil : i < (lAt l1 t).length := by rw [HX.out]; have := HLX.out; omega
              have HIL := Lib.hid hil; clear hil
              have NO := fun hb => Lib.hid (fun (h : PermB m l1) => okP_no (n := m) htl HIL.out HY.out hb h.1)
              by_cases hy0 : y < 0
              · have HN := NO (.inl hy0)
                clear NO
                go_wp2
                go_returns
                exact ⟨_, false, rfl, .inr ⟨rfl, HN.out⟩, by rw [hG]; exact hbr⟩
              · by_cases hy1 : (m : Int) ≤ y
                · have HN := NO (.inr (.inl hy1))
                  clear NO
                  go_wp2
                  go_returns
                  exact ⟨_, false, rfl, .inr ⟨rfl, HN.out⟩, by rw [hG]; exact hbr⟩
                · obtain ⟨z, rfl⟩ := Int.eq_ofNat_of_zero_le (show 0 ≤ y by omega)
                  have hzm : z < m := by omega
                  have v1 := hR.at3 hzm
                  have f1 := hR.frz3 z
                  obtain ⟨p, hp⟩ : ∃ p, cutI l1 t i (z : Int) = p := ⟨_, rfl⟩
                  have v1' : wr.cell? ⟨G, z, none⟩ = some (.int .i64 p) := by rw [v1]; unfold cutV; rw [hp]
                  clear v1
                  have HP := Lib.hid hp; clear hp
                  clear hy0 hy1
                  by_cases hp0 : p ≥ 0
                  · have HN := NO (.inr (.inr (by rw [HP.out]; exact hp0)))
                    clear NO
                    go_wp2
                    go_returns
                    exact ⟨_, false, rfl, .inr ⟨rfl, HN.out⟩, by rw [hG]; exact hbr⟩
                  · clear NO
                    have HP0 := Lib.hid hp0
                    go_wp2
                    have hst := hR.store z (.int .i64 (t : Int))
                    have hbs : Below G w (wr.setCell ⟨G, z, none⟩ (.int .i64 (t : Int))) := hbr.setCell (Nat.le_refl _) _
                    have hlz : cutI l1 t i (z : Int) < 0 := by rw [HP.out]; have := HP0.out; omega
                    refine ⟨⟨_, _, _, ⟨i + 1, by omega, by go_num, hst.congr (fun j _ => cutV_set (by omega) HIL.out HY.out hlz j), ?_, hbs⟩, rfl, rfl, rfl⟩, by simp [intOf]; omega⟩
                    rw [seen_step HIL.out HY.out]
                    refine okP_step HOI.out (by omega) (by omega) ?_
                    rcases cut_or l1 t i (z : Int) with ⟨_, h⟩ | ⟨h, _⟩
                    · exact h
                    · omega
            · go_wp2
              have hin : i = (lAt l1 t).length := by rw [HX.out]; have := HLX.out; omega
              refine ⟨⟨t + 1, by omega, by go_num, hR.congr (fun j _ => by unfold posV cutV; rw [hin, cut_full _ _ _ htl]), by rw [← seen_full htl, ← hin]; exact HOI.out, hGr, hbr⟩, by simp [intOf]; omega⟩
        · have htn : t = l1.length := by have := HL.out; omega
          have HOF := Lib.hid (show okP m l1.flatten by rw [← seen_all, ← htn]; exact HOK.out)
          have hR1 : RowF 3 G (G + 1) wr (some ⟨G, 0, none⟩) m m (posV l1) := by rw [htn, List.take_length] at hR; exact hR
          clear hR HOK
          have htn2 : t = n1 := by omega
          clear htn
          obtain ⟨U2, hU2⟩ : ∃ U, U = wr := ⟨_, rfl⟩
          subst hU2
          go_wp2_with fail
          go_loopw [11] (fun s wr => ∃ (i : Nat), i ≤ m ∧ s = .int .i64 i ∧ (∀ j : Nat, j < i → 0 ≤ posI l1 0 (j : Int)) ∧ wr = U2) (fun s _ => m - (intOf s).toNat)
          case atStart => exact ⟨0, Nat.zero_le _, rfl, fun j h => absurd h (by omega), by first | trivial | rfl⟩
          case round =>
            obtain ⟨i, hi, rfl, hps, rfl⟩ := hrel
            have HPS := Lib.hid hps; clear hps
            by_cases hli : i < m
            · have v1 := hR1.at3 hli
              obtain ⟨p, hp⟩ : ∃ p, posI l1 0 (i : Int) = p := ⟨_, rfl⟩
              have v2 : wr.cell? ⟨G, i, none⟩ = some (.int .i64 p) := by rw [v1]; unfold posV; rw [hp]
              clear v1
              have HP := Lib.hid hp; clear hp
              by_cases hp0 : p < 0
              · have HN := Lib.hid (show ¬ PermB m l1 from fun h => by have := h.2 i hli; rw [HP.out] at this; omega)
                go_wp2
                go_returns
                exact ⟨_, false, rfl, .inr ⟨rfl, HN.out⟩, by rw [hG]; exact hbr⟩
              · have HP0 := Lib.hid hp0
                go_wp2
                refine ⟨⟨i + 1, by omega, by go_num, fun j hj => ?_, by first | trivial | rfl⟩, by simp [intOf]; omega⟩
                by_cases e : j = i
                · subst e; rw [HP.out]; have := HP0.out; omega
                · exact HPS.out j (by omega)
            · go_wp2
              go_returns
              exact ⟨_, true, rfl, .inl ⟨rfl, ⟨HOF.out, fun j hj => HPS.out j (by omega)⟩, G, rfl, hR1⟩, by rw [hG]; exact hbr⟩

attribute [local irreducible] PermB
set_option maxRecDepth 8000 in
set_option maxHeartbeats 4000000 in
theorem batchFits_spec (A0 : Option Addr) (n0 c0 : Nat) (l0 : List Cm) (A1 : Option Addr) (n1 c1 : Nat) (l1 : List (List Int)) (w : World) (h0 : RowR cmR 8 w A0 n0 c0 l0) (h1 : RowR intRc 1 w A1 n1 c1 l1) (s0 : cmsSz l0 ≤ 1048576) (s1 : intssSz l1 ≤ 1048576) (hb : cmsB l0) :
    Calls Try.prog 20 #[.slice A0 n0 c0, .slice A1 n1 c1] w fun e w' => e = .returned (.bool (fitsB l0 l1)) ∧ Below w.heap.size w w' := by
  have HL := Lib.hid h0.len.symm
  have hn0 : n0 ≤ 1048576 := by have := h0.len; unfold cmsSz at s0; omega
  go_enter Try.func20, Try.ntmps20
  go_wp2_with fail
  refine (l34In_spec n0 A1 n1 c1 l1 _ h1 s1 hn0).mono ?_
  rintro e w1 ⟨v, ok, rfl, hin, hb1⟩
  have h0a := h0.keep cmK hb1
  go_wp2_with fail
  refine (l34Ok_spec l0 _ _ _ _ h0a hb).mono ?_
  rintro e w2 ⟨rfl, hb2⟩
  have hbb := bthen hb1 hb2
  obtain ⟨q, hq⟩ : ∃ q, cmsOkB l0 = q := ⟨_, rfl⟩
  rw [hq]
  cases q
  · have HB := Lib.hid (fits_no (l := l0) (b := l1) (fun h => by have := h.1; rw [hq] at this; cases this))
    clear hq hin
    go_wp2
    go_returns
    exact ⟨by rw [HB.out]; rfl, hbb⟩
  · have HQ0 := Lib.hid hq; clear hq
    unfold InRes at hin
    rcases hin with ⟨rfl, hperm, G, rfl, hRG⟩ | ⟨rfl, hno⟩
    · have HPM := Lib.hid hperm; clear hperm
      have hRm := hRG.keep hb2
      have h0c := h0a.keep cmK hb2
      clear hRG h0 h0a
      obtain ⟨U, hU⟩ : ∃ U, U = w2 := ⟨_, rfl⟩
      subst hU
      go_wp2_with fail
      go_loopw [7] (fun t wr => ∃ (i2 : Nat), i2 ≤ n0 ∧ t = .int .i64 i2 ∧ (∀ i k : Nat, k < i → i < i2 → clashB (cmAt l0 i) (cmAt l0 k) = true → posI l1 0 k < posI l1 0 i) ∧ Below U.heap.size U wr) (fun t _ => n0 - (intOf t).toNat)
      case atStart => exact ⟨0, Nat.zero_le _, rfl, fun i k h1 h2 => absurd h2 (by omega), Below.refl _ _⟩
      case round =>
        obtain ⟨i, hi, rfl, hcl, hbi⟩ := hrel
        have HCL := Lib.hid hcl; clear hcl
        by_cases hlt : i < n0
        · obtain ⟨b, off, rfl⟩ := h0c.head (by omega)
          obtain ⟨bl, x, cs, hx, ⟨A3, n3, c3, rfl, hx1⟩, hcell⟩ := h0c.elem_at hlt
          have hbx1 := bounds_el hb.2 hx
          have hcmi : cmAt l0 i = x := cmAt_of hx
          have hGU : G < U.heap.size := cell_lt (hRm.at3 hlt)
          go_wp2_with fail
          go_loopw [8] (fun t wr => ∃ (k : Nat), k ≤ i ∧ t = .int .i64 k ∧ (∀ k' : Nat, k' < k → clashB x (cmAt l0 k') = true → posI l1 0 k' < posI l1 0 i) ∧ Below U.heap.size U wr) (fun t _ => i - (intOf t).toNat)
          case atStart => exact ⟨0, Nat.zero_le _, rfl, fun k' h => absurd h (by omega), hbi⟩
          case round =>
            clear hbi
            obtain ⟨k, hk, rfl, hcl, hbs⟩ := hrel
            have HCK := Lib.hid hcl; clear hcl
            by_cases hlk : k < i
            · obtain ⟨_, y, cs', hy, ⟨A4, n4, c4, rfl, hy1⟩, hcelly⟩ := h0c.elem_at (i := k) (by omega)
              have x0 := (hbs.cell (p := ⟨b, off + i * 8, none⟩) bl).trans (show U.cell? ⟨b, off + i * 8, none⟩ = some (.int .i64 x.kd) from hcell 0 _ rfl)
              have x1 := (hbs.cell (p := ⟨b, off + i * 8 + 1, none⟩) bl).trans (show U.cell? ⟨b, off + i * 8 + 1, none⟩ = some (.int .i64 x.cl) from hcell 1 _ rfl)
              have x2 := (hbs.cell (p := ⟨b, off + i * 8 + 2, none⟩) bl).trans (show U.cell? ⟨b, off + i * 8 + 2, none⟩ = some (.int .i64 x.no) from hcell 2 _ rfl)
              have x3 := (hbs.cell (p := ⟨b, off + i * 8 + 3, none⟩) bl).trans (show U.cell? ⟨b, off + i * 8 + 3, none⟩ = some (.string x.s) from hcell 3 _ rfl)
              have x4 := (hbs.cell (p := ⟨b, off + i * 8 + 4, none⟩) bl).trans (show U.cell? ⟨b, off + i * 8 + 4, none⟩ = some (.string x.nm) from hcell 4 _ rfl)
              have x5 := (hbs.cell (p := ⟨b, off + i * 8 + 5, none⟩) bl).trans (show U.cell? ⟨b, off + i * 8 + 5, none⟩ = some (.string x.tg) from hcell 5 _ rfl)
              have x6 := (hbs.cell (p := ⟨b, off + i * 8 + 6, none⟩) bl).trans (show U.cell? ⟨b, off + i * 8 + 6, none⟩ = some (.int .i64 x.n) from hcell 6 _ rfl)
              have x7 := (hbs.cell (p := ⟨b, off + i * 8 + 7, none⟩) bl).trans (show U.cell? ⟨b, off + i * 8 + 7, none⟩ = some (.slice A3 n3 c3) from hcell 7 _ rfl)
              have y0 := (hbs.cell (p := ⟨b, off + k * 8, none⟩) bl).trans (show U.cell? ⟨b, off + k * 8, none⟩ = some (.int .i64 y.kd) from hcelly 0 _ rfl)
              have y1 := (hbs.cell (p := ⟨b, off + k * 8 + 1, none⟩) bl).trans (show U.cell? ⟨b, off + k * 8 + 1, none⟩ = some (.int .i64 y.cl) from hcelly 1 _ rfl)
              have y2 := (hbs.cell (p := ⟨b, off + k * 8 + 2, none⟩) bl).trans (show U.cell? ⟨b, off + k * 8 + 2, none⟩ = some (.int .i64 y.no) from hcelly 2 _ rfl)
              have y3 := (hbs.cell (p := ⟨b, off + k * 8 + 3, none⟩) bl).trans (show U.cell? ⟨b, off + k * 8 + 3, none⟩ = some (.string y.s) from hcelly 3 _ rfl)
              have y4 := (hbs.cell (p := ⟨b, off + k * 8 + 4, none⟩) bl).trans (show U.cell? ⟨b, off + k * 8 + 4, none⟩ = some (.string y.nm) from hcelly 4 _ rfl)
              have y5 := (hbs.cell (p := ⟨b, off + k * 8 + 5, none⟩) bl).trans (show U.cell? ⟨b, off + k * 8 + 5, none⟩ = some (.string y.tg) from hcelly 5 _ rfl)
              have y6 := (hbs.cell (p := ⟨b, off + k * 8 + 6, none⟩) bl).trans (show U.cell? ⟨b, off + k * 8 + 6, none⟩ = some (.int .i64 y.n) from hcelly 6 _ rfl)
              have y7 := (hbs.cell (p := ⟨b, off + k * 8 + 7, none⟩) bl).trans (show U.cell? ⟨b, off + k * 8 + 7, none⟩ = some (.slice A4 n4 c4) from hcelly 7 _ rfl)
              clear hcell hcelly
              have hbrs : b < wr.heap.size := Nat.lt_of_lt_of_le bl hbs.size
              have hby := bounds_el hb.2 hy
              have hxr := hx1.keep hbs
              have hyr := hy1.keep hbs
              have hcmk : cmAt l0 k = y := cmAt_of hy
              have v0 := (hbs.cell (p := ⟨G, k, none⟩) hGU).trans (hRm.at3 (j := k) (by omega))
              have v1 := (hbs.cell (p := ⟨G, i, none⟩) hGU).trans (hRm.at3 (j := i) hlt)
              have hGZ := cell_lt v0
              unfold posV at v0 v1
              obtain ⟨q, hq⟩ : ∃ q, clashB x y = q := ⟨_, rfl⟩
              have HQ := Lib.hid hq; clear hq
              cases q
              · go_wp2
                refine wp_region_grow (by kernel_rfl) (by kernel_rfl) ?_
                repeat (first | go_big_quiet_step ((go_at_call 52; exact grow_of (known HQ.out (clash_spec x y _ _ _ _ _ _ _ (hxr.keep (Grow.below _)) (hyr.keep (Grow.below _)) hbx1 hby)))))
                refine wpQuiet_nil ?_
                intro _ hw'
                obtain ⟨⟨w4, hb4⟩, hw''⟩ := hw'
                change _ = w4 at hw''
                subst hw''
                go_wp2
                refine ⟨⟨k + 1, by omega, by go_num, fun k' hk' hc => ?_, bthen hbs hb4⟩, by simp [intOf]; omega⟩
                by_cases e : k' = k
                · subst e; rw [hcmk, HQ.out] at hc; cases hc
                · exact HCK.out k' (by omega) hc
              · by_cases hge : posI l1 0 (k : Int) ≥ posI l1 0 (i : Int)
                · have gd1 : decide (posI l1 0 (k : Int) ≥ posI l1 0 (i : Int)) = true := by simpa using hge
                  have HB := Lib.hid (fits_no (l := l0) (b := l1) (fun h => by
                    have := h.2.2 i k hlk (by have := HL.out; omega) (by rw [hcmi, hcmk]; exact HQ.out)
                    omega))
                  clear hge
                  go_wp2
                  refine wp_region_grow (by kernel_rfl) (by kernel_rfl) ?_
                  repeat (first | go_big_quiet_step ((go_at_call 52; exact grow_of (known HQ.out (clash_spec x y _ _ _ _ _ _ _ (hxr.keep (Grow.below _)) (hyr.keep (Grow.below _)) hbx1 hby)))))
                  refine wpQuiet_nil ?_
                  intro _ hw'
                  obtain ⟨⟨w4, hb4⟩, hw''⟩ := hw'
                  change _ = w4 at hw''
                  subst hw''
                  go_wp2
                  go_returns
                  exact ⟨by rw [HB.out]; rfl, bthen hbb (bthen hbs hb4)⟩
                · have gd1 : decide (posI l1 0 (k : Int) ≥ posI l1 0 (i : Int)) = false := by simpa using hge
                  have HGE := Lib.hid hge; clear hge
                  go_wp2
                  refine wp_region_grow (by kernel_rfl) (by kernel_rfl) ?_
                  repeat (first | go_big_quiet_step ((go_at_call 52; exact grow_of (known HQ.out (clash_spec x y _ _ _ _ _ _ _ (hxr.keep (Grow.below _)) (hyr.keep (Grow.below _)) hbx1 hby)))))
                  refine wpQuiet_nil ?_
                  intro _ hw'
                  obtain ⟨⟨w4, hb4⟩, hw''⟩ := hw'
                  change _ = w4 at hw''
                  subst hw''
                  go_wp2
                  refine ⟨⟨k + 1, by omega, by go_num, fun k' hk' hc => ?_, bthen hbs hb4⟩, by simp [intOf]; omega⟩
                  by_cases e : k' = k
                  · subst e; have := HGE.out; omega
                  · exact HCK.out k' (by omega) hc
            · have hki : k = i := by omega
              go_wp2
              refine ⟨⟨i + 1, by omega, by go_num, fun i' k' h1 h2 hc => ?_, hbs⟩, by simp [intOf]; omega⟩
              by_cases e : i' = i
              · subst e; rw [hcmi] at hc; exact HCK.out k' (by omega) hc
              · exact HCL.out i' k' h1 (by omega) hc
        · go_wp2
          go_returns
          have hin : i = n0 := by omega
          have HB := fits_yes (l := l0) (b := l1) ⟨HQ0.out, by rw [HL.out]; exact HPM.out, fun i' k' h1 h2 hc => HCL.out i' k' h1 (by have := HL.out; omega) hc⟩
          exact ⟨by rw [HB]; rfl, bthen hbb hbi⟩
    · have HB := Lib.hid (fits_no (l := l0) (b := l1) (fun h => hno (by have := h.2.1; rwa [HL.out] at this)))
      go_wp2
      go_returns
      exact ⟨by rw [HB.out]; rfl, hbb⟩
end Go.Proofs.Ytdphdnllhmnelaa
/- Contracts of Flat, on new-style rows (RowR intRc).  -/
namespace Go.Proofs.Ytdphdnllhmnelaa
open Go.RowKit

theorem IntsAt.cells {w : World} {A : Option Addr} {n : Nat} {l : List Int} (h : IntsAt w A n l) : CellsAt w A n 1 (l.map (Value.int .i64)) := by
  refine ⟨by simp [h.1], fun hn => ?_⟩
  obtain ⟨b, off, rfl, _, hc⟩ := h.2 hn
  refine ⟨b, off, rfl, fun j u hu => ?_⟩
  have hl := h.1
  have hj : j < l.length := by
    have := (List.getElem?_eq_some_iff.1 hu).1
    simpa using this
  rw [hc j (by omega)]
  simp [hj] at hu
  rw [← hu]; unfold intV; rw [iAt_get hj]
theorem ints_one (l : List Int) : ∀ u ∈ l.map (Value.int .i64), u.oneCell' = true := by
  intro u hu
  obtain ⟨x, _, rfl⟩ := List.mem_map.1 hu
  rfl
attribute [local irreducible] IntsAt

theorem flat_sz (l : List (List Int)) {m : Nat} (h : intssSz l ≤ m) : intsSz l.flatten ≤ m := by
  have := flatTo_len l l.length
  rw [flatTo_all l (Nat.le_refl _)] at this
  unfold intsSz; omega

theorem flat_impl (A0 : Option Addr) (n0 c0 : Nat) (l0 : List (List Int)) (w : World) (h0 : RowR intRc 1 w A0 n0 c0 l0) (s0 : intssSz l0 ≤ 1048576) :
    Calls Try.prog 44 #[.slice A0 n0 c0] w (IntsR l0.flatten w) := by
  have HL := Lib.hid h0.len.symm
  have hn : n0 ≤ 1048576 := by have := h0.len; unfold intssSz at s0; omega
  go_enter Try.func44, Try.ntmps44
  go_wp2
  go_loopw [3, 9] (fun o i wr => ∃ (k : Nat) (O : Option Addr) (cap : Nat), k ≤ n0 ∧ i = .int .i64 k ∧ o = .slice O (flatTo l0 k).length cap ∧ wr.ownsRow w.heap.size 3 1 (.slice O (flatTo l0 k).length cap) (flatTo l0 k).length ((flatTo l0 k).map (Value.int .i64)) ∧ Below w.heap.size w wr) (fun _ i _ => n0 - (intOf i).toNat)
  case atStart => exact ⟨0, _, _, Nat.zero_le _, rfl, by rw [flatTo_zero]; rfl, by rw [flatTo_zero]; exact own_empty w _ _ (Nat.le_refl _), by go_grown⟩
  case round =>
    obtain ⟨k, O, cap, hk, rfl, rfl, hown, hb⟩ := hrel
    by_cases hlt : k < n0
    · obtain ⟨b, off, rfl⟩ := h0.head (by omega)
      obtain ⟨hbl, y, cs, hy, ⟨A1, n1, c1, rfl, ⟨hat, hcap⟩, _⟩, hc⟩ := h0.elem_at hlt
      have hc0 : w.cell? ⟨b, off + k, none⟩ = some (.slice A1 n1 c1) := by have := hc 0 _ rfl; simpa using this
      obtain rfl : y = lAt l0 k := by simp [lAt, hy]
      have hck := (hb.cell (p := ⟨b, off + k, none⟩) hbl).trans hc0
      clear hc hc0
      have hat2 := hat.keep hb
      have hn1 : n1 ≤ 1048576 := by have h1 := intss_el hy; have h2 : n1 = (lAt l0 k).length := by unfold IntsAt at hat; exact hat.1
                                    have h3 : intsSz (lAt l0 k) = (lAt l0 k).length := rfl
                                    omega
      have hle := flatTo_len l0 k
      have HS := Lib.hid (flatTo_succ (by simpa [lAt] using hy : l0[k]? = some (lAt l0 k)))
      have hcl := hat2.cells
      have HN := Lib.hid (show n1 = (lAt l0 k).length by unfold IntsAt at hat; exact hat.1)
      have HC := Lib.hid hcap
      clear hcap
      go_wp2_with (at_builtin; refine wpList_app (P := Try.prog) wr rfl (.tmp 13) (.tmp 14) 78 rfl w.heap.size 3 _ 1 8 Try.underlying78 infoInt rfl (by omega) (.slice O _ cap) _ _ rfl hown A1 n1 c1 ((lAt l0 k).map (Value.int .i64)) rfl hcl (ints_one _) HC.out (by unfold maxLen; omega) (by omega) hb.size ?_; intro A' c' w1 hown1 hg1 hb1 _)
      refine ⟨⟨k + 1, A', c', by omega, by go_num, ?_⟩, by simp [intOf]; omega⟩
      rw [HS.out]
      have hn2 := HN.out
      subst hn2
      exact ⟨by simp, by simpa using hown1, hb.trans hb1⟩
    · go_wp2
      go_returns
      have e := flatTo_all l0 (n := k) (by have := HL.out; omega)
      rw [e] at hown
      rw [← e]
      rw [e]
      exact ⟨O, _, cap, by first | rfl | rw [e], IntsIn.of_own hown, hb⟩

theorem flat_spec (A0 : Option Addr) (n0 c0 : Nat) (l0 : List (List Int)) (w : World) (h0 : RowR intRc 1 w A0 n0 c0 l0) (s0 : intssSz l0 ≤ 1048576) :
    Calls Try.prog 45 #[.slice A0 n0 c0] w (IntsR l0.flatten w) := by
  have HL := Lib.hid h0.len.symm
  have hn : n0 ≤ 1048576 := by have := h0.len; unfold intssSz at s0; omega
  go_enter Try.func45, Try.ntmps45
  go_wp2
  go_loopw [3, 4] (fun o i wr => ∃ (k : Nat) (O : Option Addr) (cap : Nat), k ≤ n0 ∧ i = .int .i64 k ∧ o = .slice O (flatTo l0 k).length cap ∧ wr.ownsRow w.heap.size 3 1 (.slice O (flatTo l0 k).length cap) (flatTo l0 k).length ((flatTo l0 k).map (Value.int .i64)) ∧ Below w.heap.size w wr) (fun _ i _ => n0 - (intOf i).toNat)
  case atStart => exact ⟨0, _, _, Nat.zero_le _, rfl, by rw [flatTo_zero]; rfl, by rw [flatTo_zero]; exact own_empty w _ _ (Nat.le_refl _), by go_grown⟩
  case round =>
    obtain ⟨k, O, cap, hk, rfl, rfl, hown, hb⟩ := hrel
    by_cases hlt : k < n0
    · obtain ⟨b, off, rfl⟩ := h0.head (by omega)
      obtain ⟨hbl, y, cs, hy, ⟨A1, n1, c1, rfl, ⟨hat, hcap⟩, _⟩, hc⟩ := h0.elem_at hlt
      have hc0 : w.cell? ⟨b, off + k, none⟩ = some (.slice A1 n1 c1) := by have := hc 0 _ rfl; simpa using this
      obtain rfl : y = lAt l0 k := by simp [lAt, hy]
      have hck := (hb.cell (p := ⟨b, off + k, none⟩) hbl).trans hc0
      clear hc hc0
      have hat2 := hat.keep hb
      have hn1 : n1 ≤ 1048576 := by have h1 := intss_el hy; have h2 : n1 = (lAt l0 k).length := by unfold IntsAt at hat; exact hat.1
                                    have h3 : intsSz (lAt l0 k) = (lAt l0 k).length := rfl
                                    omega
      have hle := flatTo_len l0 k
      have HS := Lib.hid (flatTo_succ (by simpa [lAt] using hy : l0[k]? = some (lAt l0 k)))
      have hcl := hat2.cells
      have HN := Lib.hid (show n1 = (lAt l0 k).length by unfold IntsAt at hat; exact hat.1)
      have HC := Lib.hid hcap
      clear hcap
      go_wp2_with (at_builtin; refine wpList_app (P := Try.prog) wr rfl (.tmp 12) (.tmp 16) 78 rfl w.heap.size 3 _ 1 8 Try.underlying78 infoInt rfl (by omega) (.slice O _ cap) _ _ rfl hown A1 n1 c1 ((lAt l0 k).map (Value.int .i64)) rfl hcl (ints_one _) HC.out (by unfold maxLen; omega) (by omega) hb.size ?_; intro A' c' w1 hown1 hg1 hb1 _)
      refine ⟨⟨k + 1, A', c', by omega, by go_num, ?_⟩, by simp [intOf]; omega⟩
      rw [HS.out]
      have hn2 := HN.out
      subst hn2
      exact ⟨by simp, by simpa using hown1, hb.trans hb1⟩
    · go_wp2
      go_returns
      have e := flatTo_all l0 (n := k) (by have := HL.out; omega)
      rw [e] at hown
      rw [← e]
      rw [e]
      exact ⟨O, _, cap, by first | rfl | rw [e], IntsIn.of_own hown, hb⟩
end Go.Proofs.Ytdphdnllhmnelaa
/- Contracts of the laws' helpers sameTexts, sameInts, hasText. -/
namespace Go.Proofs.Ytdphdnllhmnelaa
open Go.RowKit
theorem sameInts_yes (A A' : Option Addr) (n n' c c' : Nat) (l : List Int) (w : World) (h : IntsAt w A n l) (h' : IntsAt w A' n' l) (hn : n ≤ 16777216) :
    Calls Try.prog 43 #[.slice A n c, .slice A' n' c'] w fun e w' => e = .returned (.bool true) ∧ Below w.heap.size w w' := by
  obtain rfl : n' = n := h'.1.trans h.1.symm
  unfold IntsAt at h h'
  go_enter Try.func43, Try.ntmps43
  go_wp2
  go_loopw [5] (fun i wr => ∃ (k : Nat), k ≤ n' ∧ i = .int .i64 k ∧ Below w.heap.size w wr) (fun i _ => n' - (intOf i).toNat)
  case atStart => exact ⟨0, Nat.zero_le _, rfl, Below.refl _ _⟩
  case round =>
    obtain ⟨k, hk, rfl, hb⟩ := hrel
    by_cases hlt : k < n'
    · obtain ⟨b, off, rfl, hbl, hc⟩ := h.2 (by omega)
      have hck := (hb.cell (p := ⟨b, off + k, none⟩) hbl).trans (hc k hlt)
      clear hc
      obtain ⟨b', off', rfl, hbl', hc'⟩ := h'.2 (by omega)
      have hck' := (hb.cell (p := ⟨b', off' + k, none⟩) hbl').trans (hc' k hlt)
      clear hc'
      unfold intV at hck hck'
      go_wp2
      go_quiet (fail)
      go_wp2
      exact ⟨⟨k + 1, by omega, by go_num, below_drewN hb _⟩, by simp [intOf]; omega⟩
    · go_wp2
      go_returns
      exact ⟨rfl, hb⟩
theorem hasText_any (A : Option Addr) (n c : Nat) (l : List ByteArray) (x : ByteArray) (w : World) (h : StrsAt w A n l) (hn : n ≤ 9223372036854775807) :
    Calls Try.prog 115 #[.slice A n c, .string x] w fun e w' => e = .returned (.bool (hasS l x)) ∧ w = w' := by
  have HL := Lib.hid h.1.symm
  go_enter Try.func115, Try.ntmps115
  go_wp2
  go_loop [5] (fun i => ∃ k : Nat, k ≤ n ∧ i = .int .i64 k ∧ ∀ j, j < k → sAt l j ≠ x) (fun i => n - (intOf i).toNat)
  case atStart => exact ⟨0, Nat.zero_le _, rfl, fun j hj => absurd hj (by omega)⟩
  case round =>
    obtain ⟨k, hk, rfl, hx⟩ := hrel
    have HX := Lib.hid hx; clear hx
    by_cases hlt : k < n
    · obtain ⟨b, off, rfl, hbl, hc⟩ := h.at_ (by omega)
      have hck := hc k hlt
      clear hc
      by_cases hxe : sAt l k = x
      · have HE := Lib.hid hxe
        have g1 : ((sAt l k).toList == x.toList) = true := by rw [str_beq]; simpa using hxe
        clear hxe
        go_wp2
        go_returns
        exact ⟨ret_bool (hasS_yes (k := k) (by have := HL.out; omega) HE.out).symm, rfl⟩
      · have HE := Lib.hid hxe
        have g1 : ((sAt l k).toList == x.toList) = false := by rw [str_beq]; simpa using hxe
        clear hxe
        go_wp2
        refine ⟨⟨k + 1, by omega, by go_num, ?_⟩, by simp [intOf]; omega⟩
        intro j hj
        by_cases e : j = k
        · subst e; exact HE.out
        · exact HX.out j (by omega)
    · go_wp2
      go_returns
      exact ⟨ret_bool (hasS_no (fun j hj => HX.out j (by have := HL.out; omega))).symm, rfl⟩
end Go.Proofs.Ytdphdnllhmnelaa
/- Rows whose cells are the call's own and whose elements are read; a row that is read, as cells. -/
namespace Go.Proofs.Ytdphdnllhmnelaa
open Go.RowKit
def ElsR {α : Type} (R : World → List Value → α → Prop) (w : World) (css : List (List Value)) (l : List α) : Prop := css.length = l.length ∧ ∀ (i : Nat) (x : α), l[i]? = some x → ∃ cs, css[i]? = some cs ∧ R w cs x
section
variable {α : Type} {R : World → List Value → α → Prop} {F : List Nat → World → List Value → α → Prop} {e sz n c base : Nat} {w w' : World} {css : List (List Value)} {A : Option Addr} {l : List α} {cs : List Value} {x : α}
theorem ElsR.nil : ElsR R w [] ([] : List α) := ⟨rfl, fun i x h => by simp at h⟩
theorem ElsR.snoc (h : ElsR R w css l) (hx : R w cs x) : ElsR R w (css ++ [cs]) (l ++ [x]) := by
  refine ⟨by simp [h.1], fun i y hy => ?_⟩
  have hlen := h.1
  rw [List.getElem?_append] at hy ⊢
  by_cases hi : i < l.length
  · rw [if_pos hi] at hy
    rw [if_pos (by omega)]
    exact h.2 i y hy
  · rw [if_neg hi] at hy
    rw [if_neg (by omega)]
    have : i - l.length = 0 := by
      rcases Nat.eq_zero_or_pos (i - l.length) with h0 | h0
      · exact h0
      · rw [List.getElem?_eq_none (by simp only [List.length_singleton]; omega)] at hy; cases hy
    rw [this] at hy
    simp at hy
    subst hy
    exact ⟨cs, by rw [hlen, this]; rfl, hx⟩
theorem ElsR.keep (K : KindOk R F sz) (h : ElsR R w css l) (hb : Below w.heap.size w w') : ElsR R w' css l := ⟨h.1, fun i x hx => by
  obtain ⟨cs, h1, h2⟩ := h.2 i x hx
  exact ⟨cs, h1, K.rkeep h2 hb⟩⟩
theorem ElsR.clen (K : KindOk R F sz) (h : ElsR R w css l) : ∀ cs ∈ css, cs.length = sz := by
  intro cs hc
  obtain ⟨i, hi, rfl⟩ := List.getElem_of_mem hc
  have hil : i < l.length := by have := h.1; omega
  obtain ⟨cs', h1, h2⟩ := h.2 i l[i] (List.getElem?_eq_getElem hil)
  rw [List.getElem?_eq_getElem hi] at h1
  obtain rfl := Option.some.inj h1
  exact K.rlen h2
theorem ElsR.ones (K : KindOk R F sz) (h : ElsR R w css l) : ∀ v ∈ css.flatten, v.oneCell' = true := by
  intro v hv
  obtain ⟨cs, hc, hv⟩ := List.mem_flatten.1 hv
  obtain ⟨i, hi, rfl⟩ := List.getElem_of_mem hc
  have hil : i < l.length := by have := h.1; omega
  obtain ⟨cs', h1, h2⟩ := h.2 i l[i] (List.getElem?_eq_getElem hil)
  rw [List.getElem?_eq_getElem hi] at h1
  obtain rfl := Option.some.inj h1
  exact K.one h2 v hv
/-- a row that is the call's own at its top reads as a row -/
theorem RowR.of_els (K : KindOk R F sz) (h0 : 0 < sz) (ho : w.ownsRow base e sz (.slice A n c) n css.flatten) (hl : n = l.length) (hE : ElsR R w css l) : RowR R sz w A n c l := by
  refine ⟨⟨hl, fun hn => ?_⟩, own_none ho⟩
  rcases own_form ho with ⟨_, h0, _⟩ | ⟨g, rfl, _, hg⟩
  · omega
  · refine ⟨g, 0, rfl, hg, fun i x hx => ?_⟩
    obtain ⟨cs, h1, h3⟩ := hE.2 i x hx
    refine ⟨cs, h3, K.rlen h3, fun j u hu => ?_⟩
    have hj : j < sz := by rw [← K.rlen h3]; exact (List.getElem?_eq_some_iff.1 hu).1
    have hc := ho.cells (g := g) rfl (i * sz + j) u (by rw [flat_get (hE.clen K) h1 hj]; exact hu)
    rw [Addr.add_lit] at hc
    simpa using hc
/-- a row that is read: its cells -/
theorem RowR.cells (K : KindOk R F sz) (h0 : 0 < sz) (h : RowR R sz w A n c l) : ∃ css, CellsAt w A n sz css.flatten ∧ ElsR R w css l := by
  by_cases hn : n = 0
  · subst hn
    have hl : l = [] := List.eq_nil_of_length_eq_zero (by have := h.len; omega)
    subst hl
    exact ⟨[], ⟨by simp, fun h => absurd h (by omega)⟩, ElsR.nil⟩
  have hlen := h.len
  obtain ⟨b, off, rfl, hlt, hc⟩ := h.1.2 (by omega)
  have hex : ∀ i : Fin l.length, ∃ cs, R w cs l[i] ∧ cs.length = sz ∧ ∀ j u, cs[j]? = some u → w.cell? ⟨b, off + i * sz + j, none⟩ = some u := fun i => hc i l[i] (List.getElem?_eq_getElem i.2)
  have hE : ElsR R w (List.ofFn (fun i => Classical.choose (hex i))) l := by
    refine ⟨by simp, fun i x hx => ?_⟩
    have hi : i < l.length := (List.getElem?_eq_some_iff.1 hx).1
    obtain ⟨h1, _, _⟩ := Classical.choose_spec (hex ⟨i, hi⟩)
    refine ⟨_, by rw [List.getElem?_ofFn, dif_pos hi], ?_⟩
    have : l[i] = x := (List.getElem?_eq_some_iff.1 hx).2
    rw [← this]
    exact h1
  refine ⟨_, ⟨by rw [flat_len (hE.clen K), hE.1, hlen], fun _ => ⟨b, off, rfl, fun t u hu => ?_⟩⟩, hE⟩
  have ht : t < (List.ofFn (fun i => Classical.choose (hex i))).flatten.length := (List.getElem?_eq_some_iff.1 hu).1
  rw [flat_len (hE.clen K), hE.1] at ht
  have hdiv : t / sz < l.length := (Nat.div_lt_iff_lt_mul h0).2 ht
  have hmod : t % sz < sz := Nat.mod_lt _ h0
  have hsplit : t / sz * sz + t % sz = t := by have := Nat.div_add_mod t sz; rw [Nat.mul_comm]; exact this
  obtain ⟨_, _, h3⟩ := Classical.choose_spec (hex ⟨t / sz, hdiv⟩)
  have := flat_get (hE.clen K) (i := t / sz) (cs := Classical.choose (hex ⟨t / sz, hdiv⟩)) (by rw [List.getElem?_ofFn, dif_pos hdiv]) hmod
  rw [hsplit] at this
  have h4 := h3 (t % sz) u (by rw [← this]; exact hu)
  have h5 : off + t / sz * sz + t % sz = off + t := by rw [Nat.add_assoc, hsplit]
  rw [← h5]
  exact h4
/-- elements that own nothing -/
theorem ElsR.els (hF : ∀ cs x, R w cs x → F [] w cs x) : ∀ {css : List (List Value)} {l : List α}, ElsR R w css l → Els F w css (l.map fun _ => []) l
  | [], [], _ => trivial
  | cs :: css, x :: l, h => by
    obtain ⟨cs', h1, h2⟩ := h.2 0 x rfl
    obtain rfl : cs = cs' := Option.some.inj h1
    exact ⟨hF _ _ h2, ElsR.els hF (css := css) (l := l) ⟨by have := h.1; simpa using this, fun i y hy => by
      obtain ⟨cs', h1, h2⟩ := h.2 (i + 1) y (by simpa using hy)
      exact ⟨cs', by simpa using h1, h2⟩⟩⟩
  | [], _ :: _, h => by have := h.1; simp at this
  | _ :: _, [], h => by have := h.1; simp at this
theorem flat_nils (l : List α) : (l.map fun _ => ([] : List Nat)).flatten = [] := by
  induction l with
  | nil => rfl
  | cons a l ih => simp
end
end Go.Proofs.Ytdphdnllhmnelaa
/- Copies of a catalog: the reference's l15Copy. -/
namespace Go.Proofs.Ytdphdnllhmnelaa
open Go.RowKit
attribute [local irreducible] StrsAt StrR StrO RowR RowO
end Go.Proofs.Ytdphdnllhmnelaa
