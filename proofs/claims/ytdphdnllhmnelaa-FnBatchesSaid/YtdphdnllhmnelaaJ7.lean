/- Contracts and lemmas: StrRow, CopyT, Sz, Rd, Last. -/
import Derived.Test.YtdphdnllhmnelaaJ1
import Derived.Test.YtdphdnllhmnelaaJ2
import Derived.Laws.BytesArg
import Derived.Laws.IdiomStrings
import Derived.Deep.RegionHeld3
import Derived.Test.YtdphdnllhmnelaaJ3
import Derived.Test.YtdphdnllhmnelaaJ5
import Derived.Deep.Quiet
import Derived.BigQuiet
import Derived.Deep.QuietTactic
/- Contracts of the laws' helpers on lists of strings of the call's own: copy, marks. -/
namespace Go.Proofs.Ytdphdnllhmnelaa
open Go.RowKit

/-- the digits of a mark -/
def mtd (k : Nat) : List UInt8 := if h : k = 0 then [] else mtd (k / 10) ++ [48 + UInt8.ofNat (k % 10)]
termination_by k
decreasing_by omega
/-- a mark -/
def mtx (k : Int) : ByteArray := ⟨(109 :: mtd k.toNat).toArray⟩

/-- marks from k0 on -/
def mkT (k0 : Int) (j : Nat) : ByteArray := mtx (k0 + j)
def marks (k0 : Int) (n : Nat) : List ByteArray := (List.range n).map (mkT k0)
/-! ### the law's helpers in one shape -/
/-- texts that came in: their bounds -/
structure StrsOk (w : World) (A : Option Addr) (n : Nat) (l : List ByteArray) : Prop where
  at_ : StrsAt w A n l
  bn : n ≤ 9223372036854775807
  bs : ∀ i, i < n → (sAt l i).size ≤ 9223372036854775807
theorem StrsOk.keep {w w' : World} {A : Option Addr} {n : Nat} {l : List ByteArray} (h : StrsOk w A n l) (hb : Below w.heap.size w w') : StrsOk w' A n l := ⟨h.at_.keep hb, h.bn, h.bs⟩
/-- texts of the call's own -/
structure StrsIn (lo hi : Nat) (w : World) (A : Option Addr) (n c : Nat) (l : List ByteArray) : Prop where
  row : RowIn 9 1 lo hi w A n c (l.map Value.string)
section
variable {lo hi lo' hi' n c : Nat} {w w' : World} {A : Option Addr} {l : List ByteArray}
theorem StrsIn.keep (h : StrsIn lo hi w A n c l) (hb : Below w.heap.size w w') : StrsIn lo hi w' A n c l := ⟨h.row.keep hb⟩
theorem StrsIn.ch {S : Nat → Prop} (h : StrsIn lo hi w A n c l) (hc : Ch S w w') (hS : ∀ k, Iv lo hi k → ¬ S k) : StrsIn lo hi w' A n c l := ⟨h.row.ch hc hS⟩
theorem StrsIn.wide (h : StrsIn lo hi w A n c l) (h1 : lo' ≤ lo) (h2 : hi ≤ hi') : StrsIn lo' hi' w A n c l := ⟨h.row.wide h1 h2⟩
theorem StrsIn.at_ (h : StrsIn lo hi w A n c l) : StrsAt w A n l := StrsAt.of_row h.row
theorem StrsIn.of_own (h : w.ownsRow lo 9 1 (.slice A n c) n (l.map Value.string)) : StrsIn lo w.heap.size w A n c l := ⟨RowIn.of_own h⟩
theorem StrsIn.nil : StrsIn lo hi w none 0 0 [] := ⟨RowIn.nil⟩
end
/-- the answer is texts in memory of the call's own -/
def StrsR (l : List ByteArray) (w : World) (e : Ending) (w' : World) : Prop :=
  ∃ A n c, e = .returned (.slice A n c) ∧ StrsIn w.heap.size w'.heap.size w' A n c l ∧ Below w.heap.size w w'
def strsMk (k : Int) (l : List ByteArray) : List ByteArray := marks k l.length
def strsCnt (l : List ByteArray) : Nat := l.length
theorem strsSz_cons (x : ByteArray) (l : List ByteArray) : strsSz (x :: l) = 1 + x.size + strsSz l := by simp [strsSz]; omega
end Go.Proofs.Ytdphdnllhmnelaa
/- Contract of copyTexts. -/
namespace Go.Proofs.Ytdphdnllhmnelaa
open Go.RowKit
theorem strsT_one (l : List ByteArray) : ∀ u ∈ l.map Value.string, u.oneCell' = true := by
  intro u hu; obtain ⟨x, _, rfl⟩ := List.mem_map.1 hu; rfl
theorem StrsIn.nilcap {lo hi n c : Nat} {w : World} {A : Option Addr} {l : List ByteArray} (h : StrsIn lo hi w A n c l) : A = none → c = 0 := fun e => by
  subst e
  rcases own_form h.row.own with ⟨_, _, hc, _⟩ | ⟨g, hg, _⟩
  · exact hc
  · cases hg
theorem copyTextsT (A : Option Addr) (n c : Nat) (l : List ByteArray) (w : World) (h : StrsAt w A n l) (hc : A = none → c = 0) (hn : n ≤ 16777216) :
    Calls Try.prog 198 #[.slice A n c] w fun e w' => ∃ A' c', e = .returned (.slice A' n c') ∧ StrsIn w.heap.size w'.heap.size w' A' n c' l ∧ Below w.heap.size w w' := by
  have hcl := h.cells
  have hown := World.ownsRow_nil w w.heap.size 9 1
  have hz := Nat.le_refl w.heap.size
  go_enter Try.func198, Try.ntmps198
  go_wp2_with (at_builtin; refine wpList_app (P := Try.prog) w rfl (.const (.slice none 0 0)) (.tmp 3) 38 rfl w.heap.size 9 _ 1 16 Try.underlying38 infoString rfl (by omega) (.slice none 0 0) 0 [] rfl hown A n c (l.map Value.string) rfl hcl (strsT_one _) hc (by unfold maxLen; omega) (by omega) hz ?_; intro A' c' w1 hown1 hg1 hb1 _)
  go_returns
  simp only [Nat.zero_add, List.nil_append] at hown1 ⊢
  exact ⟨A', c', rfl, ⟨RowIn.of_own hown1⟩, hb1⟩
end Go.Proofs.Ytdphdnllhmnelaa
/- Contracts of sized and l4Piece; sizes of texts put together. -/
namespace Go.Proofs.Ytdphdnllhmnelaa
open Go.RowKit

def joinTo (l : List ByteArray) : Nat → ByteArray
  | 0 => ByteArray.empty
  | k + 1 => joinTo l k ++ sAt l k
def joinS (l : List ByteArray) : ByteArray := joinTo l l.length
theorem varL_len (n : Nat) : (varL n).length ≤ n + 1 := by
  induction n using Nat.strongRecOn with
  | _ n ih =>
    by_cases h : n < 128
    · rw [varL_small h]; simp
    · rw [varL_big h]
      have := ih (n / 128) (by omega)
      simp; omega
theorem varS_size (n : Nat) : (varS n).size ≤ n + 1 := varL_len n

theorem l4Piece_spec (s : ByteArray) (w : World) (hs : s.size ≤ 16777216) :
    Calls Try.prog 71 #[.string s] w fun e w' => e = .returned (.string (varS s.size ++ s)) ∧ Below w.heap.size w w' := by
  have hv := varS_size s.size
  go_enter Try.func71, Try.ntmps71
  go_wp2_with fail
  refine (var_spec _ _ (by omega)).mono ?_
  rintro e w1 ⟨rfl, hb⟩
  go_wp2
  go_returns
  exact ⟨rfl, hb⟩
end Go.Proofs.Ytdphdnllhmnelaa
/- Plain laws of reading: a text that is put together of pieces is cut again; what the reader's steps give on it. -/
namespace Go.Proofs.Ytdphdnllhmnelaa

/-- texts, one behind the other -/
def chL : List ByteArray → ByteArray
  | [] => .empty
  | c :: cs => c ++ chL cs
end Go.Proofs.Ytdphdnllhmnelaa
/- A region that draws its order: operations that only read, and behind them operations that wait for all before. One walk in the order of the text serves every order. -/
namespace Go.Proofs.Ytdphdnllhmnelaa
section
variable {P : Program} {pre : Array Oper} {z : Oper}

def depOnB (z : Oper) (j : Nat) : Bool := z.after.any fun e => Region.binds .any e && decide (e.on = j)
def waitInB (n : Nat) (z : Oper) : Bool := z.after.all fun e => !Region.binds .any e || decide (e.on < n)
def guardInB (n : Nat) (o : Oper) : Bool := (o.guard.map fun g => decide (g.1 < n)).getD true
/-- those of the first operations for which z waits, z's edges closed -/
def coverL (pre : Array Oper) (z : Oper) : Nat → List Nat → List Nat
  | 0, acc => acc
  | i + 1, acc => coverL pre z i (if depOnB z i || acc.any (fun j => depB pre j i) then i :: acc else acc)
def lastB (pre : Array Oper) (z : Oper) : Bool := waitInB pre.size z && (List.range pre.size).all (fun i => (coverL pre z pre.size []).contains i) && pre.all (guardInB pre.size)

theorem coverL_sound {L : Nat → Bool} (hc : ∀ i j, L j = true → depB pre j i = true → L i = true) (hz : ∀ j, depOnB z j = true → L j = true) :
    ∀ (n : Nat) (acc : List Nat), (∀ i ∈ acc, L i = true) → ∀ i ∈ coverL pre z n acc, L i = true := by
  intro n
  induction n with
  | zero => intro acc h i hi; exact h i hi
  | succ n ih =>
    intro acc h i hi
    refine ih _ (fun k hk => ?_) i hi
    split at hk
    · rename_i hcond
      rcases List.mem_cons.1 hk with rfl | hk
      · rcases Bool.or_eq_true_iff.1 hcond with h1 | h1
        · exact hz k h1
        · obtain ⟨j, hj, hd⟩ := List.any_eq_true.1 h1
          exact hc k j (h j hj) hd
      · exact h k hk
    · exact h k hk

/-- what is listed waits for listed ones alone -/
def Closed (pre : Array Oper) (L : Array Bool) : Prop := ∀ i j, L.getD j false = true → depB pre j i = true → L.getD i false = true
theorem push_getD {L : Array Bool} {i : Nat} {b d : Bool} (hi : i < L.size) : (L.push b).getD i d = L.getD i d := by
  simp [Array.getD, hi, Nat.lt_succ_of_lt hi, Array.getElem_push_lt hi]
theorem push_last {L : Array Bool} {b d : Bool} : (L.push b).getD L.size d = b := by simp [Array.getD]
theorem ops_lt {i : Nat} (hi : i < pre.size) : (pre.push z)[i]? = pre[i]? := by
  rw [Array.getElem?_push_lt hi, Array.getElem?_eq_getElem hi]
theorem dag_edge (hB : dagB pre = true) {i : Nat} {o : Oper} (ho : pre[i]? = some o) {e : Edge} (he : e ∈ o.after) (hb : Region.binds .any e = true) : e.on < i := by
  have hi : i < pre.size := (Array.getElem?_eq_some_iff.1 ho).1
  have h1 := List.all_eq_true.1 hB i (List.mem_range.2 hi)
  rw [ho] at h1
  simp only [Option.map_some, Option.getD_some, Array.all_eq_true'] at h1
  have := h1 e he
  simpa [hb] using this
theorem ready_lt (hB : dagB pre = true) {L : Array Bool} (hL : L.size = pre.size) {b : Bool} {i : Nat} (hi : i < pre.size) : i ∈ Region.ready .any (pre.push z) (L.push b) ↔ i ∈ Region.ready .any pre L := by
  rw [mem_ready, mem_ready, push_getD (by omega), ops_lt hi]
  constructor
  · rintro ⟨h0, o, ho, h⟩
    exact ⟨h0, o, ho, fun e he hb => by rw [← h e he hb, push_getD (by have := dag_edge hB ho he hb; omega)]⟩
  · rintro ⟨h0, o, ho, h⟩
    exact ⟨h0, o, ho, fun e he hb => by rw [push_getD (by have := dag_edge hB ho he hb; omega)]; exact h e he hb⟩
theorem last_parts (hz : lastB pre z = true) : (∀ e ∈ z.after, Region.binds .any e = true → e.on < pre.size) ∧ (∀ i, i < pre.size → i ∈ coverL pre z pre.size []) ∧ ∀ o ∈ pre, guardInB pre.size o = true := by
  unfold lastB waitInB at hz
  rw [Bool.and_eq_true, Bool.and_eq_true] at hz
  obtain ⟨⟨h1, h2⟩, h3⟩ := hz
  refine ⟨fun e he hb => ?_, fun i hi => ?_, fun o ho => ?_⟩
  · have := (Array.all_eq_true'.1 h1) e he
    simpa [hb] using this
  · have := List.all_eq_true.1 h2 i (List.mem_range.2 hi)
    simpa using this
  · exact (Array.all_eq_true'.1 h3) o ho
/-- z may come up when all before it have, and not before -/
theorem ready_last (hB : dagB pre = true) (hz : lastB pre z = true) {L : Array Bool} (hL : L.size = pre.size) (hc : Closed pre L) (h : pre.size ∈ Region.ready .any (pre.push z) (L.push false)) : ∀ i, i < pre.size → L.getD i false = true := by
  obtain ⟨h1, h2, _⟩ := last_parts hz
  obtain ⟨_, o, ho, hall⟩ := mem_ready.1 h
  have : o = z := by simpa using ho.symm
  subst this
  intro i hi
  refine coverL_sound (L := fun j => L.getD j false) (fun i j hj hd => hc i j hj hd) (fun j hj => ?_) pre.size [] (by simp) i (h2 i hi)
  unfold depOnB at hj
  rw [Array.any_eq_true'] at hj
  obtain ⟨e, he, hb⟩ := hj
  rw [Bool.and_eq_true, decide_eq_true_eq] at hb
  obtain ⟨hb, rfl⟩ := hb
  rw [← hall e he hb, push_getD (by have := h1 e he hb; omega)]
theorem closed_set (hB : dagB pre = true) {L : Array Bool} {i : Nat} (hL : L.size = pre.size) (hc : Closed pre L) (hi : i ∈ Region.ready .any pre L) : Closed pre (L.setIfInBounds i true) := by
  obtain ⟨h0, o, ho, hall⟩ := mem_ready.1 hi
  intro k j hj hd
  by_cases hji : j = i
  · subst hji
    unfold depB at hd
    rw [ho] at hd
    simp only [Option.map_some, Option.getD_some, Array.any_eq_true', Bool.and_eq_true, decide_eq_true_eq] at hd
    obtain ⟨e, he, hb, rfl⟩ := hd
    exact getD_set_true (hall e he hb)
  · rw [getD_set_ne false (Ne.symm hji)] at hj
    exact getD_set_true (hc k j hj hd)

theorem wanted_push {o : Oper} (ho : guardInB pre.size o = true) (tm : Array Value) : Region.wanted o (yielded (pre.push z) tm) = Region.wanted o (yielded pre tm) := by
  unfold Region.wanted
  unfold guardInB at ho
  cases hg : o.guard with
  | none => rfl
  | some gw =>
    obtain ⟨g, want⟩ := gw
    rw [hg] at ho
    have hlt : g < pre.size := by simpa using ho
    have : yielded (pre.push z) tm g = yielded pre tm g := by unfold yielded; rw [ops_lt hlt]
    simp only [this]
theorem wpOp_push (hz : lastB pre z = true) {Q' Q : Exit → Act → World → Prop} (hQ : ∀ e a w, e ≠ .normal → Q' e a w → Q e a w) {i : Nat} (hi : i < pre.size) {K K' : Act → World → Prop} {a : Act} {w : World}
    (hK : ∀ a w, K a w → K' a w) (h : wpOp P pre Q' i K a w) : wpOp P (pre.push z) Q i K' a w := by
  have hl : LetsOut Q' → LetsOut Q := fun ⟨a, w, h⟩ => ⟨a, w, hQ _ _ _ (by simp) h⟩
  unfold wpOp at *
  rw [ops_lt hi]
  have ho : pre[i]? = some pre[i] := Array.getElem?_eq_getElem hi
  rw [ho] at h ⊢
  simp only at h ⊢
  rw [wanted_push ((last_parts hz).2.2 _ (Array.getElem_mem hi))]
  split
  · rename_i hw
    rw [if_pos hw] at h
    rcases h with h | ⟨h1, h2⟩
    · refine .inl ?_
      unfold Oper.wp at *
      generalize (execOp a.eval pre[i]).run P w = r at *
      cases r with
      | ok n w' =>
        cases n <;> simp only [Oper.upon] at h ⊢
        case value => exact hK _ _ h
        case skip => exact hK _ _ h
        case defer => exact hK _ _ h
        case enter =>
          refine h.mono fun e w'' he => ?_
          cases e with
          | returned u => exact hK _ _ he
          | panicked c => exact hQ _ _ _ (by simp) he
          | outgrown => exact hl he
        case row => exact Rows.mono h fun _ _ he => hK _ _ he
      | halt x w' =>
        cases x <;> simp only [Oper.upon] at h ⊢
        case panic => exact hQ _ _ _ (by simp) h
    · exact .inr ⟨h1, hl h2⟩
  · rename_i hw
    rw [if_neg hw] at h
    exact hK _ _ h

theorem ready_none (hB : dagB pre = true) (hz : lastB pre z = true) {L : Array Bool} (hL : L.size = pre.size) (hall : ∀ i, i < pre.size → L.getD i false = true) {b : Bool} {k : Nat} (hk : k ∈ Region.ready .any (pre.push z) (L.push b)) : k = pre.size ∧ b = false := by
  have hlt : k < (pre.push z).size := by
    obtain ⟨_, o, ho, _⟩ := mem_ready.1 hk
    exact (Array.getElem?_eq_some_iff.1 ho).1
  rw [Array.size_push] at hlt
  by_cases h : k < pre.size
  · have h0 := (mem_ready.1 hk).1
    rw [push_getD (by omega)] at h0
    have h1 := hall k h
    rw [getD_of (by omega)] at h0 h1
    rw [h0] at h1; cases h1
  · have e : k = pre.size := by omega
    subst e
    have h0 := (mem_ready.1 hk).1
    rw [← hL, push_last] at h0
    exact ⟨rfl, h0⟩
theorem wpAny_push (hB : dagB pre = true) (hz : lastB pre z = true) {Q' Q : Exit → Act → World → Prop} (hQ : ∀ e a w, e ≠ .normal → Q' e a w → Q e a w)
    (hend : ∀ a w, Q' .normal a w → wpOp P (pre.push z) Q pre.size (fun a' w' => Q .normal a' w') a w) :
    ∀ (fuel : Nat) (L : Array Bool) (a : Act) (w : World), L.size = pre.size → Closed pre L → wpAny P .any pre Q' fuel L a w → wpAny P .any (pre.push z) Q (fuel + 1) (L.push false) a w := by
  have hset : ∀ (L : Array Bool), L.size = pre.size → (L.push false).setIfInBounds pre.size true = L.push true := fun L hL => by
    apply Array.ext_getElem?
    intro i
    rw [Array.getElem?_setIfInBounds]
    by_cases h : pre.size = i
    · subst h; rw [← hL]; simp
    · rw [if_neg h, Array.getElem?_push, Array.getElem?_push]
      rw [if_neg (by omega), if_neg (by omega)]
  -- behind the last operation nothing comes up
  have hdone : ∀ (L : Array Bool), L.size = pre.size → (∀ i, i < pre.size → L.getD i false = true) → Region.ready .any (pre.push z) (L.push true) = [] := fun L hL hall => by
    rw [List.eq_nil_iff_forall_not_mem]
    intro k hk
    have := (ready_none hB hz hL hall hk).2
    cases this
  have hafter : ∀ (f : Nat) (L : Array Bool) (a : Act) (w : World), L.size = pre.size → (∀ i, i < pre.size → L.getD i false = true) → Q .normal a w → wpAny P .any (pre.push z) Q f (L.push true) a w := fun f L a w hL hall h => by
    have hd := hdone L hL hall
    cases f with
    | zero => exact ⟨hd, h⟩
    | succ f => exact ⟨fun _ => h, fun i hi => by rw [hd] at hi; cases hi⟩
  have hlast : ∀ (L : Array Bool), L.size = pre.size → (∀ i, i < pre.size → L.getD i false = true) → pre.size ∈ Region.ready .any (pre.push z) (L.push false) := fun L hL hall => by
    rw [mem_ready]
    refine ⟨by rw [← hL, push_last], z, by simp, fun e he hb => ?_⟩
    have := (last_parts hz).1 e he hb
    rw [push_getD (by omega)]
    exact hall _ this
  have htake : ∀ (f : Nat) (L : Array Bool) (a : Act) (w : World), L.size = pre.size → (∀ i, i < pre.size → L.getD i false = true) → Q' .normal a w → wpAny P .any (pre.push z) Q (f + 1) (L.push false) a w := fun f L a w hL hall h => by
    refine ⟨fun he => (by have := hlast L hL hall; rw [he] at this; cases this), fun k hk => ?_⟩
    obtain ⟨rfl, _⟩ := ready_none hB hz hL hall hk
    refine wpOp_mono (fun a' w' h' => ?_) (hend a w h)
    rw [hset L hL]
    exact hafter f L a' w' hL hall h'
  intro fuel
  induction fuel with
  | zero =>
    intro L a w hL hc h
    exact htake 0 L a w hL (dag_none hB hL h.1) h.2
  | succ fuel ih =>
    intro L a w hL hc h
    by_cases hr : Region.ready .any pre L = []
    · exact htake (fuel + 1) L a w hL (dag_none hB hL hr) (h.1 hr)
    · refine ⟨fun he => ?_, fun k hk => ?_⟩
      · refine absurd ?_ hr
        rw [List.eq_nil_iff_forall_not_mem] at he ⊢
        intro k hk
        have hlt : k < pre.size := by
          obtain ⟨_, o, ho, _⟩ := mem_ready.1 hk
          exact (Array.getElem?_eq_some_iff.1 ho).1
        exact he k ((ready_lt hB hL hlt).2 hk)
      · have hlt : k < (pre.push z).size := by
          obtain ⟨_, o, ho, _⟩ := mem_ready.1 hk
          exact (Array.getElem?_eq_some_iff.1 ho).1
        rw [Array.size_push] at hlt
        by_cases hkl : k < pre.size
        · have hk' := (ready_lt hB hL hkl).1 hk
          refine wpOp_push hz hQ hkl (fun a' w' h' => ?_) (h.2 k hk')
          have := ih (L.setIfInBounds k true) a' w' (by simpa using hL) (closed_set hB hL hc hk') h'
          have e : (L.setIfInBounds k true).push false = (L.push false).setIfInBounds k true := by
            apply Array.ext_getElem?
            intro i
            rw [Array.getElem?_setIfInBounds, Array.getElem?_push, Array.getElem?_push, Array.getElem?_setIfInBounds, Array.size_setIfInBounds, Array.size_push]
            by_cases h1 : k = i
            · subst h1; rw [if_pos rfl, if_pos rfl, if_neg (by omega), if_pos (by omega), if_pos (by omega)]
            · rw [if_neg h1, if_neg h1]
          rw [← e]
          exact this
        · have e : k = pre.size := by omega
          subst e
          have hall := ready_last hB hz hL hc hk
          refine absurd ?_ hr
          rw [List.eq_nil_iff_forall_not_mem]
          intro i hi
          have h0 := (mem_ready.1 hi).1
          have hlt : i < pre.size := by
            obtain ⟨_, o, ho, _⟩ := mem_ready.1 hi
            exact (Array.getElem?_eq_some_iff.1 ho).1
          have h1 := hall i hlt
          rw [getD_of (by omega)] at h0 h1
          rw [h0] at h1; cases h1

/-- the exits of z for the walk of those ahead of it -/
def exitZ (P : Program) (ops : Array Oper) (n : Nat) (Q : Exit → Act → World → Prop) : Exit → Act → World → Prop
  | .normal, a, w => wpOp P ops Q n (fun a' w' => Q .normal a' w') a w
  | e, a, w => Q e a w
theorem wpAny_last (hB : dagB pre = true) (hz : lastB pre z = true) {Q : Exit → Act → World → Prop} {fuel : Nat} {a : Act} {w : World} (h : wpAny P .any pre (exitZ P (pre.push z) pre.size Q) fuel (Array.replicate pre.size false) a w) :
    wpAny P .any (pre.push z) Q (fuel + 1) (Array.replicate (pre.size + 1) false) a w := by
  have e : Array.replicate (pre.size + 1) false = (Array.replicate pre.size false).push false := by rw [Array.replicate_succ]
  rw [e]
  refine wpAny_push hB hz (fun e a w he h => ?_) (fun a w h => h) fuel _ a w (by simp) (fun i j hj hd => ?_) h
  · cases e with
    | normal => exact absurd rfl he
    | _ => exact h
  · simp only [Array.getD, Array.size_replicate] at hj
    split at hj
    · rw [Array.getInternal_eq_getElem, Array.getElem_replicate] at hj; cases hj
    · cases hj
/-- A region whose operations only read but for the last one, which waits for all of them: one walk. Behind it 'quiet_step's, then the last one's own step. -/
theorem wp_region_last {id : Nat} {ops : Array Oper} {Q : Exit → Act → World → Prop} {a : Act} {w : World} {z : Oper} (hs : ops.toList.getLast? = some z) (hm : P.follows .mixedOrders = true) (hL : Region.lexB .any ops.toList.dropLast.toArray = true)
    (hB : dagB ops.toList.dropLast.toArray = true) (hz : lastB ops.toList.dropLast.toArray z = true)
    (h : wpQuiet P ops.toList.dropLast.toArray (fun w' => ∃ n, w' = w.drewN n) (fun a' => ∀ w', (∃ n, w' = w.drewN n) → wpOp P ops Q (ops.size - 1) (fun a'' w'' => Q .normal a'' w'') a' w') ops.toList.dropLast a) :
    (Code.region id ops true).wp P Q a w := by
  have hops : ops.toList.dropLast.toArray.push z = ops := by
    have hne : ops.toList ≠ [] := fun e => by rw [e] at hs; cases hs
    have hz2 : ops.toList.getLast hne = z := by rw [List.getLast?_eq_some_getLast hne] at hs; exact Option.some.inj hs
    rw [List.push_toArray, ← hz2, List.dropLast_concat_getLast hne]
  generalize ops.toList.dropLast = l at *
  have hn : l.toArray.size = ops.size - 1 := by rw [← hops]; simp
  have hn2 : l.toArray.size + 1 = ops.size := by rw [← hops]; simp
  refine wp_region_any hm ?_
  simp only [Region.lexB, Bool.and_eq_true] at hL
  have h1 := wpAnyQ_lex (C := fun w' => ∃ n, w' = w.drewN n) (md := .any) hL.1 l 0 (Array.replicate l.toArray.size false) a (by simp) (by simpa using hL.2) h
  have h2 := wpAny_of_quiet (Q' := exitZ P (l.toArray.push z) l.toArray.size Q) (fun a' w' hw' hh => by
    show wpOp P (l.toArray.push z) Q l.toArray.size _ a' w'
    rw [hops, hn]; exact hh w' hw') _ _ _ _ (show ∃ n, { w with drawn := w.drawn + 1 } = w.drewN n from ⟨1, rfl⟩) h1
  have h3 := wpAny_last hB hz (by simpa using h2)
  rw [hops, hn2] at h3
  simpa [← hn2] using h3

/-- the same with two operations at the end: the last but one waits for all the first, the last one for all -/
theorem wp_region_last2 {id : Nat} {ops : Array Oper} {Q : Exit → Act → World → Prop} {a : Act} {w : World} {z1 z2 : Oper} (hs2 : ops.toList.getLast? = some z2) (hs1 : ops.toList.dropLast.getLast? = some z1) (hm : P.follows .mixedOrders = true) (hL : Region.lexB .any ops.toList.dropLast.dropLast.toArray = true)
    (hB : dagB ops.toList.dropLast.dropLast.toArray = true) (hz1 : lastB ops.toList.dropLast.dropLast.toArray z1 = true) (hB2 : dagB ops.toList.dropLast.toArray = true) (hz2 : lastB ops.toList.dropLast.toArray z2 = true)
    (h : wpQuiet P ops.toList.dropLast.dropLast.toArray (fun w' => ∃ n, w' = w.drewN n) (fun a' => ∀ w', (∃ n, w' = w.drewN n) → wpOp P ops.toList.dropLast.toArray (exitZ P ops (ops.size - 1) Q) (ops.size - 2) (fun a'' w'' => wpOp P ops Q (ops.size - 1) (fun a3 w3 => Q .normal a3 w3) a'' w'') a' w') ops.toList.dropLast.dropLast a) :
    (Code.region id ops true).wp P Q a w := by
  have hops : ops.toList.dropLast.toArray.push z2 = ops := by
    have hne : ops.toList ≠ [] := fun e => by rw [e] at hs2; cases hs2
    have hz2 : ops.toList.getLast hne = z2 := by rw [List.getLast?_eq_some_getLast hne] at hs2; exact Option.some.inj hs2
    rw [List.push_toArray, ← hz2, List.dropLast_concat_getLast hne]
  generalize ops.toList.dropLast = l at *
  have hops1 : l.dropLast.toArray.push z1 = l.toArray := by
    have hne : l ≠ [] := fun e => by rw [e] at hs1; cases hs1
    have hz2 : l.getLast hne = z1 := by rw [List.getLast?_eq_some_getLast hne] at hs1; exact Option.some.inj hs1
    rw [List.push_toArray, ← hz2, List.dropLast_concat_getLast hne]
  generalize l.dropLast = m at *
  have hn2 : l.toArray.size = ops.size - 1 := by rw [← hops]; simp
  have hn1 : m.toArray.size = ops.size - 2 := by
    have : l.toArray.size = m.toArray.size + 1 := by rw [← hops1]; simp
    omega
  have hsz : m.toArray.size + 1 + 1 = ops.size := by
    have h1 : l.toArray.size = m.toArray.size + 1 := by rw [← hops1]; simp
    have h2 : ops.size = l.toArray.size + 1 := by rw [← hops]; simp
    omega
  have hsl : m.toArray.size + 1 = l.toArray.size := by rw [← hops1]; simp
  refine wp_region_any hm ?_
  simp only [Region.lexB, Bool.and_eq_true] at hL
  have h1 := wpAnyQ_lex (C := fun w' => ∃ n, w' = w.drewN n) (md := .any) hL.1 m 0 (Array.replicate m.toArray.size false) a (by simp) (by simpa using hL.2) h
  have h2 := wpAny_of_quiet (Q' := exitZ P (m.toArray.push z1) m.toArray.size (exitZ P (l.toArray.push z2) l.toArray.size Q)) (fun a' w' hw' hh => by
    show wpOp P (m.toArray.push z1) (exitZ P (l.toArray.push z2) l.toArray.size Q) m.toArray.size (fun a'' w'' => wpOp P (l.toArray.push z2) Q l.toArray.size _ a'' w'') a' w'
    rw [hops1, hops, hn1, hn2]; exact hh w' hw') _ _ _ _ (show ∃ n, { w with drawn := w.drawn + 1 } = w.drewN n from ⟨1, rfl⟩) h1
  have h3 := wpAny_last (Q := exitZ P (l.toArray.push z2) l.toArray.size Q) hB hz1 (by simpa using h2)
  rw [hops1, hsl] at h3
  have h4 := wpAny_last hB2 hz2 h3
  rw [hops, ← hsl, hsz] at h4
  simpa [← hsz] using h4

theorem wpOp_at {ops : Array Oper} {Q : Exit → Act → World → Prop} {i : Nat} {K : Act → World → Prop} {a : Act} {w : World} {o : Oper} (ho : ops[i]? = some o) (hg : o.guard = none) (h : ∀ K' : Act → World → Prop, (∀ a w, K a w → K' a w) → o.wp P a w K' Q) : wpOp P ops Q i K a w := by
  unfold wpOp
  rw [ho]
  simp only [Region.wanted, hg, if_true]
  exact .inl (h K (fun _ _ h => h))
end
open Go.RowKit
/-- an append as an operation of a region that draws its order -/
theorem step_app' {P : Program} {ops : Array Oper} {o : Oper} {a : Act} {w : World} {K : Act → World → Prop} {Q : Exit → Act → World → Prop} {E : Prop} (hgd : o.guard = none) (s x : Operand) (t : TypeId)
    (ho : o.op = .call { callee := .builtin .append, args := #[s, x], argTypes := #[t, t] })
    (base : Nat) (e : TypeId) (z : Value) (size bytes : Nat) (ht : P.underlying t = some (.slice e)) (hinfo : (P.info? e).map (fun i => (i.zero, i.size, i.bytes)) = some (some z, size, bytes))
    (hzs : z.cells.size = size) (hsz : 0 < size) (v : Value) (n : Nat) (xs : List Value) (hs : a.eval s = v) (hown : w.ownsRow base e size v n xs)
    (A : Option Addr) (m c : Nat) (news : List Value) (hx : a.eval x = .slice A m c) (hsrc : CellsAt w A m size news) (h1 : ∀ u ∈ news, u.oneCell' = true) (hn : A = none → c = 0)
    (h63 : n + m ≤ maxLen) (hbytes : (n + m) * bytes ≤ 140737488355328) (hbase : base ≤ w.heap.size)
    (h : ∀ A' c' w', w'.ownsRow base e size (.slice A' (n + m) c') (n + m) (xs ++ news) → w.grownBy w' v.ownBlock → Below base w w' →
      ((Value.slice A' (n + m) c').ownBlock = v.ownBlock ∨ (Value.slice A' (n + m) c').ownBlock = some w.heap.size) → K (a.put o.dst (.slice A' (n + m) c')) w') :
    if Region.wanted o (yielded ops a.tmps) = true then Oper.wp P o a w K Q else E := by
  have hw : Region.wanted o (yielded ops a.tmps) = true := by simp [Region.wanted, hgd]
  rw [if_pos hw]
  obtain ⟨A', c', w', hr, h2, h3, h4⟩ := run_app (P := P) w base t o.type e z size bytes ht hinfo hzs hsz v n xs hown A m c news hsrc h1 hn h63 hbytes hbase
  unfold Oper.wp execOp
  simp only [ho, resolve, invoke, builtin, Sem.run_bind, Sem.run_pure, Result.andThen_ok, List.map_toArray, List.map_cons, List.map_nil, hs, hx, hr]
  exact h A' c' w' h2 h3 (below_own hown h3 hbase) h4

end Go.Proofs.Ytdphdnllhmnelaa
