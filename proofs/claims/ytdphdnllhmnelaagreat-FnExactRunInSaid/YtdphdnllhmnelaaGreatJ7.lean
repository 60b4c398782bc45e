/- Contracts and lemmas: StrRow, CopyT, Sz, Rd. -/
import Derived.Test.YtdphdnllhmnelaaGreatJ1
import Derived.Test.YtdphdnllhmnelaaGreatJ2
import Derived.Laws.BytesArg
import Derived.Laws.IdiomStrings
import Derived.Deep.RegionHeld3
import Derived.Test.YtdphdnllhmnelaaGreatJ3
/- Contracts of the laws' helpers on lists of strings of the call's own: copy, marks. -/
namespace Go.Proofs.YtdphdnllhmnelaaGreat
open Go.RowKit

theorem toStrs_row (A : Option Addr) (n c : Nat) (l : List ByteArray) (w : World) (h : StrsAt w A n l) (hn : n ≤ 16777216) :
    Calls Tryz.prog 80 #[.slice A n c] w fun e w' => ∃ g, e = .returned (.slice (some ⟨g, 0, none⟩) n n) ∧ RowIn 9 1 w.heap.size w'.heap.size w' (some ⟨g, 0, none⟩) n n (l.map Value.string) ∧ Below w.heap.size w w' :=
  (toStrs_any A n c l w h hn).mono fun e w' ⟨g, he, ho, hb⟩ => ⟨g, he, RowIn.of_own ho, hb⟩

/-- the digits of a mark -/
def mtd (k : Nat) : List UInt8 := if h : k = 0 then [] else mtd (k / 10) ++ [48 + UInt8.ofNat (k % 10)]
termination_by k
decreasing_by omega
theorem mtd_zero : mtd 0 = [] := by rw [mtd]; simp
theorem mtd_pos {k : Nat} (h : 0 < k) : mtd k = mtd (k / 10) ++ [48 + UInt8.ofNat (k % 10)] := by
  conv => lhs; rw [mtd]
  rw [dif_neg (by omega)]
theorem mtd_len (k : Nat) : (mtd k).length ≤ k := by
  induction k using Nat.strongRecOn with
  | _ k ih =>
    rcases Nat.eq_zero_or_pos k with rfl | h
    · rw [mtd_zero]; simp
    · rw [mtd_pos h]
      have := ih (k / 10) (by omega)
      simp; omega
/-- a mark -/
def mtx (k : Int) : ByteArray := ⟨(109 :: mtd k.toNat).toArray⟩

theorem infoByteM : (Tryz.prog.info? 5).map (fun i => (i.zero, i.size, i.bytes)) = some (some (.int .u8 0), 1, 1) := by kernel_rfl
theorem run_byte_str (w : World) (b : Nat) (hb : b < 256) : (convert 42 9 (.slice (some ⟨w.heap.size, 0, none⟩) 1 1)).run Tryz.prog (w.alloc (.cells #[.int .u8 (b : Int)] 5)) = .ok (.string ⟨#[UInt8.ofNat b]⟩) (w.alloc (.cells #[.int .u8 (b : Int)] 5)) := by
  have h := run_convert_bytes_back (P := Tryz.prog) (w.alloc (.cells #[.int .u8 (b : Int)] 5)) 42 9 5 ⟨w.heap.size, 0, none⟩ 1 [UInt8.ofNat b] Tryz.underlying42 Tryz.underlying5 Tryz.underlying9 (by
    intro j hj
    have hj0 : j = 0 := by simpa using hj
    subst hj0
    rw [Addr.add_zero', World.cell?_alloc_new]
    simp only [List.getElem_cons_zero]
    have : ((UInt8.ofNat b).toNat : Int) = b := by simp; omega
    rw [this]
    rfl)
  simpa using h
theorem str_app (a b : List UInt8) : (⟨a.toArray⟩ : ByteArray) ++ ⟨b.toArray⟩ = ⟨(a ++ b).toArray⟩ := by
  apply str_ext
  simp [Lib.toList_data, ByteArray.data_append]

set_option maxHeartbeats 400000 in
theorem markText_any (k0 : Int) (w : World) (h0 : 0 < k0) (h1 : k0 ≤ 1152921504606846976) :
    Calls Tryz.prog 41 #[.int .i64 k0] w fun e w' => e = .returned (.string (mtx k0)) ∧ Below w.heap.size w w' := by
  obtain ⟨m, rfl⟩ := Int.eq_ofNat_of_zero_le (show 0 ≤ k0 by omega)
  go_enter Tryz.func41, Tryz.ntmps41
  go_wp2
  go_loopw [0, 3] (fun k o wr => ∃ (j : Nat) (t : List UInt8), j ≤ m ∧ k = .int .i64 j ∧ o = .string ⟨t.toArray⟩ ∧ mtd m = mtd j ++ t ∧ Below w.heap.size w wr) (fun k _ _ => (intOf k).toNat)
  case atStart => exact ⟨m, [], Nat.le_refl _, rfl, rfl, (List.append_nil _).symm, Below.refl _ _⟩
  case round =>
    obtain ⟨j, t, hj, rfl, rfl, ht, hb⟩ := hrel
    have HT := Lib.hid ht; clear ht
    have hl : t.length ≤ m := by have q1 := congrArg List.length HT.out; rw [List.length_append] at q1; have q2 := mtd_len m; omega
    have hls : (⟨t.toArray⟩ : ByteArray).size ≤ m := by show t.toArray.size ≤ m; rw [List.size_toArray]; exact hl
    have hbz := hb.size
    by_cases hpos : 0 < j
    · have HP := Lib.hid (mtd_pos hpos)
      have hbs := run_byte_str wr (48 + j % 10) (by omega)
      rw [show ((48 + j % 10 : Nat) : Int) = 48 + (j : Int) % 10 by simp] at hbs
      go_wp2
      exact ⟨⟨j / 10, (48 + UInt8.ofNat (j % 10)) :: t, by omega, by go_num, by rw [show (#[48 + UInt8.ofNat (j % 10)] : Array UInt8) = [48 + UInt8.ofNat (j % 10)].toArray from rfl, str_app]; rfl, by rw [HT.out, HP.out]; simp, hb.alloc hb.size _⟩, by simp [intOf]; omega⟩
    · go_wp2
      go_returns
      obtain rfl : j = 0 := by omega
      refine ⟨?_, hb⟩
      have e := HT.out
      rw [mtd_zero, List.nil_append] at e
      rw [str_app]
      unfold mtx
      simp [e]

/-- marks from k0 on -/
def mkT (k0 : Int) (j : Nat) : ByteArray := mtx (k0 + j)
def marks (k0 : Int) (n : Nat) : List ByteArray := (List.range n).map (mkT k0)
theorem marks_len (k0 : Int) (n : Nat) : (marks k0 n).length = n := by simp [marks]
theorem sAt_marks {k0 : Int} {n j : Nat} (h : j < n) : sAt (marks k0 n) j = mkT k0 j := by simp [sAt, marks, h]
theorem marks_str (k0 : Int) (n : Nat) : (marks k0 n).map Value.string = (List.range n).map (fun j => Value.string (mkT k0 j)) := by simp [marks]

theorem markStrs_row (A : Option Addr) (n c : Nat) (xs : List Value) (k0 : Int) (lo hi e : Nat) (w : World) (h : RowIn e 1 lo hi w A n c xs) (hn : n ≤ 16777216) (hk0 : 0 < k0) (hk1 : k0 ≤ 576460752303423488) :
    Calls Tryz.prog 42 #[.slice A n c, .int .i64 k0] w fun e' w' => e' = .returned (.int .i64 (k0 + n)) ∧ RowIn e 1 lo hi w' A n c ((marks k0 n).map Value.string) ∧ Ch (BlkOf A) w w' := by
  go_enter Tryz.func42, Tryz.ntmps42
  go_wp2
  go_loopw [1, 5] (fun u i wr => ∃ (k : Nat) (xs : List Value), k ≤ n ∧ i = .int .i64 k ∧ u = .int .i64 (k0 + k) ∧ RowIn e 1 lo hi wr A n c xs ∧ (∀ j, j < k → xs[j]? = some (.string (mkT k0 j))) ∧ Ch (BlkOf A) w wr) (fun _ i _ => n - (intOf i).toNat)
  case atStart => exact ⟨0, xs, Nat.zero_le _, rfl, by simp, h, fun j hj => absurd hj (by omega), Ch.refl _⟩
  case round =>
    obtain ⟨k, xs, hk, rfl, rfl, hown, hx, hb⟩ := hrel
    have HX := Lib.hid hx; clear hx
    by_cases hlt : k < n
    · obtain ⟨g, rfl⟩ := hown.head (by omega)
      go_wp2_with fail
      refine (markText_any _ _ (by omega) (by omega)).mono ?_
      rintro e1 w1 ⟨rfl, hb1⟩
      have hown1 := hown.keep hb1
      obtain ⟨old, hold⟩ := own_cell hown1.own (j := k) (by omega)
      have hfr := hown1.own.frozenAt k
      go_wp2
      obtain ⟨hown2, _⟩ := hown1.store k (.string (mkT k0 k))
      exact ⟨⟨k + 1, _, by omega, by go_num, by congr 1; push_cast; omega, hown2, set_upto (n := n) (by simpa using hown.len) hlt HX.out rfl, (hb.trans (Ch.of_below hb1)).setCell (p := ⟨g, k, none⟩) rfl _⟩, by simp [intOf]; omega⟩
    · go_wp2
      go_returns
      have : k = n := by omega
      subst this
      refine ⟨rfl, ?_, hb⟩
      have e1 := list_of_get (n := k) (by simpa using hown.len) HX.out
      subst e1
      rw [marks_str]
      exact hown

theorem heldStrs_row (A : Option Addr) (n c : Nat) (k0 : Int) (w : World) (h : StrsAt w A n (marks k0 n)) (hn : n ≤ 16777216) (hk0 : 0 < k0) (hk1 : k0 ≤ 576460752303423488) :
    Calls Tryz.prog 181 #[.slice A n c, .int .i64 k0] w fun e' w' => e' = .returned (.int .i64 (k0 + n)) ∧ Below w.heap.size w w' := by
  go_enter Tryz.func181, Tryz.ntmps181
  go_wp2
  go_loopw [1, 5] (fun u i wr => ∃ (k : Nat), k ≤ n ∧ i = .int .i64 k ∧ u = .int .i64 (k0 + k) ∧ Below w.heap.size w wr) (fun _ i _ => n - (intOf i).toNat)
  case atStart => exact ⟨0, Nat.zero_le _, rfl, by simp, Below.refl _ _⟩
  case round =>
    obtain ⟨k, hk, rfl, rfl, hb⟩ := hrel
    by_cases hlt : k < n
    · obtain ⟨b, off, rfl, hbl, hc⟩ := h.at_ (by omega)
      have hck := (hb.cell (p := ⟨b, off + k, none⟩) hbl).trans (hc k hlt)
      clear hc
      rw [sAt_marks hlt] at hck
      unfold mkT at hck
      go_wp2
      go_region_held3 (fun w' => w'.cell? ⟨b, off + k, none⟩ = some (.string (mtx (k0 + k))) ∧ Below w.heap.size w w') (first | (have hh := ‹_ ∧ _›; exact ⟨keep_cell hbw hh.1, bthen hh.2 hbw⟩) | (have hh := ‹_ ∧ _›; exact ⟨hh.1, hh.2.drew⟩) | exact ⟨hck, hb.drew⟩ | exact ⟨hck, hb⟩) (first | (go_at_call 41; refine (markText_any _ _ (by omega) (by omega)).mono ?_; rintro e w1 ⟨rfl, hbw⟩))
      have hbr := (by have hh := ‹_ ∧ _›; exact hh.2 : Below w.heap.size w _)
      go_wp2
      exact ⟨⟨k + 1, by omega, by go_num, by congr 1; push_cast; omega, hbr⟩, by simp [intOf]; omega⟩
    · go_wp2
      go_returns
      have : k = n := by omega
      subst this
      exact ⟨rfl, hb⟩

/-! ### the law's helpers in one shape -/
/-- texts that came in: their bounds -/
structure StrsOk (w : World) (A : Option Addr) (n : Nat) (l : List ByteArray) : Prop where
  at_ : StrsAt w A n l
  bn : n ≤ 9223372036854775807
  bs : ∀ i, i < n → (sAt l i).size ≤ 9223372036854775807
theorem StrsOk.keep {w w' : World} {A : Option Addr} {n : Nat} {l : List ByteArray} (h : StrsOk w A n l) (hb : Below w.heap.size w w') : StrsOk w' A n l := ⟨h.at_.keep hb, h.bn, h.bs⟩
/-- texts of the call's own -/
structure StrsIn (lo hi : Nat) (w : World) (A : Option Addr) (n c : Nat) (l : List ByteArray) : Prop where
  row : RowIn 9 1 lo hi w A n c (l.map Value.string)
section
variable {lo hi lo' hi' n c : Nat} {w w' : World} {A : Option Addr} {l : List ByteArray}
theorem StrsIn.keep (h : StrsIn lo hi w A n c l) (hb : Below w.heap.size w w') : StrsIn lo hi w' A n c l := ⟨h.row.keep hb⟩
theorem StrsIn.ch {S : Nat → Prop} (h : StrsIn lo hi w A n c l) (hc : Ch S w w') (hS : ∀ k, Iv lo hi k → ¬ S k) : StrsIn lo hi w' A n c l := ⟨h.row.ch hc hS⟩
theorem StrsIn.wide (h : StrsIn lo hi w A n c l) (h1 : lo' ≤ lo) (h2 : hi ≤ hi') : StrsIn lo' hi' w A n c l := ⟨h.row.wide h1 h2⟩
theorem StrsIn.at_ (h : StrsIn lo hi w A n c l) : StrsAt w A n l := StrsAt.of_row h.row
theorem StrsIn.of_own (h : w.ownsRow lo 9 1 (.slice A n c) n (l.map Value.string)) : StrsIn lo w.heap.size w A n c l := ⟨RowIn.of_own h⟩
theorem StrsIn.nil : StrsIn lo hi w none 0 0 [] := ⟨RowIn.nil⟩
end
/-- the answer is texts in memory of the call's own -/
def StrsR (l : List ByteArray) (w : World) (e : Ending) (w' : World) : Prop :=
  ∃ A n c, e = .returned (.slice A n c) ∧ StrsIn w.heap.size w'.heap.size w' A n c l ∧ Below w.heap.size w w'
theorem strs_sz (A : Option Addr) (n c : Nat) (l : List ByteArray) (left : Int) (w : World) (h : StrsOk w A n l) (hl0 : 0 ≤ left) (hl1 : left ≤ 4611686018427387904) :
    Calls Tryz.prog 78 #[.slice A n c, .int .i64 left] w fun e w' => e = .returned (.int .i64 (szR left (strsSz l))) ∧ Below w.heap.size w w' :=
  (szStrs_any A n c l left w h.at_ h.bn hl0 hl1 h.bs).mono fun e w' ⟨h1, h2⟩ => ⟨h1, by subst h2; exact Below.refl _ _⟩
theorem strs_n {w : World} {A : Option Addr} {n : Nat} {l : List ByteArray} {m : Nat} (h : StrsAt w A n l) (hs : strsSz l ≤ m) : n ≤ m := by
  have := h.1; unfold strsSz at hs; omega
theorem strs_to (A : Option Addr) (n c : Nat) (l : List ByteArray) (w : World) (h : StrsAt w A n l) (hs : strsSz l ≤ 1048576) :
    Calls Tryz.prog 80 #[.slice A n c] w fun e w' => ∃ A' n' c', e = .returned (.slice A' n' c') ∧ StrsIn w.heap.size w'.heap.size w' A' n' c' l ∧ Below w.heap.size w w' :=
  (toStrs_row A n c l w h (by have := strs_n h hs; omega)).mono fun e w' ⟨g, he, hr, hb⟩ => ⟨_, _, _, he, ⟨hr⟩, hb⟩
theorem strs_eq (A : Option Addr) (n c : Nat) (A' : Option Addr) (n' c' : Nat) (l : List ByteArray) (w : World) (h : StrsAt w A n l) (h' : StrsAt w A' n' l) (hs : strsSz l ≤ 16777216) :
    Calls Tryz.prog 84 #[.slice A n c, .slice A' n' c'] w fun e w' => e = .returned (.bool true) ∧ Below w.heap.size w w' :=
  (eqStrs_any A A' n c n' c' l l w h h' (by have := strs_n h hs; omega) (by have := strs_n h' hs; omega)).mono fun e w' ⟨h1, h2⟩ => ⟨by rw [h1]; simp, h2⟩
def strsMk (k : Int) (l : List ByteArray) : List ByteArray := marks k l.length
def strsCnt (l : List ByteArray) : Nat := l.length
theorem strs_cnt (l : List ByteArray) : strsCnt l ≤ strsSz l := by unfold strsCnt strsSz; omega
theorem strsSz_cons (x : ByteArray) (l : List ByteArray) : strsSz (x :: l) = 1 + x.size + strsSz l := by simp [strsSz]; omega
theorem strsSz_filter (p : ByteArray → Bool) (l : List ByteArray) : strsSz (l.filter p) ≤ strsSz l := by
  induction l with
  | nil => simp
  | cons x l ih =>
    rw [List.filter_cons]
    split
    · rw [strsSz_cons, strsSz_cons]; omega
    · rw [strsSz_cons]; omega
theorem strs_mark (A : Option Addr) (n c : Nat) (l : List ByteArray) (k : Int) (lo hi : Nat) (w : World) (h : StrsIn lo hi w A n c l) (hs : strsSz l ≤ 16777216) (hk0 : 0 < k) (hk1 : k ≤ 576460752303423488) :
    Calls Tryz.prog 42 #[.slice A n c, .int .i64 k] w fun e w' => e = .returned (.int .i64 (k + (strsCnt l : Nat))) ∧ StrsIn lo hi w' A n c (strsMk k l) ∧ Ch (Iv lo hi) w w' :=
  (markStrs_row A n c _ k lo hi _ w h.row (strs_n h.at_ hs) hk0 hk1).mono fun e w' ⟨h1, h2, h3⟩ =>
    ⟨by rw [h1]; unfold strsCnt; rw [← h.at_.1], ⟨by unfold strsMk; rw [← h.at_.1]; exact h2⟩, h3.mono fun g hg => (h.row.blk hg).1⟩
theorem strs_held (A : Option Addr) (n c : Nat) (l : List ByteArray) (k : Int) (w : World) (h : StrsAt w A n (strsMk k l)) (hs : strsSz l ≤ 16777216) (hk0 : 0 < k) (hk1 : k ≤ 576460752303423488) :
    Calls Tryz.prog 181 #[.slice A n c, .int .i64 k] w fun e w' => e = .returned (.int .i64 (k + (strsCnt l : Nat))) ∧ Below w.heap.size w w' := by
  have hl : n = l.length := by have := h.1; unfold strsMk at this; rwa [marks_len] at this
  subst hl
  exact heldStrs_row A _ c k w h (by unfold strsSz at hs; omega) hk0 hk1
end Go.Proofs.YtdphdnllhmnelaaGreat
/- Contract of copyTexts. -/
namespace Go.Proofs.YtdphdnllhmnelaaGreat
open Go.RowKit
theorem strsT_one (l : List ByteArray) : ∀ u ∈ l.map Value.string, u.oneCell' = true := by
  intro u hu; obtain ⟨x, _, rfl⟩ := List.mem_map.1 hu; rfl
theorem StrsIn.nilcap {lo hi n c : Nat} {w : World} {A : Option Addr} {l : List ByteArray} (h : StrsIn lo hi w A n c l) : A = none → c = 0 := fun e => by
  subst e
  rcases own_form h.row.own with ⟨_, _, hc, _⟩ | ⟨g, hg, _⟩
  · exact hc
  · cases hg
theorem copyTextsT (A : Option Addr) (n c : Nat) (l : List ByteArray) (w : World) (h : StrsAt w A n l) (hc : A = none → c = 0) (hn : n ≤ 16777216) :
    Calls Tryz.prog 199 #[.slice A n c] w fun e w' => ∃ A' c', e = .returned (.slice A' n c') ∧ StrsIn w.heap.size w'.heap.size w' A' n c' l ∧ Below w.heap.size w w' := by
  have hcl := h.cells
  have hown := World.ownsRow_nil w w.heap.size 9 1
  have hz := Nat.le_refl w.heap.size
  go_enter Tryz.func199, Tryz.ntmps199
  go_wp2_with (at_builtin; refine wpList_app (P := Tryz.prog) w rfl (.const (.slice none 0 0)) (.tmp 3) 46 rfl w.heap.size 9 _ 1 16 Tryz.underlying46 infoString rfl (by omega) (.slice none 0 0) 0 [] rfl hown A n c (l.map Value.string) rfl hcl (strsT_one _) hc (by unfold maxLen; omega) (by omega) hz ?_; intro A' c' w1 hown1 hg1 hb1 _)
  go_returns
  simp only [Nat.zero_add, List.nil_append] at hown1 ⊢
  exact ⟨A', c', rfl, ⟨RowIn.of_own hown1⟩, hb1⟩
end Go.Proofs.YtdphdnllhmnelaaGreat
/- Contracts of sized and l4Piece; sizes of texts put together. -/
namespace Go.Proofs.YtdphdnllhmnelaaGreat
open Go.RowKit

def joinTo (l : List ByteArray) : Nat → ByteArray
  | 0 => ByteArray.empty
  | k + 1 => joinTo l k ++ sAt l k
def joinS (l : List ByteArray) : ByteArray := joinTo l l.length
theorem joinTo_size (l : List ByteArray) : ∀ k, k ≤ l.length → (joinTo l k).size ≤ sumTo ByteArray.size l k
  | 0, _ => by simp [joinTo]
  | k + 1, h => by
    have ih := joinTo_size l k (by omega)
    have h1 := sumTo_succ ByteArray.size l k h
    have h2 : sAt l k = l[k] := by simp [sAt, show k < l.length from h]
    unfold joinTo
    rw [ByteArray.size_append, h2]
    omega
theorem joinTo_le {l : List ByteArray} {k m : Nat} (hk : k ≤ l.length) (hs : strsSz l ≤ m) : (joinTo l k).size ≤ m := by
  have := joinTo_size l k hk
  have := sumTo_le ByteArray.size l k
  unfold strsSz at hs; omega
theorem strs_el {l : List ByteArray} {m : Nat} (hs : strsSz l ≤ m) (i : Nat) : (sAt l i).size ≤ m := by
  rcases Nat.lt_or_ge i l.length with h | h
  · have e : sAt l i = l[i] := by simp [sAt, h]
    rw [e]
    have h1 := sumTo_succ ByteArray.size l i h
    have h2 := sumTo_le ByteArray.size l (i + 1)
    unfold strsSz at hs; omega
  · simp [sAt, h]
theorem varL_len (n : Nat) : (varL n).length ≤ n + 1 := by
  induction n using Nat.strongRecOn with
  | _ n ih =>
    by_cases h : n < 128
    · rw [varL_small h]; simp
    · rw [varL_big h]
      have := ih (n / 128) (by omega)
      simp; omega
theorem varS_size (n : Nat) : (varS n).size ≤ n + 1 := varL_len n

theorem sized_impl (s : ByteArray) (w : World) (hs : s.size ≤ 16777216) :
    Calls Tryz.prog 51 #[.string s] w fun e w' => e = .returned (.string (varS s.size ++ s)) ∧ Below w.heap.size w w' := by
  have hv := varS_size s.size
  go_enter Tryz.func51, Tryz.ntmps51
  go_wp2_with fail
  refine (var_impl _ _ (by omega)).mono ?_
  rintro e w1 ⟨rfl, hb⟩
  go_wp2
  go_returns
  exact ⟨rfl, hb⟩
theorem l4Piece_spec (s : ByteArray) (w : World) (hs : s.size ≤ 16777216) :
    Calls Tryz.prog 65 #[.string s] w fun e w' => e = .returned (.string (varS s.size ++ s)) ∧ Below w.heap.size w w' := by
  have hv := varS_size s.size
  go_enter Tryz.func65, Tryz.ntmps65
  go_wp2_with fail
  refine (var_spec _ _ (by omega)).mono ?_
  rintro e w1 ⟨rfl, hb⟩
  go_wp2
  go_returns
  exact ⟨rfl, hb⟩
end Go.Proofs.YtdphdnllhmnelaaGreat
/- Plain laws of reading: a text that is put together of pieces is cut again; what the reader's steps give on it. -/
namespace Go.Proofs.YtdphdnllhmnelaaGreat

theorem ext_left (a b : ByteArray) : (a ++ b).extract 0 a.size = a := by
  apply ByteArray.ext
  rw [ByteArray.data_extract, ByteArray.data_append]
  show (a.data ++ b.data).extract 0 a.data.size = a.data
  simp
theorem ext_right (a b : ByteArray) : (a ++ b).extract a.size (a ++ b).size = b := by
  rw [show (a ++ b).size = a.size + b.size from ByteArray.size_append, ByteArray.extract_append_eq_right rfl (by omega)]
theorem bAt_left {a b : ByteArray} {i : Nat} (h : i < a.size) : bAt (a ++ b) i = bAt a i := by
  unfold bAt
  rw [dif_pos (by rw [ByteArray.size_append]; omega), dif_pos h, ByteArray.getElem_append_left h]
theorem varS_sz (n : Nat) : (varS n).size = (varL n).length := by show (varL n).toArray.size = _; simp
theorem begins_var (n : Nat) (t : ByteArray) : Begins (varS n ++ t) (varL n) := by
  refine ⟨by rw [ByteArray.size_append, varS_sz]; omega, fun i hi => ?_⟩
  rw [bAt_left (by rw [varS_sz]; exact hi)]
  unfold bAt
  rw [dif_pos (by rw [varS_sz]; exact hi)]
  rfl
theorem rvF_var {n : Nat} (hn : n ≤ 562949953421311) (t : ByteArray) : rvF (varS n ++ t) = (n, (varS n).size) := by
  rw [rvF_yes hn (begins_var n t), varS_sz]
theorem varS_pos (n : Nat) : 0 < (varS n).size := by rw [varS_sz]; exact List.length_pos_iff.2 (varL_ne n)

/-- texts, one behind the other -/
def chL : List ByteArray → ByteArray
  | [] => .empty
  | c :: cs => c ++ chL cs
theorem chL_app (a b : List ByteArray) : chL (a ++ b) = chL a ++ chL b := by
  induction a with
  | nil => simp [chL]
  | cons x a ih => simp only [List.cons_append, chL, ih, ByteArray.append_assoc]
theorem joinTo_chL (l : List ByteArray) : ∀ k, k ≤ l.length → joinTo l k = chL (l.take k)
  | 0, _ => by simp [joinTo, chL]
  | k + 1, h => by
    have e : sAt l k = l[k]'(by omega) := by simp [sAt, show k < l.length by omega]
    rw [List.take_succ_eq_append_getElem (by omega), chL_app, ← joinTo_chL l k (by omega), joinTo, e]
    simp [chL]
theorem joinS_chL (l : List ByteArray) : joinS l = chL l := by unfold joinS; rw [joinTo_chL l _ (Nat.le_refl _), List.take_length]
theorem chL_drop {l : List ByteArray} {k : Nat} (h : k < l.length) : chL (l.drop k) = sAt l k ++ chL (l.drop (k + 1)) := by
  rw [show sAt l k = l[k] by simp [sAt, h], List.drop_eq_getElem_cons h]
  rfl

theorem numF_var {n : Nat} (hn : n ≤ 562949953421311) (t : ByteArray) : numF (varS n ++ t, false) = (n, (t, false)) := by
  have hp := varS_pos n
  have h : numF (varS n ++ t, false) = if false = true ∨ (rvF (varS n ++ t)).2 = 0 then (0, (varS n ++ t, true)) else ((rvF (varS n ++ t)).1, ((varS n ++ t).extract (rvF (varS n ++ t)).2 (varS n ++ t).size, false)) := rfl
  rw [h, rvF_var hn t, if_neg (fun h => h.elim (fun h => by cases h) (fun h => by replace h : (varS n).size = 0 := h; omega)), ext_right]
theorem cutF_app (a t : ByteArray) {n : Nat} (h : a.size = n) : cutF (a ++ t, false) n = (a, (t, false)) := by
  subst h
  have h : cutF (a ++ t, false) a.size = if false = true ∨ ¬ a.size ≤ (a ++ t).size then (.empty, (a ++ t, true)) else ((a ++ t).extract 0 a.size, ((a ++ t).extract a.size (a ++ t).size, false)) := rfl
  rw [h, if_neg (by rw [ByteArray.size_append]; simp), ext_left, ext_right]
theorem textF_app {p : ByteArray} (hp : p.size ≤ 562949953421311) (t : ByteArray) : textF (varS p.size ++ (p ++ t), false) = (p, (t, false)) := by
  unfold textF; rw [numF_var hp]; exact cutF_app p t rfl
theorem manyF_var {n most : Nat} (hn : n ≤ most) (hm : most ≤ 562949953421311) (t : ByteArray) : manyF (varS n ++ t, false) most = (n, (t, false)) := by
  unfold manyF; rw [numF_var (by omega), if_neg (by simp; omega)]
theorem cutF_cost (x : Sc) (n : Nat) : (cutF x n).1.size + (cutF x n).2.1.size ≤ x.1.size := by
  unfold cutF
  split
  · simp
  · show (x.1.extract 0 n).size + (x.1.extract n x.1.size).size ≤ _
    rw [ByteArray.size_extract, ByteArray.size_extract]; omega
theorem textF_cost (x : Sc) : (textF x).1.size + (textF x).2.1.size ≤ x.1.size := by
  unfold textF
  have h1 := cutF_cost (numF x).2 (numF x).1
  have h2 := (numF_le x).2
  omega
theorem manyF_le (x : Sc) (most : Nat) : (manyF x most).1 ≤ most ∧ (manyF x most).2.1.size ≤ x.1.size := by
  have h2 := (numF_le x).2
  unfold manyF
  split
  · exact ⟨Nat.zero_le _, h2⟩
  · exact ⟨by simp only; omega, h2⟩
theorem strsSz_snoc (l : List ByteArray) (c : ByteArray) : strsSz (l ++ [c]) = strsSz l + 1 + c.size := by
  unfold strsSz; simp; omega
theorem chL_size (l : List ByteArray) : (chL l).size = (l.map ByteArray.size).sum := by
  induction l with
  | nil => rfl
  | cons c l ih => simp only [chL, ByteArray.size_append, List.map_cons, List.sum_cons, ih]
end Go.Proofs.YtdphdnllhmnelaaGreat
