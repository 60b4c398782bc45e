/- Contracts of the laws' helpers on lists of strings of the call's own: copy, marks. -/
import Derived.Test.YtmichbgiaoopgaaRow
import Derived.Test.YtmichbgiaoopgaaLawStrs
import Derived.Laws.BytesArg
import Derived.Laws.IdiomStrings
import Derived.Deep.RegionHeld3
namespace Go.Proofs.Ytmichbgiaoopgaa
open Go.RowKit

theorem toStrs_row (A : Option Addr) (n c : Nat) (l : List ByteArray) (w : World) (h : StrsAt w A n l) (hn : n ≤ 16777216) :
    Calls Try.prog 77 #[.slice A n c] w fun e w' => ∃ g, e = .returned (.slice (some ⟨g, 0, none⟩) n n) ∧ RowIn 9 1 w.heap.size w'.heap.size w' (some ⟨g, 0, none⟩) n n (l.map Value.string) ∧ Below w.heap.size w w' :=
  (toStrs_any A n c l w h hn).mono fun e w' ⟨g, he, ho, hb⟩ => ⟨g, he, RowIn.of_own ho, hb⟩

/-- the digits of a mark -/
def mtd (k : Nat) : List UInt8 := if h : k = 0 then [] else mtd (k / 10) ++ [48 + UInt8.ofNat (k % 10)]
termination_by k
decreasing_by omega
theorem mtd_zero : mtd 0 = [] := by rw [mtd]; simp
theorem mtd_pos {k : Nat} (h : 0 < k) : mtd k = mtd (k / 10) ++ [48 + UInt8.ofNat (k % 10)] := by
  conv => lhs; rw [mtd]
  rw [dif_neg (by omega)]
theorem mtd_len (k : Nat) : (mtd k).length ≤ k := by
  induction k using Nat.strongRecOn with
  | _ k ih =>
    rcases Nat.eq_zero_or_pos k with rfl | h
    · rw [mtd_zero]; simp
    · rw [mtd_pos h]
      have := ih (k / 10) (by omega)
      simp; omega
/-- a mark -/
def mtx (k : Int) : ByteArray := ⟨(109 :: mtd k.toNat).toArray⟩

theorem infoByteM : (Try.prog.info? 5).map (fun i => (i.zero, i.size, i.bytes)) = some (some (.int .u8 0), 1, 1) := by kernel_rfl
theorem run_byte_str (w : World) (b : Nat) (hb : b < 256) : (convert 49 9 (.slice (some ⟨w.heap.size, 0, none⟩) 1 1)).run Try.prog (w.alloc (.cells #[.int .u8 (b : Int)] 5)) = .ok (.string ⟨#[UInt8.ofNat b]⟩) (w.alloc (.cells #[.int .u8 (b : Int)] 5)) := by
  have h := run_convert_bytes_back (P := Try.prog) (w.alloc (.cells #[.int .u8 (b : Int)] 5)) 49 9 5 ⟨w.heap.size, 0, none⟩ 1 [UInt8.ofNat b] Try.underlying49 Try.underlying5 Try.underlying9 (by
    intro j hj
    have hj0 : j = 0 := by simpa using hj
    subst hj0
    rw [Addr.add_zero', World.cell?_alloc_new]
    simp only [List.getElem_cons_zero]
    have : ((UInt8.ofNat b).toNat : Int) = b := by simp; omega
    rw [this]
    rfl)
  simpa using h
theorem str_app (a b : List UInt8) : (⟨a.toArray⟩ : ByteArray) ++ ⟨b.toArray⟩ = ⟨(a ++ b).toArray⟩ := by
  apply str_ext
  simp [Lib.toList_data, ByteArray.data_append]

set_option maxHeartbeats 400000 in
theorem markText_any (k0 : Int) (w : World) (h0 : 0 < k0) (h1 : k0 ≤ 1152921504606846976) :
    Calls Try.prog 70 #[.int .i64 k0] w fun e w' => e = .returned (.string (mtx k0)) ∧ Below w.heap.size w w' := by
  obtain ⟨m, rfl⟩ := Int.eq_ofNat_of_zero_le (show 0 ≤ k0 by omega)
  go_enter Try.func70, Try.ntmps70
  go_wp2
  go_loopw [0, 3] (fun k o wr => ∃ (j : Nat) (t : List UInt8), j ≤ m ∧ k = .int .i64 j ∧ o = .string ⟨t.toArray⟩ ∧ mtd m = mtd j ++ t ∧ Below w.heap.size w wr) (fun k _ _ => (intOf k).toNat)
  case atStart => exact ⟨m, [], Nat.le_refl _, rfl, rfl, (List.append_nil _).symm, Below.refl _ _⟩
  case round =>
    obtain ⟨j, t, hj, rfl, rfl, ht, hb⟩ := hrel
    have HT := Lib.hid ht; clear ht
    have hl : t.length ≤ m := by have q1 := congrArg List.length HT.out; rw [List.length_append] at q1; have q2 := mtd_len m; omega
    have hls : (⟨t.toArray⟩ : ByteArray).size ≤ m := by show t.toArray.size ≤ m; rw [List.size_toArray]; exact hl
    have hbz := hb.size
    by_cases hpos : 0 < j
    · have HP := Lib.hid (mtd_pos hpos)
      have hbs := run_byte_str wr (48 + j % 10) (by omega)
      rw [show ((48 + j % 10 : Nat) : Int) = 48 + (j : Int) % 10 by simp] at hbs
      go_wp2
      exact ⟨⟨j / 10, (48 + UInt8.ofNat (j % 10)) :: t, by omega, by go_num, by rw [show (#[48 + UInt8.ofNat (j % 10)] : Array UInt8) = [48 + UInt8.ofNat (j % 10)].toArray from rfl, str_app]; rfl, by rw [HT.out, HP.out]; simp, hb.alloc hb.size _⟩, by simp [intOf]; omega⟩
    · go_wp2
      go_returns
      obtain rfl : j = 0 := by omega
      refine ⟨?_, hb⟩
      have e := HT.out
      rw [mtd_zero, List.nil_append] at e
      rw [str_app]
      unfold mtx
      simp [e]

/-- marks from k0 on -/
def mkT (k0 : Int) (j : Nat) : ByteArray := mtx (k0 + j)
def marks (k0 : Int) (n : Nat) : List ByteArray := (List.range n).map (mkT k0)
theorem marks_len (k0 : Int) (n : Nat) : (marks k0 n).length = n := by simp [marks]
theorem sAt_marks {k0 : Int} {n j : Nat} (h : j < n) : sAt (marks k0 n) j = mkT k0 j := by simp [sAt, marks, h]
theorem marks_str (k0 : Int) (n : Nat) : (marks k0 n).map Value.string = (List.range n).map (fun j => Value.string (mkT k0 j)) := by simp [marks]

theorem markStrs_row (A : Option Addr) (n c : Nat) (xs : List Value) (k0 : Int) (lo hi e : Nat) (w : World) (h : RowIn e 1 lo hi w A n c xs) (hn : n ≤ 16777216) (hk0 : 0 < k0) (hk1 : k0 ≤ 576460752303423488) :
    Calls Try.prog 31 #[.slice A n c, .int .i64 k0] w fun e' w' => e' = .returned (.int .i64 (k0 + n)) ∧ RowIn e 1 lo hi w' A n c ((marks k0 n).map Value.string) ∧ Ch (BlkOf A) w w' := by
  go_enter Try.func31, Try.ntmps31
  go_wp2
  go_loopw [1, 5] (fun u i wr => ∃ (k : Nat) (xs : List Value), k ≤ n ∧ i = .int .i64 k ∧ u = .int .i64 (k0 + k) ∧ RowIn e 1 lo hi wr A n c xs ∧ (∀ j, j < k → xs[j]? = some (.string (mkT k0 j))) ∧ Ch (BlkOf A) w wr) (fun _ i _ => n - (intOf i).toNat)
  case atStart => exact ⟨0, xs, Nat.zero_le _, rfl, by simp, h, fun j hj => absurd hj (by omega), Ch.refl _⟩
  case round =>
    obtain ⟨k, xs, hk, rfl, rfl, hown, hx, hb⟩ := hrel
    have HX := Lib.hid hx; clear hx
    by_cases hlt : k < n
    · obtain ⟨g, rfl⟩ := hown.head (by omega)
      go_wp2_with fail
      refine (markText_any _ _ (by omega) (by omega)).mono ?_
      rintro e1 w1 ⟨rfl, hb1⟩
      have hown1 := hown.keep hb1
      obtain ⟨old, hold⟩ := own_cell hown1.own (j := k) (by omega)
      have hfr := hown1.own.frozenAt k
      go_wp2
      obtain ⟨hown2, _⟩ := hown1.store k (.string (mkT k0 k))
      exact ⟨⟨k + 1, _, by omega, by go_num, by congr 1; push_cast; omega, hown2, set_upto (n := n) (by simpa using hown.len) hlt HX.out rfl, (hb.trans (Ch.of_below hb1)).setCell (p := ⟨g, k, none⟩) rfl _⟩, by simp [intOf]; omega⟩
    · go_wp2
      go_returns
      have : k = n := by omega
      subst this
      refine ⟨rfl, ?_, hb⟩
      have e1 := list_of_get (n := k) (by simpa using hown.len) HX.out
      subst e1
      rw [marks_str]
      exact hown

theorem heldStrs_row (A : Option Addr) (n c : Nat) (k0 : Int) (w : World) (h : StrsAt w A n (marks k0 n)) (hn : n ≤ 16777216) (hk0 : 0 < k0) (hk1 : k0 ≤ 576460752303423488) :
    Calls Try.prog 32 #[.slice A n c, .int .i64 k0] w fun e' w' => e' = .returned (.int .i64 (k0 + n)) ∧ Below w.heap.size w w' := by
  go_enter Try.func32, Try.ntmps32
  go_wp2
  go_loopw [1, 5] (fun u i wr => ∃ (k : Nat), k ≤ n ∧ i = .int .i64 k ∧ u = .int .i64 (k0 + k) ∧ Below w.heap.size w wr) (fun _ i _ => n - (intOf i).toNat)
  case atStart => exact ⟨0, Nat.zero_le _, rfl, by simp, Below.refl _ _⟩
  case round =>
    obtain ⟨k, hk, rfl, rfl, hb⟩ := hrel
    by_cases hlt : k < n
    · obtain ⟨b, off, rfl, hbl, hc⟩ := h.at_ (by omega)
      have hck := (hb.cell (p := ⟨b, off + k, none⟩) hbl).trans (hc k hlt)
      clear hc
      rw [sAt_marks hlt] at hck
      unfold mkT at hck
      go_wp2
      go_region_held3 (fun w' => w'.cell? ⟨b, off + k, none⟩ = some (.string (mtx (k0 + k))) ∧ Below w.heap.size w w') (first | (have hh := ‹_ ∧ _›; exact ⟨keep_cell hbw hh.1, bthen hh.2 hbw⟩) | (have hh := ‹_ ∧ _›; exact ⟨hh.1, hh.2.drew⟩) | exact ⟨hck, hb.drew⟩ | exact ⟨hck, hb⟩) (first | (go_at_call 70; refine (markText_any _ _ (by omega) (by omega)).mono ?_; rintro e w1 ⟨rfl, hbw⟩))
      have hbr := (by have hh := ‹_ ∧ _›; exact hh.2 : Below w.heap.size w _)
      go_wp2
      exact ⟨⟨k + 1, by omega, by go_num, by congr 1; push_cast; omega, hbr⟩, by simp [intOf]; omega⟩
    · go_wp2
      go_returns
      have : k = n := by omega
      subst this
      exact ⟨rfl, hb⟩

/-! ### the law's helpers in one shape -/
/-- texts that came in: their bounds -/
structure StrsOk (w : World) (A : Option Addr) (n : Nat) (l : List ByteArray) : Prop where
  at_ : StrsAt w A n l
  bn : n ≤ 9223372036854775807
  bs : ∀ i, i < n → (sAt l i).size ≤ 9223372036854775807
theorem StrsOk.keep {w w' : World} {A : Option Addr} {n : Nat} {l : List ByteArray} (h : StrsOk w A n l) (hb : Below w.heap.size w w') : StrsOk w' A n l := ⟨h.at_.keep hb, h.bn, h.bs⟩
/-- texts of the call's own -/
structure StrsIn (lo hi : Nat) (w : World) (A : Option Addr) (n c : Nat) (l : List ByteArray) : Prop where
  row : RowIn 9 1 lo hi w A n c (l.map Value.string)
section
variable {lo hi lo' hi' n c : Nat} {w w' : World} {A : Option Addr} {l : List ByteArray}
theorem StrsIn.keep (h : StrsIn lo hi w A n c l) (hb : Below w.heap.size w w') : StrsIn lo hi w' A n c l := ⟨h.row.keep hb⟩
theorem StrsIn.ch {S : Nat → Prop} (h : StrsIn lo hi w A n c l) (hc : Ch S w w') (hS : ∀ k, Iv lo hi k → ¬ S k) : StrsIn lo hi w' A n c l := ⟨h.row.ch hc hS⟩
theorem StrsIn.wide (h : StrsIn lo hi w A n c l) (h1 : lo' ≤ lo) (h2 : hi ≤ hi') : StrsIn lo' hi' w A n c l := ⟨h.row.wide h1 h2⟩
theorem StrsIn.at_ (h : StrsIn lo hi w A n c l) : StrsAt w A n l := StrsAt.of_row h.row
theorem StrsIn.of_own (h : w.ownsRow lo 9 1 (.slice A n c) n (l.map Value.string)) : StrsIn lo w.heap.size w A n c l := ⟨RowIn.of_own h⟩
theorem StrsIn.nil : StrsIn lo hi w none 0 0 [] := ⟨RowIn.nil⟩
end
/-- the answer is texts in memory of the call's own -/
def StrsR (l : List ByteArray) (w : World) (e : Ending) (w' : World) : Prop :=
  ∃ A n c, e = .returned (.slice A n c) ∧ StrsIn w.heap.size w'.heap.size w' A n c l ∧ Below w.heap.size w w'
theorem strs_sz (A : Option Addr) (n c : Nat) (l : List ByteArray) (left : Int) (w : World) (h : StrsOk w A n l) (hl0 : 0 ≤ left) (hl1 : left ≤ 4611686018427387904) :
    Calls Try.prog 76 #[.slice A n c, .int .i64 left] w fun e w' => e = .returned (.int .i64 (szR left (strsSz l))) ∧ Below w.heap.size w w' :=
  (szStrs_any A n c l left w h.at_ h.bn hl0 hl1 h.bs).mono fun e w' ⟨h1, h2⟩ => ⟨h1, by subst h2; exact Below.refl _ _⟩
theorem strs_n {w : World} {A : Option Addr} {n : Nat} {l : List ByteArray} {m : Nat} (h : StrsAt w A n l) (hs : strsSz l ≤ m) : n ≤ m := by
  have := h.1; unfold strsSz at hs; omega
theorem strs_to (A : Option Addr) (n c : Nat) (l : List ByteArray) (w : World) (h : StrsAt w A n l) (hs : strsSz l ≤ 1048576) :
    Calls Try.prog 77 #[.slice A n c] w fun e w' => ∃ A' n' c', e = .returned (.slice A' n' c') ∧ StrsIn w.heap.size w'.heap.size w' A' n' c' l ∧ Below w.heap.size w w' :=
  (toStrs_row A n c l w h (by have := strs_n h hs; omega)).mono fun e w' ⟨g, he, hr, hb⟩ => ⟨_, _, _, he, ⟨hr⟩, hb⟩
theorem strs_eq (A : Option Addr) (n c : Nat) (A' : Option Addr) (n' c' : Nat) (l : List ByteArray) (w : World) (h : StrsAt w A n l) (h' : StrsAt w A' n' l) (hs : strsSz l ≤ 16777216) :
    Calls Try.prog 30 #[.slice A n c, .slice A' n' c'] w fun e w' => e = .returned (.bool true) ∧ Below w.heap.size w w' :=
  (eqStrs_any A A' n c n' c' l l w h h' (by have := strs_n h hs; omega) (by have := strs_n h' hs; omega)).mono fun e w' ⟨h1, h2⟩ => ⟨by rw [h1]; simp, h2⟩
def strsMk (k : Int) (l : List ByteArray) : List ByteArray := marks k l.length
def strsCnt (l : List ByteArray) : Nat := l.length
theorem strs_cnt (l : List ByteArray) : strsCnt l ≤ strsSz l := by unfold strsCnt strsSz; omega
theorem strsSz_cons (x : ByteArray) (l : List ByteArray) : strsSz (x :: l) = 1 + x.size + strsSz l := by simp [strsSz]; omega
theorem strsSz_filter (p : ByteArray → Bool) (l : List ByteArray) : strsSz (l.filter p) ≤ strsSz l := by
  induction l with
  | nil => simp
  | cons x l ih =>
    rw [List.filter_cons]
    split
    · rw [strsSz_cons, strsSz_cons]; omega
    · rw [strsSz_cons]; omega
theorem strs_mark (A : Option Addr) (n c : Nat) (l : List ByteArray) (k : Int) (lo hi : Nat) (w : World) (h : StrsIn lo hi w A n c l) (hs : strsSz l ≤ 16777216) (hk0 : 0 < k) (hk1 : k ≤ 576460752303423488) :
    Calls Try.prog 31 #[.slice A n c, .int .i64 k] w fun e w' => e = .returned (.int .i64 (k + (strsCnt l : Nat))) ∧ StrsIn lo hi w' A n c (strsMk k l) ∧ Ch (Iv lo hi) w w' :=
  (markStrs_row A n c _ k lo hi _ w h.row (strs_n h.at_ hs) hk0 hk1).mono fun e w' ⟨h1, h2, h3⟩ =>
    ⟨by rw [h1]; unfold strsCnt; rw [← h.at_.1], ⟨by unfold strsMk; rw [← h.at_.1]; exact h2⟩, h3.mono fun g hg => (h.row.blk hg).1⟩
theorem strs_held (A : Option Addr) (n c : Nat) (l : List ByteArray) (k : Int) (w : World) (h : StrsAt w A n (strsMk k l)) (hs : strsSz l ≤ 16777216) (hk0 : 0 < k) (hk1 : k ≤ 576460752303423488) :
    Calls Try.prog 32 #[.slice A n c, .int .i64 k] w fun e w' => e = .returned (.int .i64 (k + (strsCnt l : Nat))) ∧ Below w.heap.size w w' := by
  have hl : n = l.length := by have := h.1; unfold strsMk at this; rwa [marks_len] at this
  subst hl
  exact heldStrs_row A _ c k w h (by unfold strsSz at hs; omega) hk0 hk1
end Go.Proofs.Ytmichbgiaoopgaa
