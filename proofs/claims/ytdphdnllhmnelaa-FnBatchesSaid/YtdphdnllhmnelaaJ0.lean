/- Contracts and lemmas: Base, NumA, IsE, Fixed, ShaN, ShaT, Has. -/
import Derived.WalkKit
import Derived.WalkLawsBesides
import Derived.WalkSpells
import Derived.Lib.Hide
import Derived.Lib.Strings
import Derived.Handy
import Derived.Test.YtdphdnllhmnelaaRows
import Derived.Laws.BytesArg
import Derived.Laws.IdiomStrings
import Derived.Laws.BitsAllLaws
/- Plain lemmas and predicates on memory that all walks of this seat use. -/
namespace Go.Proofs.Ytdphdnllhmnelaa
open Go.RowKit

theorem ret_bool {a b : Bool} (h : a = b) : Ending.returned (.bool a) = .returned (.bool b) := by rw [h]
theorem beq_bool {a b : Bool} (h : a = true ↔ b = true) : a = b := Bool.eq_iff_iff.2 h

theorem bcell {W w1 : World} (hb : Below W.heap.size W w1) : (∀ b o, b < W.heap.size → w1.cell? ⟨b, o, none⟩ = W.cell? ⟨b, o, none⟩) ∧ (∀ b o, b < W.heap.size → w1.frozen? ⟨b, o, none⟩ = W.frozen? ⟨b, o, none⟩) :=
  ⟨fun b o h => hb.cell (p := ⟨b, o, none⟩) h, fun b o h => hb.frozen (p := ⟨b, o, none⟩) h⟩

theorem cell_lt {w : World} {b o : Nat} {v : Value} (h : w.cell? ⟨b, o, none⟩ = some v) : b < w.heap.size := World.block_lt_of_cell? w ⟨b, o, none⟩ h

theorem keep_cell {W w1 : World} (hb : Below W.heap.size W w1) {b o : Nat} {v : Value} (h : W.cell? ⟨b, o, none⟩ = some v) : w1.cell? ⟨b, o, none⟩ = some v := (hb.cell (p := ⟨b, o, none⟩) (cell_lt h)).trans h
theorem keep_alloc {W : World} {b o : Nat} {v : Value} (h : W.cell? ⟨b, o, none⟩ = some v) (x : Obj) : (W.alloc x).cell? ⟨b, o, none⟩ = some v := (World.cell?_alloc_lt _ _ _ (cell_lt h)).trans h
theorem bthen {w W w1 : World} (h : Below w.heap.size w W) (hb : Below W.heap.size W w1) : Below w.heap.size w w1 := h.trans (hb.mono h.size)

/-! ### bytes and strings -/
theorem str_ext {a b : ByteArray} (h : a.toList = b.toList) : a = b := by
  rw [Lib.toList_data, Lib.toList_data] at h
  have h1 : a.data = b.data := Array.toList_inj.1 h
  cases a; cases b; simp_all
theorem str_beq (a b : ByteArray) : (a.toList == b.toList) = decide (a = b) := by
  rw [Bool.eq_iff_iff]; simp
  exact ⟨str_ext, fun h => by rw [h]⟩
/-- byte i of a text, 0 behind its end -/
def bAt (s : ByteArray) (i : Nat) : Nat := if h : i < s.size then (s[i]'h).toNat else 0
theorem bAt_get {s : ByteArray} {i : Nat} (h : i < s.size) : (s[i]'h).toNat = bAt s i := by unfold bAt; rw [dif_pos h]
theorem bAt_lt (s : ByteArray) (i : Nat) : bAt s i < 256 := by
  unfold bAt; split
  · exact UInt8.toNat_lt _
  · omega

/-! ### all over a range -/
theorem all_yes {n : Nat} {p : Nat → Bool} (h : ∀ j, j < n → p j = true) : (List.range n).all p = true := by
  rw [List.all_eq_true]; intro x hx; exact h x (List.mem_range.1 hx)
theorem all_no {n k : Nat} {p : Nat → Bool} (hk : k < n) (h : p k = false) : (List.range n).all p = false := by
  rw [List.all_eq_false]; exact ⟨k, List.mem_range.2 hk, by simp [h]⟩
theorem upto_succ {p : Nat → Bool} {k : Nat} (h : ∀ j, j < k → p j = true) (hk : p k = true) : ∀ j, j < k + 1 → p j = true := by
  intro j hj
  rcases Nat.lt_or_ge j k with h' | h'
  · exact h j h'
  · obtain rfl : j = k := by omega
    exact hk

/-- string i of a list -/
def sAt (l : List ByteArray) (i : Nat) : ByteArray := l.getD i ByteArray.empty

/-! ### sums of sizes -/
/-- the sum of f over the first k of a list -/
def sumTo {α : Type} (f : α → Nat) (l : List α) (k : Nat) : Nat := ((l.take k).map f).sum
theorem sumTo_succ {α : Type} (f : α → Nat) (l : List α) (k : Nat) (h : k < l.length) : sumTo f l (k + 1) = sumTo f l k + f l[k] := by
  unfold sumTo; rw [List.take_succ_eq_append_getElem h, List.map_append, List.sum_append]; simp only [List.map_cons, List.map_nil, List.sum_cons, List.sum_nil, Nat.add_zero]
theorem sumTo_le {α : Type} (f : α → Nat) (l : List α) (k : Nat) : sumTo f l k ≤ (l.map f).sum := by
  have h : (l.map f).sum = ((l.take k).map f).sum + ((l.drop k).map f).sum := by
    rw [← List.sum_append, ← List.map_append, List.take_append_drop]
  unfold sumTo; omega
theorem sAt_get {l : List ByteArray} {k : Nat} (h : k < l.length) : sAt l k = l[k] := by simp [sAt, h]
/-- what a list of strings takes: its length and its letters -/
def strsSz (l : List ByteArray) : Nat := l.length + (l.map ByteArray.size).sum
/-- what a size law answers: what is left, or -1 -/
def szR (left : Int) (s : Nat) : Int := if (s : Int) ≤ left then left - s else -1
/-! ### slices that are read -/
/-- the slice value's address A, n elements: a row of strings -/
def StrsAt (w : World) (A : Option Addr) (n : Nat) (l : List ByteArray) : Prop :=
  n = l.length ∧ (0 < n → ∃ b off, A = some ⟨b, off, none⟩ ∧ b < w.heap.size ∧ ∀ i, i < n → w.cell? ⟨b, off + i, none⟩ = some (.string (sAt l i)))

theorem StrsAt.at_ {w : World} {A : Option Addr} {n : Nat} {l : List ByteArray} (h : StrsAt w A n l) (hn : 0 < n) :
    ∃ b off, A = some ⟨b, off, none⟩ ∧ b < w.heap.size ∧ ∀ i, i < n → w.cell? ⟨b, off + i, none⟩ = some (.string (sAt l i)) := h.2 hn
theorem StrsAt.keep {w w' : World} {A : Option Addr} {n : Nat} {l : List ByteArray} (h : StrsAt w A n l) (hb : Below w.heap.size w w') : StrsAt w' A n l := by
  refine ⟨h.1, fun hn => ?_⟩
  obtain ⟨b, off, rfl, hlt, hc⟩ := h.2 hn
  exact ⟨b, off, rfl, Nat.lt_of_lt_of_le hlt hb.size, fun i hi => (hb.cell hlt).trans (hc i hi)⟩
/-! ### rows of the call's own -/
theorem list_of_get {α : Type} {xs : List α} {n : Nat} {g : Nat → α} (hn : xs.length = n) (h : ∀ j, j < n → xs[j]? = some (g j)) : xs = (List.range n).map g := by
  apply List.ext_getElem?
  intro j
  rcases Nat.lt_or_ge j n with hj | hj
  · rw [h j hj]; simp [hj]
  · rw [List.getElem?_eq_none (by omega), List.getElem?_eq_none (by simp; omega)]
theorem set_upto {α : Type} {xs : List α} {k n : Nat} {g : Nat → α} (hn : xs.length = n) (hk : k < n) (h : ∀ j, j < k → xs[j]? = some (g j)) {u : α} (hu : u = g k) : ∀ j, j < k + 1 → (xs.set k u)[j]? = some (g j) := by
  intro j hj
  rw [List.getElem?_set]
  by_cases e : k = j
  · subst e; rw [if_pos rfl, if_pos (by omega), hu]
  · rw [if_neg e]; exact h j (by omega)
theorem own_cell {w : World} {base e sz g n cap : Nat} {xs : List Value} (h : w.ownsRow base e sz (.slice (some ⟨g, 0, none⟩) n cap) n xs) {j : Nat} (hj : j < n * sz) : ∃ v, w.cell? ⟨g, j, none⟩ = some v := by
  have hl := h.1
  exact ⟨xs[j]'(by omega), (h.cellAt j hj).trans (List.getElem?_eq_getElem (by omega))⟩
/-- an owned row of strings reads as that list -/
theorem StrsAt.of_own {w : World} {base e : Nat} {A : Option Addr} {n c : Nat} {l : List ByteArray} (h : w.ownsRow base e 1 (.slice A n c) n (l.map Value.string)) : StrsAt w A n l := by
  have hlen : l.length = n := by simpa using h.1
  refine ⟨hlen.symm, fun hn => ?_⟩
  rcases h.2 with ⟨_, h0⟩ | ⟨g, cap, cur, hv, hb, hg, _⟩
  · omega
  · injection hv with hA _ _
    subst hA
    have hcell := h.cells (g := g) rfl
    refine ⟨g, 0, rfl, (Array.getElem?_eq_some_iff.1 hg).1, fun i hi => ?_⟩
    have := hcell i (.string (sAt l i)) (by simp [sAt, hlen, hi])
    rw [Addr.add_lit] at this
    exact this

/-! ### quiet calls -/
theorem quiet_l {P : Program} {f : FuncId} {args : Array Value} {w : World} {n : Nat} {v : Value}
    (h : Calls P f args (w.drewN n) fun e w' => e = .returned v ∧ w.drewN n = w') : Calls P f args (w.drewN n) fun e w'' => e = .returned v ∧ ∃ m, w'' = w.drewN m :=
  h.mono fun _ _ ⟨he, hm⟩ => ⟨he, n, hm.symm⟩
theorem quiet_la {P : Program} {f : FuncId} {args : Array Value} {w : World} {a n : Nat} {v : Value}
    (h : Calls P f args (w.drewN (a + n)) fun e w' => e = .returned v ∧ w.drewN (a + n) = w') :
    Calls P f args (w.drewN (a + n)) fun e w'' => e = .returned v ∧ ∃ m, w'' = w.drewN (a + m) :=
  h.mono fun _ _ ⟨he, hm⟩ => ⟨he, n, hm.symm⟩
end Go.Proofs.Ytdphdnllhmnelaa
/- Contracts of small leaf functions: ranges and stamps. -/
namespace Go.Proofs.Ytdphdnllhmnelaa
open Go.RowKit

/-- x lies between lo and hi -/
def inB (x lo hi : Int) : Bool := decide (lo ≤ x) && decide (x ≤ hi)

theorem within_any (x lo hi : Int) (w : World) :
    Calls Try.prog 113 #[.int .i64 x, .int .i64 lo, .int .i64 hi] w fun e w' => e = .returned (.bool (inB x lo hi)) ∧ w = w' := by
  go_enter Try.func113, Try.ntmps113
  go_wp2
  all_goals go_ret
  all_goals exact ⟨ret_bool (beq_bool (by simp [inB]; try omega)), rfl⟩

theorem l1In_any (x lo hi : Int) (w : World) :
    Calls Try.prog 125 #[.int .i64 x, .int .i64 lo, .int .i64 hi] w fun e w' => e = .returned (.bool (inB x lo hi)) ∧ w = w' := by
  go_enter Try.func125, Try.ntmps125
  go_wp2
  all_goals go_ret
  all_goals exact ⟨ret_bool (beq_bool (by simp [inB]; try omega)), rfl⟩
end Go.Proofs.Ytdphdnllhmnelaa
/- An empty text. -/
namespace Go.Proofs.Ytdphdnllhmnelaa
theorem isEmpty_str (t : ByteArray) : t.toList.isEmpty = decide (t = ByteArray.empty) := by
  have h0 : ByteArray.empty.toList = [] := by rw [Lib.toList_data]; rfl
  by_cases h : t = ByteArray.empty
  · rw [decide_eq_true h, h, h0]; rfl
  · rw [decide_eq_false h]
    cases hl : t.toList with
    | nil => exact absurd (by apply str_ext; rw [hl, h0]) h
    | cons a b => rfl
end Go.Proofs.Ytdphdnllhmnelaa
/- Contracts of Fixed and ReadFixed: numbers as bytes, the greatest first. -/
namespace Go.Proofs.Ytdphdnllhmnelaa
open Go.RowKit

/-- n behind k bytes -/
def dv (n k : Nat) : Nat := n / 256 ^ k
/-- 256 to the k -/
def pw (k : Nat) : Nat := 256 ^ k
/-- the low k bytes of n, the greatest first -/
def fixL (n : Nat) : Nat → List UInt8
  | 0 => []
  | k + 1 => UInt8.ofNat (dv n k % 256) :: fixL n k
theorem fixL_length (n k : Nat) : (fixL n k).length = k := by induction k with
  | zero => rfl
  | succ k ih => simp [fixL, ih]
theorem fixL_get (n : Nat) : ∀ (k p : Nat) (h : p < k), (fixL n k)[p]'(by rw [fixL_length]; exact h) = UInt8.ofNat (dv n (k - 1 - p) % 256)
  | k + 1, 0, _ => by simp [fixL]
  | k + 1, p + 1, h => by
    simp only [fixL, List.getElem_cons_succ]
    rw [fixL_get n k p (by omega)]
    congr 3; omega
/-- may n be written in width bytes? -/
def fixOk (n width : Int) : Bool := inB width 1 7 && decide (0 ≤ n) && decide (n < (pw width.toNat : Int))
def fixS (n width : Int) : ByteArray := if fixOk n width = true then ⟨(fixL n.toNat width.toNat).toArray⟩ else ByteArray.empty

theorem infoByte : (Try.prog.info? 5).map (fun i => (i.zero, i.size, i.bytes)) = some (some (.int .u8 0), 1, 1) := by kernel_rfl
theorem byte_ofNat (n : Nat) (h : n < 256) : ((UInt8.ofNat n).toNat : Int) = n := by simp; omega

end Go.Proofs.Ytdphdnllhmnelaa
/- Numbers of 32 bits: what Go's operations on int and uint32 answer, in Nat. -/
namespace Go.Proofs.Ytdphdnllhmnelaa

theorem ofInt_nat (k x : Nat) : BitVec.ofInt k (x : Int) = BitVec.ofNat k x := BitVec.ofInt_natCast ..
theorem i64_nat {x : Nat} (h : x < 9223372036854775808) : IntKind.i64.wrap (x : Int) = x := by rw [IntKind.wrap_i64]; omega
theorem or_lt {x y n : Nat} (hx : x < 2 ^ n) (hy : y < 2 ^ n) : x ||| y < 2 ^ n := Nat.or_lt_two_pow hx hy
theorem xor_lt {x y n : Nat} (hx : x < 2 ^ n) (hy : y < 2 ^ n) : x ^^^ y < 2 ^ n := Nat.xor_lt_two_pow hx hy
theorem and_lt {x n : Nat} (y : Nat) (hx : x < 2 ^ n) : x &&& y < 2 ^ n := Nat.lt_of_le_of_lt Nat.and_le_left hx

section
variable {x y : Nat}
theorem or_i64 (hx : x < 9223372036854775808) (hy : y < 9223372036854775808) : bits .or .i64 (x : Int) (y : Int) = ((x ||| y : Nat) : Int) := by
  have h := or_lt (n := 63) hx hy
  show IntKind.i64.wrap (((BitVec.ofInt 64 (x : Int) ||| BitVec.ofInt 64 (y : Int)).toNat : Nat) : Int) = _
  rw [ofInt_nat, ofInt_nat, BitVec.toNat_or, BitVec.toNat_ofNat, BitVec.toNat_ofNat, Nat.mod_eq_of_lt (by omega), Nat.mod_eq_of_lt (by omega), i64_nat h]
theorem xor_i64 (hx : x < 9223372036854775808) (hy : y < 9223372036854775808) : bits .xor .i64 (x : Int) (y : Int) = ((x ^^^ y : Nat) : Int) := by
  have h := xor_lt (n := 63) hx hy
  show IntKind.i64.wrap (((BitVec.ofInt 64 (x : Int) ^^^ BitVec.ofInt 64 (y : Int)).toNat : Nat) : Int) = _
  rw [ofInt_nat, ofInt_nat, BitVec.toNat_xor, BitVec.toNat_ofNat, BitVec.toNat_ofNat, Nat.mod_eq_of_lt (by omega), Nat.mod_eq_of_lt (by omega), i64_nat h]
theorem and_i64 (hx : x < 9223372036854775808) (hy : y < 9223372036854775808) : bits .and .i64 (x : Int) (y : Int) = ((x &&& y : Nat) : Int) := by
  have h := and_lt (n := 63) y hx
  show IntKind.i64.wrap (((BitVec.ofInt 64 (x : Int) &&& BitVec.ofInt 64 (y : Int)).toNat : Nat) : Int) = _
  rw [ofInt_nat, ofInt_nat, BitVec.toNat_and, BitVec.toNat_ofNat, BitVec.toNat_ofNat, Nat.mod_eq_of_lt (by omega), Nat.mod_eq_of_lt (by omega), i64_nat h]
end
/-- x & (1<<32 - 1) -/
theorem and_mask (v : Int) : bits .and .i64 v 4294967295 = v % 4294967296 := by
  show IntKind.i64.wrap (((BitVec.ofInt 64 v &&& BitVec.ofInt 64 ((4294967295 : Nat) : Int)).toNat : Nat) : Int) = _
  rw [ofInt_nat, BitVec.toNat_and, BitVec.toNat_ofNat, show 4294967295 % 2 ^ 64 = 2 ^ 32 - 1 by decide, Nat.and_two_pow_sub_one_eq_mod, BitVec.toNat_ofInt, IntKind.wrap_i64]
  omega
theorem and_255 (v : Int) : bits .and .i64 v 255 = v % 256 := by
  show IntKind.i64.wrap (((BitVec.ofInt 64 v &&& BitVec.ofInt 64 ((255 : Nat) : Int)).toNat : Nat) : Int) = _
  rw [ofInt_nat, BitVec.toNat_and, BitVec.toNat_ofNat, show 255 % 2 ^ 64 = 2 ^ 8 - 1 by decide, Nat.and_two_pow_sub_one_eq_mod, BitVec.toNat_ofInt, IntKind.wrap_i64]
  omega

theorem not_i64 {x : Nat} (hx : x < 4294967296) : bits .xor .i64 (-1) (x : Int) = -(x : Int) - 1 := by
  show IntKind.i64.wrap (((BitVec.ofInt 64 (-1) ^^^ BitVec.ofInt 64 (x : Int)).toNat : Nat) : Int) = _
  rw [ofInt_nat, show BitVec.ofInt 64 (-1) = BitVec.allOnes 64 by decide, BitVec.allOnes_xor, BitVec.toNat_not, BitVec.toNat_ofNat, Nat.mod_eq_of_lt (by omega), IntKind.wrap_i64]
  omega
/-! ### the words of SHA-256 -/
/-- to the right by n, round -/
def rr (x n : Nat) : Nat := (x / 2 ^ n ||| x * 2 ^ (32 - n)) % 4294967296
theorem rr_lt (x n : Nat) : rr x n < 4294967296 := Nat.mod_lt _ (by decide)
def sg0 (x : Nat) : Nat := rr x 7 ^^^ rr x 18 ^^^ x / 8
def sg1 (x : Nat) : Nat := rr x 17 ^^^ rr x 19 ^^^ x / 1024
def bg1 (x : Nat) : Nat := rr x 6 ^^^ rr x 11 ^^^ rr x 25
def bg0 (x : Nat) : Nat := rr x 2 ^^^ rr x 13 ^^^ rr x 22
def chF (e f g : Nat) : Nat := (e &&& f) ^^^ ((4294967295 - e) &&& g)
def mjF (a b c : Nat) : Nat := (a &&& b) ^^^ (a &&& c) ^^^ (b &&& c)
theorem sg0_lt {x : Nat} (h : x < 4294967296) : sg0 x < 4294967296 := xor_lt (n := 32) (xor_lt (n := 32) (rr_lt _ _) (rr_lt _ _)) (show x / 8 < 2 ^ 32 by omega)
theorem sg1_lt {x : Nat} (h : x < 4294967296) : sg1 x < 4294967296 := xor_lt (n := 32) (xor_lt (n := 32) (rr_lt _ _) (rr_lt _ _)) (show x / 1024 < 2 ^ 32 by omega)
theorem bg0_lt (x : Nat) : bg0 x < 4294967296 := xor_lt (n := 32) (xor_lt (n := 32) (rr_lt _ _) (rr_lt _ _)) (rr_lt _ _)
theorem bg1_lt (x : Nat) : bg1 x < 4294967296 := xor_lt (n := 32) (xor_lt (n := 32) (rr_lt _ _) (rr_lt _ _)) (rr_lt _ _)
theorem chF_lt {e : Nat} (f g : Nat) (h : e < 4294967296) : chF e f g < 4294967296 := xor_lt (n := 32) (and_lt _ h) (and_lt _ (show 4294967295 - e < 2 ^ 32 by omega))
theorem mjF_lt {a b : Nat} (c : Nat) (ha : a < 4294967296) (hb : b < 4294967296) : mjF a b c < 4294967296 := xor_lt (n := 32) (xor_lt (n := 32) (and_lt _ ha) (and_lt _ ha)) (and_lt _ hb)
/-- the word of four bytes -/
def w4 (a b c d : Nat) : Nat := a * 16777216 ||| b * 65536 ||| c * 256 ||| d
theorem w4_lt {a b c d : Nat} (ha : a < 256) (hb : b < 256) (hc : c < 256) (hd : d < 256) : w4 a b c d < 4294967296 :=
  or_lt (n := 32) (or_lt (n := 32) (or_lt (n := 32) (show a * 16777216 < 2 ^ 32 by omega) (show b * 65536 < 2 ^ 32 by omega)) (show c * 256 < 2 ^ 32 by omega)) (show d < 2 ^ 32 by omega)
/-- the 64 words of a block whose first 16 are b -/
def wS (b : Nat → Nat) (t : Nat) : Nat := if t < 16 then b t else (wS b (t - 16) + sg0 (wS b (t - 15)) + wS b (t - 7) + sg1 (wS b (t - 2))) % 4294967296
termination_by t
decreasing_by all_goals omega
theorem wS_lo {b : Nat → Nat} {t : Nat} (h : t < 16) : wS b t = b t := by rw [wS, if_pos h]
theorem wS_hi {b : Nat → Nat} {t : Nat} (h : 16 ≤ t) : wS b t = (wS b (t - 16) + sg0 (wS b (t - 15)) + wS b (t - 7) + sg1 (wS b (t - 2))) % 4294967296 := by rw [wS, if_neg (by omega)]
theorem wS_lt {b : Nat → Nat} (hb : ∀ t, t < 16 → b t < 4294967296) (t : Nat) : wS b t < 4294967296 := by
  by_cases h : t < 16
  · rw [wS_lo h]; exact hb t h
  · rw [wS_hi (by omega)]; exact Nat.mod_lt _ (by decide)
/-- one round: the state behind it, place by place -/
def rT (k w : Nat) (v : Nat → Nat) : Nat := (v 7 + bg1 (v 4) + chF (v 4) (v 5) (v 6) + k + w) % 4294967296
def rU (v : Nat → Nat) : Nat := (bg0 (v 0) + mjF (v 0) (v 1) (v 2)) % 4294967296
def rnd (k w : Nat) (v : Nat → Nat) : Nat → Nat := fun j => if j = 0 then (rT k w v + rU v) % 4294967296 else if j = 4 then (v 3 + rT k w v) % 4294967296 else v (j - 1)
def rnds (K W : Nat → Nat) (h : Nat → Nat) : Nat → Nat → Nat
  | 0 => h
  | i + 1 => rnd (K i) (W i) (rnds K W h i)
theorem rnds_lt {K W h : Nat → Nat} (hh : ∀ j, j < 8 → h j < 4294967296) (i : Nat) : ∀ j, j < 8 → rnds K W h i j < 4294967296 := by
  induction i with
  | zero => exact hh
  | succ i ih =>
    intro j hj
    unfold rnds rnd
    split
    · exact Nat.mod_lt _ (by decide)
    · split
      · exact Nat.mod_lt _ (by decide)
      · exact ih (j - 1) (by omega)
def blk (K b h : Nat → Nat) : Nat → Nat := fun j => (h j + rnds K (wS b) h 64 j) % 4294967296
theorem blk_lt (K b h : Nat → Nat) (j : Nat) : blk K b h j < 4294967296 := Nat.mod_lt _ (by decide)
/-- the 64 keys, the first state -/
def kList : List Nat := [1116352408, 1899447441, 3049323471, 3921009573, 961987163, 1508970993, 2453635748, 2870763221, 3624381080, 310598401, 607225278, 1426881987, 1925078388, 2162078206, 2614888103, 3248222580, 3835390401, 4022224774, 264347078, 604807628, 770255983, 1249150122, 1555081692, 1996064986, 2554220882, 2821834349, 2952996808, 3210313671, 3336571891, 3584528711, 113926993, 338241895, 666307205, 773529912, 1294757372, 1396182291, 1695183700, 1986661051, 2177026350, 2456956037, 2730485921, 2820302411, 3259730800, 3345764771, 3516065817, 3600352804, 4094571909, 275423344, 430227734, 506948616, 659060556, 883997877, 958139571, 1322822218, 1537002063, 1747873779, 1955562222, 2024104815, 2227730452, 2361852424, 2428436474, 2756734187, 3204031479, 3329325298]
def kF (i : Nat) : Nat := kList.getD i 0
def hList : List Nat := [1779033703, 3144134277, 1013904242, 2773480762, 1359893119, 2600822924, 528734635, 1541459225]
def hF (i : Nat) : Nat := hList.getD i 0
theorem kF_lt (i : Nat) : kF i < 4294967296 := by
  have : ∀ x ∈ kList, x < 4294967296 := by decide
  unfold kF
  rw [List.getD_eq_getElem?_getD]
  cases h : kList[i]? with
  | none => decide
  | some x => exact this x (List.mem_of_getElem? h)
theorem hF_lt (i : Nat) : hF i < 4294967296 := by
  have : ∀ x ∈ hList, x < 4294967296 := by decide
  unfold hF
  rw [List.getD_eq_getElem?_getD]
  cases h : hList[i]? with
  | none => decide
  | some x => exact this x (List.mem_of_getElem? h)
/-- the words of a block's text -/
def bW (s : ByteArray) (t : Nat) : Nat := w4 (bAt s (4 * t)) (bAt s (4 * t + 1)) (bAt s (4 * t + 2)) (bAt s (4 * t + 3))
theorem w4_i64 {a b c d : Nat} (ha : a < 256) (hb : b < 256) (hc : c < 256) (hd : d < 256) :
    bits .or .i64 (bits .or .i64 (bits .or .i64 ((a : Int) * 16777216) ((b : Int) * 65536)) ((c : Int) * 256)) (d : Int) = ((w4 a b c d : Nat) : Int) := by
  have h1 := or_lt (n := 32) (show a * 16777216 < 2 ^ 32 by omega) (show b * 65536 < 2 ^ 32 by omega)
  have h2 := or_lt (n := 32) h1 (show c * 256 < 2 ^ 32 by omega)
  rw [show (a : Int) * 16777216 = ((a * 16777216 : Nat) : Int) by omega, show (b : Int) * 65536 = ((b * 65536 : Nat) : Int) by omega, show (c : Int) * 256 = ((c * 256 : Nat) : Int) by omega,
    or_i64 (by omega) (by omega), or_i64 (by omega) (by omega), or_i64 (by omega) (by omega)]
  rfl
theorem bW_lt (s : ByteArray) (t : Nat) : bW s t < 4294967296 := w4_lt (bAt_lt _ _) (bAt_lt _ _) (bAt_lt _ _) (bAt_lt _ _)
end Go.Proofs.Ytdphdnllhmnelaa
/- SHA-256 of a text as a function of Lean: the padded text, its blocks, the bytes that come out. -/
namespace Go.Proofs.Ytdphdnllhmnelaa

/-- how many bytes 0 lie behind the byte 128 (ahead of the eight of the length) -/
def zN (n : Nat) : Nat := (119 - n % 64) % 64
theorem zN_lt (n : Nat) : zN n < 64 := Nat.mod_lt _ (by decide)
theorem zN_mod (n : Nat) : (n + 1 + zN n) % 64 = 56 := by unfold zN; omega
theorem zN_least (n j : Nat) (h : j < zN n) : (n + 1 + j) % 64 ≠ 56 := by unfold zN at h; omega
def padL (n : Nat) : List UInt8 := 128 :: (List.replicate (zN n) 0 ++ fixL (8 * n) 8)
theorem padL_length (n : Nat) : (padL n).length = 9 + zN n := by simp [padL, fixL_length]; omega
def padT (s : ByteArray) : ByteArray := s ++ ⟨(padL s.size).toArray⟩
theorem padT_size (s : ByteArray) : (padT s).size = s.size + 9 + zN s.size := by
  unfold padT
  rw [ByteArray.size_append, show (ByteArray.mk (padL s.size).toArray).size = (padL s.size).toArray.size from rfl, List.size_toArray, padL_length]
  omega
def nB (n : Nat) : Nat := (n + 9 + zN n) / 64
theorem nB_mul (n : Nat) : 64 * nB n = n + 9 + zN n := by unfold nB zN; omega
theorem padT_size' (s : ByteArray) : (padT s).size = 64 * nB s.size := by rw [padT_size, nB_mul]
def blkAt (t : ByteArray) (i : Nat) : ByteArray := t.extract (64 * i) (64 * i + 64)
theorem blkAt_size {t : ByteArray} {i : Nat} (h : 64 * i + 64 ≤ t.size) : (blkAt t i).size = 64 := by unfold blkAt; rw [ByteArray.size_extract]; omega
/-- the state behind i blocks -/
def hS (t : ByteArray) : Nat → Nat → Nat
  | 0 => hF
  | i + 1 => blk kF (bW (blkAt t i)) (hS t i)
theorem hS_lt (t : ByteArray) (i j : Nat) : hS t i j < 4294967296 := by
  cases i with
  | zero => exact hF_lt j
  | succ i => exact blk_lt _ _ _ _
/-- the bytes of the first i words -/
def outL (h : Nat → Nat) : Nat → List UInt8
  | 0 => []
  | i + 1 => outL h i ++ fixL (h i) 4
theorem outL_length (h : Nat → Nat) (i : Nat) : (outL h i).length = 4 * i := by
  induction i with
  | zero => rfl
  | succ i ih => simp [outL, ih, fixL_length]; omega
def shaS (s : ByteArray) : ByteArray := ⟨(outL (hS (padT s) (nB s.size)) 8).toArray⟩
theorem shaS_size (s : ByteArray) : (shaS s).size = 32 := by
  show (outL (hS (padT s) (nB s.size)) 8).toArray.size = 32
  rw [List.size_toArray, outL_length]
def shortS (s : ByteArray) : ByteArray := (shaS s).extract 0 8
theorem shortS_size (s : ByteArray) : (shortS s).size = 8 := by unfold shortS; rw [ByteArray.size_extract, shaS_size]; rfl
end Go.Proofs.Ytdphdnllhmnelaa
/- Is a text in a list: the reference's l15In. -/
namespace Go.Proofs.Ytdphdnllhmnelaa
open Go.RowKit

/-- is a text among texts? -/
def hasS (l : List ByteArray) (x : ByteArray) : Bool := l.any (fun y => decide (y = x))
theorem hasS_yes {l : List ByteArray} {k : Nat} {x : ByteArray} (hk : k < l.length) (h : sAt l k = x) : hasS l x = true := by
  unfold hasS; rw [List.any_eq_true]; exact ⟨l[k], List.getElem_mem hk, by rw [← h, sAt_get hk]; simp⟩
theorem hasS_no {l : List ByteArray} {x : ByteArray} (h : ∀ j, j < l.length → sAt l j ≠ x) : hasS l x = false := by
  unfold hasS; rw [List.any_eq_false]
  intro y hy hx
  obtain ⟨i, hi, rfl⟩ := List.mem_iff_getElem.1 hy
  exact h i hi (by rw [sAt_get hi]; simpa using hx)

end Go.Proofs.Ytdphdnllhmnelaa
