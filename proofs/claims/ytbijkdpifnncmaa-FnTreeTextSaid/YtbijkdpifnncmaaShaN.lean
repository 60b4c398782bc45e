/- Numbers of 32 bits: what Go's operations on int and uint32 answer, in Nat. -/
import Derived.Test.YtbijkdpifnncmaaBase
namespace Go.Proofs.Ytbijkdpifnncmaa

theorem ofInt_nat (k x : Nat) : BitVec.ofInt k (x : Int) = BitVec.ofNat k x := BitVec.ofInt_natCast ..
theorem i64_nat {x : Nat} (h : x < 9223372036854775808) : IntKind.i64.wrap (x : Int) = x := by rw [IntKind.wrap_i64]; omega
theorem u32_nat (x : Nat) : IntKind.u32.wrap (x : Int) = ((x % 4294967296 : Nat) : Int) := by simp [IntKind.wrap, IntKind.bits, IntKind.signed]
theorem or_lt {x y n : Nat} (hx : x < 2 ^ n) (hy : y < 2 ^ n) : x ||| y < 2 ^ n := Nat.or_lt_two_pow hx hy
theorem xor_lt {x y n : Nat} (hx : x < 2 ^ n) (hy : y < 2 ^ n) : x ^^^ y < 2 ^ n := Nat.xor_lt_two_pow hx hy
theorem and_lt {x n : Nat} (y : Nat) (hx : x < 2 ^ n) : x &&& y < 2 ^ n := Nat.lt_of_le_of_lt Nat.and_le_left hx

section
variable {x y : Nat}
theorem or_i64 (hx : x < 9223372036854775808) (hy : y < 9223372036854775808) : bits .or .i64 (x : Int) (y : Int) = ((x ||| y : Nat) : Int) := by
  have h := or_lt (n := 63) hx hy
  show IntKind.i64.wrap (((BitVec.ofInt 64 (x : Int) ||| BitVec.ofInt 64 (y : Int)).toNat : Nat) : Int) = _
  rw [ofInt_nat, ofInt_nat, BitVec.toNat_or, BitVec.toNat_ofNat, BitVec.toNat_ofNat, Nat.mod_eq_of_lt (by omega), Nat.mod_eq_of_lt (by omega), i64_nat h]
theorem xor_i64 (hx : x < 9223372036854775808) (hy : y < 9223372036854775808) : bits .xor .i64 (x : Int) (y : Int) = ((x ^^^ y : Nat) : Int) := by
  have h := xor_lt (n := 63) hx hy
  show IntKind.i64.wrap (((BitVec.ofInt 64 (x : Int) ^^^ BitVec.ofInt 64 (y : Int)).toNat : Nat) : Int) = _
  rw [ofInt_nat, ofInt_nat, BitVec.toNat_xor, BitVec.toNat_ofNat, BitVec.toNat_ofNat, Nat.mod_eq_of_lt (by omega), Nat.mod_eq_of_lt (by omega), i64_nat h]
theorem and_i64 (hx : x < 9223372036854775808) (hy : y < 9223372036854775808) : bits .and .i64 (x : Int) (y : Int) = ((x &&& y : Nat) : Int) := by
  have h := and_lt (n := 63) y hx
  show IntKind.i64.wrap (((BitVec.ofInt 64 (x : Int) &&& BitVec.ofInt 64 (y : Int)).toNat : Nat) : Int) = _
  rw [ofInt_nat, ofInt_nat, BitVec.toNat_and, BitVec.toNat_ofNat, BitVec.toNat_ofNat, Nat.mod_eq_of_lt (by omega), Nat.mod_eq_of_lt (by omega), i64_nat h]
theorem or_u32 (hx : x < 4294967296) (hy : y < 4294967296) : bits .or .u32 (x : Int) (y : Int) = ((x ||| y : Nat) : Int) := by
  have h := or_lt (n := 32) hx hy
  show IntKind.u32.wrap (((BitVec.ofInt 32 (x : Int) ||| BitVec.ofInt 32 (y : Int)).toNat : Nat) : Int) = _
  rw [ofInt_nat, ofInt_nat, BitVec.toNat_or, BitVec.toNat_ofNat, BitVec.toNat_ofNat, Nat.mod_eq_of_lt (by omega), Nat.mod_eq_of_lt (by omega), u32_nat, Nat.mod_eq_of_lt h]
theorem xor_u32 (hx : x < 4294967296) (hy : y < 4294967296) : bits .xor .u32 (x : Int) (y : Int) = ((x ^^^ y : Nat) : Int) := by
  have h := xor_lt (n := 32) hx hy
  show IntKind.u32.wrap (((BitVec.ofInt 32 (x : Int) ^^^ BitVec.ofInt 32 (y : Int)).toNat : Nat) : Int) = _
  rw [ofInt_nat, ofInt_nat, BitVec.toNat_xor, BitVec.toNat_ofNat, BitVec.toNat_ofNat, Nat.mod_eq_of_lt (by omega), Nat.mod_eq_of_lt (by omega), u32_nat, Nat.mod_eq_of_lt h]
theorem and_u32 (hx : x < 4294967296) (hy : y < 4294967296) : bits .and .u32 (x : Int) (y : Int) = ((x &&& y : Nat) : Int) := by
  have h := and_lt (n := 32) y hx
  show IntKind.u32.wrap (((BitVec.ofInt 32 (x : Int) &&& BitVec.ofInt 32 (y : Int)).toNat : Nat) : Int) = _
  rw [ofInt_nat, ofInt_nat, BitVec.toNat_and, BitVec.toNat_ofNat, BitVec.toNat_ofNat, Nat.mod_eq_of_lt (by omega), Nat.mod_eq_of_lt (by omega), u32_nat, Nat.mod_eq_of_lt h]
end
/-- x & (1<<32 - 1) -/
theorem and_mask (v : Int) : bits .and .i64 v 4294967295 = v % 4294967296 := by
  show IntKind.i64.wrap (((BitVec.ofInt 64 v &&& BitVec.ofInt 64 ((4294967295 : Nat) : Int)).toNat : Nat) : Int) = _
  rw [ofInt_nat, BitVec.toNat_and, BitVec.toNat_ofNat, show 4294967295 % 2 ^ 64 = 2 ^ 32 - 1 by decide, Nat.and_two_pow_sub_one_eq_mod, BitVec.toNat_ofInt, IntKind.wrap_i64]
  omega
theorem and_255 (v : Int) : bits .and .i64 v 255 = v % 256 := by
  show IntKind.i64.wrap (((BitVec.ofInt 64 v &&& BitVec.ofInt 64 ((255 : Nat) : Int)).toNat : Nat) : Int) = _
  rw [ofInt_nat, BitVec.toNat_and, BitVec.toNat_ofNat, show 255 % 2 ^ 64 = 2 ^ 8 - 1 by decide, Nat.and_two_pow_sub_one_eq_mod, BitVec.toNat_ofInt, IntKind.wrap_i64]
  omega

theorem not_i64 {x : Nat} (hx : x < 4294967296) : bits .xor .i64 (-1) (x : Int) = -(x : Int) - 1 := by
  show IntKind.i64.wrap (((BitVec.ofInt 64 (-1) ^^^ BitVec.ofInt 64 (x : Int)).toNat : Nat) : Int) = _
  rw [ofInt_nat, show BitVec.ofInt 64 (-1) = BitVec.allOnes 64 by decide, BitVec.allOnes_xor, BitVec.toNat_not, BitVec.toNat_ofNat, Nat.mod_eq_of_lt (by omega), IntKind.wrap_i64]
  omega
theorem not_u32 {x : Nat} (hx : x < 4294967296) : bits .xor .u32 4294967295 (x : Int) = ((4294967295 - x : Nat) : Int) := by
  show IntKind.u32.wrap (((BitVec.ofInt 32 4294967295 ^^^ BitVec.ofInt 32 (x : Int)).toNat : Nat) : Int) = _
  rw [ofInt_nat, show BitVec.ofInt 32 4294967295 = BitVec.allOnes 32 by decide, BitVec.allOnes_xor, BitVec.toNat_not, BitVec.toNat_ofNat, Nat.mod_eq_of_lt (by omega), u32_nat, Nat.mod_eq_of_lt (by omega)]
theorem unary_i64 {P : Program} (x : Int) (w : World) : (Op.unary .xor (.int .i64 x)).run P w = .ok (.int .i64 (bits .xor .i64 (-1) x)) w := by rfl
theorem unary_u32 {P : Program} (x : Int) (w : World) : (Op.unary .xor (.int .u32 x)).run P w = .ok (.int .u32 (bits .xor .u32 4294967295 x)) w := by rfl

/-! ### the words of SHA-256 -/
/-- to the right by n, round -/
def rr (x n : Nat) : Nat := (x / 2 ^ n ||| x * 2 ^ (32 - n)) % 4294967296
theorem rr_lt (x n : Nat) : rr x n < 4294967296 := Nat.mod_lt _ (by decide)
/-- the same, as to the left by 32 - n within 32 bits -/
theorem rr_left {x n : Nat} (hx : x < 4294967296) : x * 2 ^ (32 - n) % 4294967296 ||| x / 2 ^ n = rr x n := by
  have h : x / 2 ^ n < 2 ^ 32 := Nat.lt_of_le_of_lt (Nat.div_le_self _ _) hx
  unfold rr
  rw [show (4294967296 : Nat) = 2 ^ 32 by decide, Nat.or_mod_two_pow, Nat.mod_eq_of_lt h, Nat.or_comm]
def sg0 (x : Nat) : Nat := rr x 7 ^^^ rr x 18 ^^^ x / 8
def sg1 (x : Nat) : Nat := rr x 17 ^^^ rr x 19 ^^^ x / 1024
def bg1 (x : Nat) : Nat := rr x 6 ^^^ rr x 11 ^^^ rr x 25
def bg0 (x : Nat) : Nat := rr x 2 ^^^ rr x 13 ^^^ rr x 22
def chF (e f g : Nat) : Nat := (e &&& f) ^^^ ((4294967295 - e) &&& g)
def mjF (a b c : Nat) : Nat := (a &&& b) ^^^ (a &&& c) ^^^ (b &&& c)
theorem sg0_lt {x : Nat} (h : x < 4294967296) : sg0 x < 4294967296 := xor_lt (n := 32) (xor_lt (n := 32) (rr_lt _ _) (rr_lt _ _)) (show x / 8 < 2 ^ 32 by omega)
theorem sg1_lt {x : Nat} (h : x < 4294967296) : sg1 x < 4294967296 := xor_lt (n := 32) (xor_lt (n := 32) (rr_lt _ _) (rr_lt _ _)) (show x / 1024 < 2 ^ 32 by omega)
theorem bg0_lt (x : Nat) : bg0 x < 4294967296 := xor_lt (n := 32) (xor_lt (n := 32) (rr_lt _ _) (rr_lt _ _)) (rr_lt _ _)
theorem bg1_lt (x : Nat) : bg1 x < 4294967296 := xor_lt (n := 32) (xor_lt (n := 32) (rr_lt _ _) (rr_lt _ _)) (rr_lt _ _)
theorem chF_lt {e : Nat} (f g : Nat) (h : e < 4294967296) : chF e f g < 4294967296 := xor_lt (n := 32) (and_lt _ h) (and_lt _ (show 4294967295 - e < 2 ^ 32 by omega))
theorem mjF_lt {a b : Nat} (c : Nat) (ha : a < 4294967296) (hb : b < 4294967296) : mjF a b c < 4294967296 := xor_lt (n := 32) (xor_lt (n := 32) (and_lt _ ha) (and_lt _ ha)) (and_lt _ hb)
/-- the word of four bytes -/
def w4 (a b c d : Nat) : Nat := a * 16777216 ||| b * 65536 ||| c * 256 ||| d
theorem w4_lt {a b c d : Nat} (ha : a < 256) (hb : b < 256) (hc : c < 256) (hd : d < 256) : w4 a b c d < 4294967296 :=
  or_lt (n := 32) (or_lt (n := 32) (or_lt (n := 32) (show a * 16777216 < 2 ^ 32 by omega) (show b * 65536 < 2 ^ 32 by omega)) (show c * 256 < 2 ^ 32 by omega)) (show d < 2 ^ 32 by omega)
/-- the 64 words of a block whose first 16 are b -/
def wS (b : Nat → Nat) (t : Nat) : Nat := if t < 16 then b t else (wS b (t - 16) + sg0 (wS b (t - 15)) + wS b (t - 7) + sg1 (wS b (t - 2))) % 4294967296
termination_by t
decreasing_by all_goals omega
theorem wS_lo {b : Nat → Nat} {t : Nat} (h : t < 16) : wS b t = b t := by rw [wS, if_pos h]
theorem wS_hi {b : Nat → Nat} {t : Nat} (h : 16 ≤ t) : wS b t = (wS b (t - 16) + sg0 (wS b (t - 15)) + wS b (t - 7) + sg1 (wS b (t - 2))) % 4294967296 := by rw [wS, if_neg (by omega)]
theorem wS_lt {b : Nat → Nat} (hb : ∀ t, t < 16 → b t < 4294967296) (t : Nat) : wS b t < 4294967296 := by
  by_cases h : t < 16
  · rw [wS_lo h]; exact hb t h
  · rw [wS_hi (by omega)]; exact Nat.mod_lt _ (by decide)
/-- one round: the state behind it, place by place -/
def rT (k w : Nat) (v : Nat → Nat) : Nat := (v 7 + bg1 (v 4) + chF (v 4) (v 5) (v 6) + k + w) % 4294967296
def rU (v : Nat → Nat) : Nat := (bg0 (v 0) + mjF (v 0) (v 1) (v 2)) % 4294967296
def rnd (k w : Nat) (v : Nat → Nat) : Nat → Nat := fun j => if j = 0 then (rT k w v + rU v) % 4294967296 else if j = 4 then (v 3 + rT k w v) % 4294967296 else v (j - 1)
def rnds (K W : Nat → Nat) (h : Nat → Nat) : Nat → Nat → Nat
  | 0 => h
  | i + 1 => rnd (K i) (W i) (rnds K W h i)
theorem rnds_lt {K W h : Nat → Nat} (hh : ∀ j, j < 8 → h j < 4294967296) (i : Nat) : ∀ j, j < 8 → rnds K W h i j < 4294967296 := by
  induction i with
  | zero => exact hh
  | succ i ih =>
    intro j hj
    unfold rnds rnd
    split
    · exact Nat.mod_lt _ (by decide)
    · split
      · exact Nat.mod_lt _ (by decide)
      · exact ih (j - 1) (by omega)
def blk (K b h : Nat → Nat) : Nat → Nat := fun j => (h j + rnds K (wS b) h 64 j) % 4294967296
theorem blk_lt (K b h : Nat → Nat) (j : Nat) : blk K b h j < 4294967296 := Nat.mod_lt _ (by decide)
/-- the 64 keys, the first state -/
def kList : List Nat := [1116352408, 1899447441, 3049323471, 3921009573, 961987163, 1508970993, 2453635748, 2870763221, 3624381080, 310598401, 607225278, 1426881987, 1925078388, 2162078206, 2614888103, 3248222580, 3835390401, 4022224774, 264347078, 604807628, 770255983, 1249150122, 1555081692, 1996064986, 2554220882, 2821834349, 2952996808, 3210313671, 3336571891, 3584528711, 113926993, 338241895, 666307205, 773529912, 1294757372, 1396182291, 1695183700, 1986661051, 2177026350, 2456956037, 2730485921, 2820302411, 3259730800, 3345764771, 3516065817, 3600352804, 4094571909, 275423344, 430227734, 506948616, 659060556, 883997877, 958139571, 1322822218, 1537002063, 1747873779, 1955562222, 2024104815, 2227730452, 2361852424, 2428436474, 2756734187, 3204031479, 3329325298]
def kF (i : Nat) : Nat := kList.getD i 0
def hList : List Nat := [1779033703, 3144134277, 1013904242, 2773480762, 1359893119, 2600822924, 528734635, 1541459225]
def hF (i : Nat) : Nat := hList.getD i 0
theorem kF_lt (i : Nat) : kF i < 4294967296 := by
  have : ∀ x ∈ kList, x < 4294967296 := by decide
  unfold kF
  rw [List.getD_eq_getElem?_getD]
  cases h : kList[i]? with
  | none => decide
  | some x => exact this x (List.mem_of_getElem? h)
theorem hF_lt (i : Nat) : hF i < 4294967296 := by
  have : ∀ x ∈ hList, x < 4294967296 := by decide
  unfold hF
  rw [List.getD_eq_getElem?_getD]
  cases h : hList[i]? with
  | none => decide
  | some x => exact this x (List.mem_of_getElem? h)
/-- the words of a block's text -/
def bW (s : ByteArray) (t : Nat) : Nat := w4 (bAt s (4 * t)) (bAt s (4 * t + 1)) (bAt s (4 * t + 2)) (bAt s (4 * t + 3))
theorem w4_i64 {a b c d : Nat} (ha : a < 256) (hb : b < 256) (hc : c < 256) (hd : d < 256) :
    bits .or .i64 (bits .or .i64 (bits .or .i64 ((a : Int) * 16777216) ((b : Int) * 65536)) ((c : Int) * 256)) (d : Int) = ((w4 a b c d : Nat) : Int) := by
  have h1 := or_lt (n := 32) (show a * 16777216 < 2 ^ 32 by omega) (show b * 65536 < 2 ^ 32 by omega)
  have h2 := or_lt (n := 32) h1 (show c * 256 < 2 ^ 32 by omega)
  rw [show (a : Int) * 16777216 = ((a * 16777216 : Nat) : Int) by omega, show (b : Int) * 65536 = ((b * 65536 : Nat) : Int) by omega, show (c : Int) * 256 = ((c * 256 : Nat) : Int) by omega,
    or_i64 (by omega) (by omega), or_i64 (by omega) (by omega), or_i64 (by omega) (by omega)]
  rfl
theorem bW_lt (s : ByteArray) (t : Nat) : bW s t < 4294967296 := w4_lt (bAt_lt _ _) (bAt_lt _ _) (bAt_lt _ _) (bAt_lt _ _)
end Go.Proofs.Ytbijkdpifnncmaa
