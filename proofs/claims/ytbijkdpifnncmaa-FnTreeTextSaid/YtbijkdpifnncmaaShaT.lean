/- SHA-256 of a text as a function of Lean: the padded text, its blocks, the bytes that come out. -/
import Derived.Test.YtbijkdpifnncmaaShaN
import Derived.Test.YtbijkdpifnncmaaFixed
namespace Go.Proofs.Ytbijkdpifnncmaa

/-- how many bytes 0 lie behind the byte 128 (ahead of the eight of the length) -/
def zN (n : Nat) : Nat := (119 - n % 64) % 64
theorem zN_lt (n : Nat) : zN n < 64 := Nat.mod_lt _ (by decide)
theorem zN_mod (n : Nat) : (n + 1 + zN n) % 64 = 56 := by unfold zN; omega
theorem zN_least (n j : Nat) (h : j < zN n) : (n + 1 + j) % 64 ≠ 56 := by unfold zN at h; omega
def padL (n : Nat) : List UInt8 := 128 :: (List.replicate (zN n) 0 ++ fixL (8 * n) 8)
theorem padL_length (n : Nat) : (padL n).length = 9 + zN n := by simp [padL, fixL_length]; omega
theorem dv7 {n : Nat} (h : n < 72057594037927936) : dv n 7 = 0 := by unfold dv; exact Nat.div_eq_of_lt (by simpa using h)
theorem padL_seven {n : Nat} (h : 8 * n < 72057594037927936) : padL n = 128 :: (List.replicate (zN n + 1) 0 ++ fixL (8 * n) 7) := by
  unfold padL
  rw [show fixL (8 * n) 8 = UInt8.ofNat (dv (8 * n) 7 % 256) :: fixL (8 * n) 7 from rfl, dv7 h, List.replicate_succ']
  simp
def padT (s : ByteArray) : ByteArray := s ++ ⟨(padL s.size).toArray⟩
theorem padT_size (s : ByteArray) : (padT s).size = s.size + 9 + zN s.size := by
  unfold padT
  rw [ByteArray.size_append, show (ByteArray.mk (padL s.size).toArray).size = (padL s.size).toArray.size from rfl, List.size_toArray, padL_length]
  omega
def nB (n : Nat) : Nat := (n + 9 + zN n) / 64
theorem nB_mul (n : Nat) : 64 * nB n = n + 9 + zN n := by unfold nB zN; omega
theorem padT_size' (s : ByteArray) : (padT s).size = 64 * nB s.size := by rw [padT_size, nB_mul]
def blkAt (t : ByteArray) (i : Nat) : ByteArray := t.extract (64 * i) (64 * i + 64)
theorem blkAt_size {t : ByteArray} {i : Nat} (h : 64 * i + 64 ≤ t.size) : (blkAt t i).size = 64 := by unfold blkAt; rw [ByteArray.size_extract]; omega
/-- the state behind i blocks -/
def hS (t : ByteArray) : Nat → Nat → Nat
  | 0 => hF
  | i + 1 => blk kF (bW (blkAt t i)) (hS t i)
theorem hS_lt (t : ByteArray) (i j : Nat) : hS t i j < 4294967296 := by
  cases i with
  | zero => exact hF_lt j
  | succ i => exact blk_lt _ _ _ _
/-- the bytes of the first i words -/
def outL (h : Nat → Nat) : Nat → List UInt8
  | 0 => []
  | i + 1 => outL h i ++ fixL (h i) 4
theorem outL_length (h : Nat → Nat) (i : Nat) : (outL h i).length = 4 * i := by
  induction i with
  | zero => rfl
  | succ i ih => simp [outL, ih, fixL_length]; omega
def shaS (s : ByteArray) : ByteArray := ⟨(outL (hS (padT s) (nB s.size)) 8).toArray⟩
theorem shaS_size (s : ByteArray) : (shaS s).size = 32 := by
  show (outL (hS (padT s) (nB s.size)) 8).toArray.size = 32
  rw [List.size_toArray, outL_length]
def shortS (s : ByteArray) : ByteArray := (shaS s).extract 0 8
theorem shortS_size (s : ByteArray) : (shortS s).size = 8 := by unfold shortS; rw [ByteArray.size_extract, shaS_size]; rfl
theorem fix4 {x : Nat} (h : x < 4294967296) : fixS (x : Int) 4 = ⟨(fixL x 4).toArray⟩ := by
  have hok : fixOk (x : Int) 4 = true := by
    have hp : (x : Int) < ((pw (4 : Int).toNat : Nat) : Int) := by rw [show pw (4 : Int).toNat = 4294967296 by decide]; omega
    simp only [fixOk, inB, hp]; simp
  unfold fixS
  rw [if_pos hok]; rfl
theorem fix7 {x : Nat} (h : x < 72057594037927936) : fixS (x : Int) 7 = ⟨(fixL x 7).toArray⟩ := by
  have hok : fixOk (x : Int) 7 = true := by
    have hp : (x : Int) < ((pw (7 : Int).toNat : Nat) : Int) := by rw [show pw (7 : Int).toNat = 72057594037927936 by decide]; omega
    simp only [fixOk, inB, hp]; simp
  unfold fixS
  rw [if_pos hok]; rfl
end Go.Proofs.Ytbijkdpifnncmaa
