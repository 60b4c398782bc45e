/- Contracts of ReadFixed: a number out of its bytes. -/
import Derived.Test.YtbehiocdeefpmaaFixed
namespace Go.Proofs.Ytbehiocdeefpmaa
open Go.RowKit

/-- the number in the first k bytes -/
def rdN (s : ByteArray) : Nat → Nat
  | 0 => 0
  | k + 1 => rdN s k * 256 + bAt s k
theorem rdN_lt (s : ByteArray) (k : Nat) : rdN s k < pw k := by
  induction k with
  | zero => simp [rdN, pw]
  | succ k ih =>
    have := bAt_lt s k
    have e : pw (k + 1) = pw k * 256 := by simp [pw, Nat.pow_succ]
    rw [e, rdN]; omega
theorem pw_mono {a b : Nat} (h : a ≤ b) : pw a ≤ pw b := Nat.pow_le_pow_right (by omega) h
theorem rdN_small (s : ByteArray) {k : Nat} (h : k ≤ 6) : rdN s k < 281474976710656 := by
  have h1 := rdN_lt s k
  have h2 := pw_mono h
  have h3 : pw 6 = 281474976710656 := by decide +kernel
  omega
theorem i64_or_byte {n b : Nat} (hn : n < 281474976710656) (hb : b < 256) : bits .or .i64 ((n : Int) * 256) (b : Int) = (n : Int) * 256 + b := by
  have e1 : (BitVec.ofInt 64 ((n : Int) * 256)).toNat = n * 256 := by
    rw [show (n : Int) * 256 = ((n * 256 : Nat) : Int) from (Int.natCast_mul n 256).symm, BitVec.ofInt_natCast, BitVec.toNat_ofNat]; exact Nat.mod_eq_of_lt (by omega)
  have e2 : (BitVec.ofInt 64 (b : Int)).toNat = b := by rw [BitVec.ofInt_natCast, BitVec.toNat_ofNat]; exact Nat.mod_eq_of_lt (by omega)
  have hx : n * 256 ||| b = n * 256 + b := by
    have := Nat.two_pow_add_eq_or_of_lt (i := 8) (b := b) (by omega) n
    rw [Nat.mul_comm n 256]; exact this.symm
  show IntKind.i64.wrap ((BitVec.ofInt 64 ((n : Int) * 256) ||| BitVec.ofInt 64 (b : Int)).toNat : Int) = _
  rw [BitVec.toNat_or, e1, e2, hx, IntKind.wrap_i64]
  omega
def rdOk (s : ByteArray) (width : Int) : Bool := inB width 1 7 && decide (width ≤ s.size)
def rdF (s : ByteArray) (width : Int) : Int := if rdOk s width = true then (rdN s width.toNat : Int) else 0

theorem readFixed_impl (s : ByteArray) (width : Int) (w : World) (hs : s.size ≤ 9223372036854775807) :
    Calls Try.prog 40 #[.string s, .int .i64 width] w fun e w' => e = .returned (.tuple #[.int .i64 (rdF s width), .bool (rdOk s width)]) ∧ w = w' := by
  by_cases h1 : inB width 1 7 = true
  · have hw := (show 1 ≤ width ∧ width ≤ 7 by simpa [inB] using h1)
    obtain ⟨k, rfl⟩ := Int.eq_ofNat_of_zero_le (show 0 ≤ width by omega)
    have hk7 : k ≤ 7 := by omega
    clear hw
    by_cases h2 : k ≤ s.size
    · have hfin : rdOk s k = true := by simp [rdOk, h1, h2]
      have HF := Lib.hid hfin; clear hfin
      go_enter Try.func40, Try.ntmps40
      go_wp2_with (first | (go_at_call 38; refine (within_any _ _ _ _).mono ?_; rintro e w' ⟨rfl, rfl⟩))
      go_loop [6, 7] (fun n i => ∃ (j : Nat), j ≤ k ∧ i = .int .i64 j ∧ n = .int .i64 (rdN s j)) (fun _ i => k - (intOf i).toNat)
      case atStart => exact ⟨0, by omega, rfl, rfl⟩
      case round =>
        obtain ⟨j, hj, rfl, rfl⟩ := hrel
        by_cases hjk : j < k
        · have hsm := rdN_small s (k := j) (by omega)
          have hbl := bAt_lt s j
          have hjs : j < s.size := by omega
          have hor := i64_or_byte hsm hbl
          have hbt := bAt_get hjs
          go_wp2
          exact ⟨⟨j + 1, by omega, by go_num, by rw [rdN]; rfl⟩, by simp [intOf]; omega⟩
        · have : j = k := by omega
          subst this
          go_wp2
          go_ret2
          exact ⟨by rw [HF.out]; simp only [rdF, HF.out, if_true, Int.toNat_natCast]; rfl, rfl⟩
    · have hfin : rdOk s k = false := by simp [rdOk, h2]
      have HF := Lib.hid hfin; clear hfin
      go_enter Try.func40, Try.ntmps40
      go_wp2_with (first | (go_at_call 38; refine (within_any _ _ _ _).mono ?_; rintro e w' ⟨rfl, rfl⟩))
      go_ret2
      exact ⟨by rw [HF.out]; simp [rdF, HF.out], rfl⟩
  · have hfin : rdOk s width = false := by simp [rdOk, h1]
    have HF := Lib.hid hfin; clear hfin
    go_enter Try.func40, Try.ntmps40
    go_wp2_with (first | (go_at_call 38; refine (within_any _ _ _ _).mono ?_; rintro e w' ⟨rfl, rfl⟩))
    go_ret2
    exact ⟨by rw [HF.out]; simp [rdF, HF.out], rfl⟩

end Go.Proofs.Ytbehiocdeefpmaa
