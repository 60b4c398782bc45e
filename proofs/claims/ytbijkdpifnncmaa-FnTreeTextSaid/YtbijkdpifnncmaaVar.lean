/- Contracts of Var, sized, l4Piece. -/
import Derived.Test.YtbijkdpifnncmaaNumA
import Derived.Test.YtbijkdpifnncmaaByteRow
import Derived.Laws.Bits128
namespace Go.Proofs.Ytbijkdpifnncmaa
open Go.RowKit

/-- the bytes of Var -/
def varL (n : Nat) : List UInt8 := if n < 128 then [UInt8.ofNat n] else UInt8.ofNat (128 + n % 128) :: varL (n / 128)
termination_by n
decreasing_by omega
def varS (n : Nat) : ByteArray := ⟨(varL n).toArray⟩
theorem varL_small {n : Nat} (h : n < 128) : varL n = [UInt8.ofNat n] := by rw [varL, if_pos h]
theorem varL_big {n : Nat} (h : ¬ n < 128) : varL n = UInt8.ofNat (128 + n % 128) :: varL (n / 128) := by rw [varL, if_neg h]
theorem var_le {j m n : Nat} (h : m * 128 ^ j ≤ n) {b : Nat} (hn : n ≤ b) : m ≤ b := by
  have : m * 1 ≤ m * 128 ^ j := Nat.mul_le_mul_left m (Nat.pow_pos (by decide))
  omega
theorem var_step {j m n : Nat} (h6 : j ≤ 6) (h : m * 128 ^ j ≤ n) (hn : n ≤ 562949953421311) (hm : ¬ m < 128) : j + 1 ≤ 6 ∧ m / 128 * 128 ^ (j + 1) ≤ n := by
  rcases (show j = 0 ∨ j = 1 ∨ j = 2 ∨ j = 3 ∨ j = 4 ∨ j = 5 ∨ j = 6 by omega) with rfl | rfl | rfl | rfl | rfl | rfl | rfl <;> simp only [Nat.reducePow, Nat.reduceAdd, Nat.mul_one] at h ⊢ <;> omega
theorem i64_or128 {y : Int} (h0 : 0 ≤ y) (h1 : y < 128) : bits .or .i64 y 128 = y + 128 := by
  obtain ⟨a, rfl⟩ := Int.eq_ofNat_of_zero_le h0
  have e1 : (BitVec.ofInt 64 (a : Int)).toNat = a := by rw [BitVec.ofInt_natCast, BitVec.toNat_ofNat]; exact Nat.mod_eq_of_lt (by omega)
  have e2 : (BitVec.ofInt 64 128).toNat = 128 := by decide
  have hx : a ||| 128 = a + 128 := by
    have := Nat.two_pow_add_eq_or_of_lt (i := 7) (b := a) (by omega) 1
    rw [Nat.or_comm] at this
    simp at this
    omega
  show IntKind.i64.wrap ((BitVec.ofInt 64 (a : Int) ||| BitVec.ofInt 64 128).toNat : Int) = _
  rw [BitVec.toNat_or, e1, e2, hx, IntKind.wrap_i64]
  omega

theorem var_impl (n : Nat) (w : World) (hn : n ≤ 562949953421311) :
    Calls Try.prog 29 #[.int .i64 n] w fun e w' => e = .returned (.string (varS n)) ∧ Below w.heap.size w w' := by
  have hin : inB (n : Int) 0 562949953421311 = true := by simp [inB]; omega
  have HI := Lib.hid hin; clear hin
  go_enter Try.func29, Try.ntmps29
  go_wp2_with fail
  refine (within_any _ _ _ _).mono ?_
  rintro e w1 ⟨rfl, rfl⟩
  rw [HI.out]
  go_wp2
  go_loopw [0, 3] (fun x o wr => ∃ (m : Nat) (A : Option Addr) (cap : Nat) (xs : List UInt8), x = .int .i64 m ∧ o = .slice A xs.length cap ∧ wr.ownsRow w.heap.size 5 1 (.slice A xs.length cap) xs.length (xs.map byteV) ∧ varL n = xs ++ varL m ∧ xs.length ≤ 6 ∧ m * 128 ^ xs.length ≤ n ∧ Below w.heap.size w wr) (fun x _ _ => (intOf x).toNat)
  case atStart => exact ⟨n, _, 0, [], rfl, rfl, by simpa using own_empty w 5 1 (base := w.heap.size) (Nat.le_refl _), rfl, by simp, by simp, (Below.refl _ _).alloc (Nat.le_refl _) _⟩
  case round =>
    obtain ⟨m, A, cap, xs, rfl, rfl, hown, hv, hle, hmul, hb⟩ := hrel
    have HM := Lib.hid hmul; clear hmul
    have hmn : m ≤ 562949953421311 := var_le HM.out hn
    have HV := Lib.hid hv; clear hv
    have hzr := hb.size
    by_cases hm : m < 128
    · have H8 : byteV (UInt8.ofNat m) = .int .u8 (m : Int) := byteV_of (by omega)
      have HB := Lib.hid H8; clear H8
      have HS := Lib.hid (varL_small hm)
      go_wp2_with (first | (at_builtin; refine wpList_app1g (P := Try.prog) _ rfl (.tmp 19) (.tmp 22) 22 rfl w.heap.size 5 _ 1 1 Try.underlying22 infoByteV rfl (by omega) (.slice A _ cap) _ _ rfl hown #[.int .u8 (m : Int)] _ rfl (by simp) rfl (by simp [Value.oneCell']) (by unfold maxLen; omega) (by omega) hzr ?_; intro A' c' w4 hown4 hg4 hb4 _; rw [show xs.map byteV ++ #[Value.int .u8 (m : Int)].toList = (xs ++ [UInt8.ofNat m]).map byteV by rw [List.map_append]; simp [HB.out]] at hown4; obtain ⟨g4, hA4, hcv⟩ := conv_own hown4 (by omega); subst hA4))
      go_wp2
      go_returns
      exact ⟨by unfold varS; rw [HV.out, HS.out]; rfl, hb.trans hb4⟩
    · have H8 : byteV (UInt8.ofNat (128 + m % 128)) = .int .u8 ((m : Int) % 128 + 128) := (byteV_of (by omega)).trans (by congr 1; omega)
      have HB := Lib.hid H8; clear H8
      have HS := Lib.hid (varL_big hm)
      have ha := i64_and127 (m : Int)
      have ho := i64_or128 (y := (m : Int) % 128) (by omega) (by omega)
      go_wp2_with (at_builtin; refine wpList_app1g (P := Try.prog) _ rfl (.tmp 10) (.tmp 15) 22 rfl w.heap.size 5 _ 1 1 Try.underlying22 infoByteV rfl (by omega) (.slice A _ cap) _ _ rfl hown #[.int .u8 ((m : Int) % 128 + 128)] _ rfl (by simp) rfl (by simp [Value.oneCell']) (by unfold maxLen; omega) (by omega) hzr ?_; intro A' c' w4 hown4 hg4 hb4 _)
      refine ⟨⟨m / 128, A', c', xs ++ [UInt8.ofNat (128 + m % 128)], by simp, by simp, ?_, by rw [HV.out, HS.out]; simp, by rw [List.length_append]; exact (var_step hle HM.out hn hm).1, by rw [List.length_append]; exact (var_step hle HM.out hn hm).2, hb.trans hb4⟩, by simp [intOf]; omega⟩
      rw [List.map_append, List.map_cons, List.map_nil, HB.out, List.length_append]
      exact hown4

set_option maxRecDepth 4000 in
theorem var_spec (n : Nat) (w : World) (hn : n ≤ 562949953421311) :
    Calls Try.prog 39 #[.int .i64 n] w fun e w' => e = .returned (.string (varS n)) ∧ Below w.heap.size w w' := by
  have hin : inB (n : Int) 0 562949953421311 = true := by simp [inB]; omega
  have HI := Lib.hid hin; clear hin
  go_enter Try.func39, Try.ntmps39
  go_wp2_with fail
  refine (l1In_any _ _ _ _).mono ?_
  rintro e w1 ⟨rfl, rfl⟩
  rw [HI.out]
  go_wp2
  go_loopw [0, 3] (fun x o wr => ∃ (m : Nat) (A : Option Addr) (cap : Nat) (xs : List UInt8), x = .int .i64 m ∧ o = .slice A xs.length cap ∧ wr.ownsRow w.heap.size 5 1 (.slice A xs.length cap) xs.length (xs.map byteV) ∧ varL n = xs ++ varL m ∧ xs.length ≤ 6 ∧ m * 128 ^ xs.length ≤ n ∧ Below w.heap.size w wr) (fun x _ _ => (intOf x).toNat)
  case atStart => exact ⟨n, _, 0, [], rfl, rfl, by simpa using own_empty w 5 1 (base := w.heap.size) (Nat.le_refl _), rfl, by simp, by simp, (Below.refl _ _).alloc (Nat.le_refl _) _⟩
  case round =>
    obtain ⟨m, A, cap, xs, rfl, rfl, hown, hv, hle, hmul, hb⟩ := hrel
    have HM := Lib.hid hmul; clear hmul
    have hmn : m ≤ 562949953421311 := var_le HM.out hn
    have HV := Lib.hid hv; clear hv
    have hzr := hb.size
    by_cases hm : m < 128
    · have H8 : byteV (UInt8.ofNat m) = .int .u8 (m : Int) := byteV_of (by omega)
      have HB := Lib.hid H8; clear H8
      have HS := Lib.hid (varL_small hm)
      go_wp2_with (first | (at_builtin; refine wpList_app1g (P := Try.prog) _ rfl (.tmp 19) (.tmp 22) 22 rfl w.heap.size 5 _ 1 1 Try.underlying22 infoByteV rfl (by omega) (.slice A _ cap) _ _ rfl hown #[.int .u8 (m : Int)] _ rfl (by simp) rfl (by simp [Value.oneCell']) (by unfold maxLen; omega) (by omega) hzr ?_; intro A' c' w4 hown4 hg4 hb4 _; rw [show xs.map byteV ++ #[Value.int .u8 (m : Int)].toList = (xs ++ [UInt8.ofNat m]).map byteV by rw [List.map_append]; simp [HB.out]] at hown4; obtain ⟨g4, hA4, hcv⟩ := conv_own hown4 (by omega); subst hA4))
      go_wp2
      go_returns
      exact ⟨by unfold varS; rw [HV.out, HS.out]; rfl, hb.trans hb4⟩
    · have H8 : byteV (UInt8.ofNat (128 + m % 128)) = .int .u8 (128 + (m : Int) % 128) := (byteV_of (by omega)).trans (by congr 1)
      have HB := Lib.hid H8; clear H8
      have HS := Lib.hid (varL_big hm)
      go_wp2_with (at_builtin; refine wpList_app1g (P := Try.prog) _ rfl (.tmp 10) (.tmp 15) 22 rfl w.heap.size 5 _ 1 1 Try.underlying22 infoByteV rfl (by omega) (.slice A _ cap) _ _ rfl hown #[.int .u8 (128 + (m : Int) % 128)] _ rfl (by simp) rfl (by simp [Value.oneCell']) (by unfold maxLen; omega) (by omega) hzr ?_; intro A' c' w4 hown4 hg4 hb4 _)
      refine ⟨⟨m / 128, A', c', xs ++ [UInt8.ofNat (128 + m % 128)], by simp, by simp, ?_, by rw [HV.out, HS.out]; simp, by rw [List.length_append]; exact (var_step hle HM.out hn hm).1, by rw [List.length_append]; exact (var_step hle HM.out hn hm).2, hb.trans hb4⟩, by simp [intOf]; omega⟩
      rw [List.map_append, List.map_cons, List.map_nil, HB.out, List.length_append]
      exact hown4
end Go.Proofs.Ytbijkdpifnncmaa
