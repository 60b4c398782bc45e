/- Contracts and lemmas: ReadVar, Scan, Sz, Rd, CmText, CatP. -/
import Derived.Test.YtdphdnllhmnelaaGreatJ6
import Derived.Test.YtdphdnllhmnelaaGreatJ2
import Derived.BigQuiet
import Derived.Deep.QuietTactic
import Derived.Test.YtdphdnllhmnelaaGreatJ0
import Derived.Test.YtdphdnllhmnelaaGreatJ4
import Derived.Test.YtdphdnllhmnelaaGreatJ5
/- Contracts of ReadVar, the program's and the reference's. -/
namespace Go.Proofs.YtdphdnllhmnelaaGreat
open Go.RowKit
attribute [local irreducible] rvF

theorem and127 {b : Nat} (h : b < 256) : bits .and .u8 (b : Int) 127 = ((b % 128 : Nat) : Int) := by
  have e1 : (BitVec.ofInt 8 (b : Int)).toNat = b := by rw [BitVec.ofInt_natCast, BitVec.toNat_ofNat]; exact Nat.mod_eq_of_lt (by omega)
  have e2 : (BitVec.ofInt 8 127).toNat = 127 := by decide
  have hx : b &&& 127 = b % 128 := Nat.and_two_pow_sub_one_eq_mod b 7
  show IntKind.u8.wrap ((BitVec.ofInt 8 (b : Int) &&& BitVec.ofInt 8 127).toNat : Int) = _
  rw [BitVec.toNat_and, e1, e2, hx]
  have : b % 128 < 256 := by omega
  simp [IntKind.wrap, IntKind.bits, IntKind.signed]
  omega
theorem or_put {n x k : Nat} (hn : n < 128 ^ k) (hx : x < 128) (hk : k ≤ 6) : bits .or .i64 (n : Int) ((x * 128 ^ k : Nat) : Int) = ((n + x * 128 ^ k : Nat) : Int) := by
  have hp : 128 ^ k ≤ 128 ^ 6 := Nat.pow_le_pow_right (by decide) hk
  have h1 : x * 128 ^ k ≤ 127 * 128 ^ k := Nat.mul_le_mul_right _ (by omega)
  have e : (128 : Nat) ^ k = 2 ^ (7 * k) := by rw [Nat.pow_mul]
  have a1 : (BitVec.ofInt 64 (n : Int)).toNat = n := by rw [BitVec.ofInt_natCast, BitVec.toNat_ofNat]; exact Nat.mod_eq_of_lt (by omega)
  have a2 : (BitVec.ofInt 64 ((x * 128 ^ k : Nat) : Int)).toNat = x * 128 ^ k := by rw [BitVec.ofInt_natCast, BitVec.toNat_ofNat]; exact Nat.mod_eq_of_lt (by omega)
  have ho : n ||| x * 128 ^ k = n + x * 128 ^ k := by
    rw [e] at hn ⊢
    have := Nat.two_pow_add_eq_or_of_lt (i := 7 * k) (b := n) hn x
    rw [Nat.or_comm, Nat.mul_comm x, ← this]; omega
  show IntKind.i64.wrap ((BitVec.ofInt 64 (n : Int) ||| BitVec.ofInt 64 ((x * 128 ^ k : Nat) : Int)).toNat : Int) = _
  rw [BitVec.toNat_or, a1, a2, ho, IntKind.wrap_i64]
  omega

set_option maxRecDepth 4000 in
set_option maxHeartbeats 1000000 in
theorem readVar_impl (s : ByteArray) (w : World) (hs : s.size ≤ 9223372036854775807) :
    Calls Tryz.prog 94 #[.string s] w fun e w' => e = .returned (.tuple #[.int .i64 ((rvF s).1 : Int), .int .i64 ((rvF s).2 : Int)]) ∧ Below w.heap.size w w' := by
  go_enter Tryz.func94, Tryz.ntmps94
  go_wp2
  go_loop [4, 5] (fun n i => ∃ k : Nat, k ≤ 7 ∧ k ≤ s.size ∧ i = .int .i64 k ∧ n = .int .i64 ((bVal s k : Nat) : Int) ∧ ∀ j, j < k → 128 ≤ bAt s j) (fun _ i => 7 - (intOf i).toNat)
  case atStart => exact ⟨0, by omega, by omega, rfl, rfl, fun j hj => absurd hj (by omega)⟩
  case round =>
    obtain ⟨k, hk7, hks, rfl, rfl, hhi⟩ := hrel
    have HH := Lib.hid hhi; clear hhi
    have hlt := bVal_lt s k
    have HL := Lib.hid hlt; clear hlt
    by_cases hin : k < s.size
    · by_cases hk : k < 7
      · have ik : (k : Int) < (s.size : Int) := by omega
        have ik7 : (k : Int) < 7 := by omega
        have b0 := bAt_get hin
        have l0 := bAt_lt s k
        have HS := Lib.hid (show bVal s (k + 1) = bVal s k + bAt s k % 128 * 128 ^ k from rfl)
        have ha := and127 l0
        have h7 : IntKind.i64.wrap (7 * (k : Int)) = 7 * (k : Int) := by rw [IntKind.wrap_i64]; omega
        have h7p : (0 : Int) ≤ 7 * (k : Int) := by omega
        have hor : bits .or .i64 ((bVal s k : Nat) : Int) (wrap64 ((bAt s k : Int) % 128 * 2 ^ (7 * k))) = ((bVal s (k + 1) : Nat) : Int) := by
          have e : ((bAt s k : Int) % 128 * 2 ^ (7 * k)) = ((bAt s k % 128 * 128 ^ k : Nat) : Int) := by
            rw [Int.natCast_mul, Int.natCast_pow, show (2 : Int) ^ (7 * k) = ((128 : Nat) : Int) ^ k by rw [Int.pow_mul]; rfl]
            rfl
          have hm : bAt s k % 128 * 128 ^ k ≤ 127 * 128 ^ 6 := Nat.mul_le_mul (by omega) (Nat.pow_le_pow_right (by decide) (by omega))
          rw [e, show wrap64 ((bAt s k % 128 * 128 ^ k : Nat) : Int) = ((bAt s k % 128 * 128 ^ k : Nat) : Int) by unfold wrap64; omega, or_put HL.out (by omega) (by omega), HS.out]
        have hnn : bVal s (k + 1) ≤ 562949953421311 := by
          have h1 := bVal_lt s (k + 1)
          have h2 : 128 ^ (k + 1) ≤ 128 ^ 7 := Nat.pow_le_pow_right (by decide) (by omega)
          omega
        have HOR := Lib.hid hor; clear hor
        by_cases hlo : bAt s k < 128
        · -- the last byte
          have HLO := Lib.hid hlo
          have hk1 : (k : Int) + 1 ≤ (s.size : Int) := by omega
          have hk1n : ((k : Int) + 1).toNat = k + 1 := by omega
          have hbi : ((bAt s k : Nat) : Int) < 128 := by omega
          generalize hb : bAt s k = b at *
          have HB := Lib.hid hb; clear hb
          clear hlo
          generalize hnv : bVal s (k + 1) = n at *
          have HNN := Lib.hid hnv; clear hnv
          go_wp2
          rw [HOR.out]
          refine wp_region_grow (by kernel_rfl) (by kernel_rfl) ?_
          repeat (first | go_big_quiet_step ((go_at_call 50; exact grow_of (var_impl _ _ (by omega)))))
          refine wpQuiet_nil ?_
          intro _ hw'
          obtain ⟨⟨w2, hb2⟩, hw''⟩ := hw'
          change _ = w2 at hw''
          subst hw''
          by_cases he : varS n = s.extract 0 (k + 1)
          · obtain ⟨g1, g2⟩ := begins_of_extract (by omega) he
            have HR := Lib.hid (rvF_yes hnn g1)
            rw [g2] at HR
            clear g1 g2
            have g1 : (!((varS n).toList == (s.extract 0 (k + 1)).toList)) = false := by rw [str_beq]; simpa using he
            clear he
            rw [g1]
            go_wp2
            go_returns
            rw [HR.out]
            exact ⟨by rfl, hb2⟩
          · have HR := Lib.hid (show rvF s = (0, 0) from rvF_no (fun m hm hbm => by
              have hp : 0 < (varL m).length := List.length_pos_iff.2 (varL_ne m)
              have hlen : (varL m).length = k + 1 := by
                rcases Nat.lt_trichotomy (varL m).length (k + 1) with h | h | h
                · have h1 := begins_lo hbm
                  have h2 := HH.out ((varL m).length - 1) (by omega)
                  omega
                · exact h
                · have h1 := begins_hi hbm (i := k) (by omega)
                  have := HLO.out
                  rw [HB.out] at h1
                  omega
              have hv := begins_val hbm
              rw [hlen] at hv
              apply he
              have := extract_of_begins hbm
              rw [hlen] at this
              rw [← this]
              exact congrArg varS (by rw [← hv]; exact HNN.out.symm)))
            have g1 : (!((varS n).toList == (s.extract 0 (k + 1)).toList)) = true := by rw [str_beq]; simpa using he
            clear he
            rw [g1]
            go_wp2
            go_returns
            rw [HR.out]
            exact ⟨by rfl, hb2⟩
        · have hbi : ¬ ((bAt s k : Nat) : Int) < 128 := by omega
          have HLO := Lib.hid hlo
          generalize hb : bAt s k = b at *
          have HB := Lib.hid hb; clear hb
          clear hlo
          go_wp2
          rw [HOR.out]
          refine ⟨⟨k + 1, by omega, by omega, by go_num, rfl, fun j hj => ?_⟩, by simp [intOf]; omega⟩
          by_cases e : j = k
          · subst e; have := HLO.out; have := HB.out; omega
          · exact HH.out j (by omega)
      · have hk0 : k = 7 := by omega
        subst hk0
        have ik : ((7 : Nat) : Int) < (s.size : Int) := by omega
        have HR := Lib.hid (show rvF s = (0, 0) from rvF_no (fun m hm hbm => by
          have hp : 0 < (varL m).length := List.length_pos_iff.2 (varL_ne m)
          have h7 := varL_len7 hm
          have h1 := begins_lo hbm
          have h2 := HH.out ((varL m).length - 1) (by omega)
          omega))
        go_wp2
        go_returns
        rw [HR.out]
        exact ⟨by rfl, Below.refl _ _⟩
    · have hk0 : k = s.size := by omega
      have ik : ¬ (k : Int) < (s.size : Int) := by omega
      have HR := Lib.hid (show rvF s = (0, 0) from rvF_no (fun m hm hbm => by
        have hp : 0 < (varL m).length := List.length_pos_iff.2 (varL_ne m)
        have h7 := hbm.1
        have h1 := begins_lo hbm
        have h2 := HH.out ((varL m).length - 1) (by omega)
        omega))
      clear hk0
      go_wp2
      go_returns
      rw [HR.out]
      exact ⟨by rfl, Below.refl _ _⟩

/-- the value of the bytes from j up to k, the least first -/
def dF (s : ByteArray) (j : Nat) : Nat → Nat
  | 0 => 0
  | d + 1 => bAt s j % 128 + 128 * dF s (j + 1) d
def dV (s : ByteArray) (j k : Nat) : Nat := dF s j (k - j)
theorem dV_top (s : ByteArray) (k : Nat) : dV s k k = 0 := by simp [dV, dF]
theorem dV_step (s : ByteArray) (q k : Nat) (h : q < k) : dV s q k = bAt s q % 128 + 128 * dV s (q + 1) k := by
  unfold dV
  rw [show k - q = (k - (q + 1)) + 1 by omega]
  rfl
theorem dF_lt (s : ByteArray) : ∀ (d j : Nat), dF s j d < 128 ^ d
  | 0, _ => by simp [dF]
  | d + 1, j => by
    have h := dF_lt s d (j + 1)
    unfold dF
    rw [Nat.pow_succ]
    omega
theorem dV_lt (s : ByteArray) (j k : Nat) (h : k ≤ 6 + j) : dV s j k ≤ 4398046511103 := by
  have h1 := dF_lt s (k - j) j
  have h2 : 128 ^ (k - j) ≤ 128 ^ 6 := Nat.pow_le_pow_right (by decide) (by omega)
  unfold dV
  omega
theorem bVal_dF (s : ByteArray) : ∀ (d k : Nat), bVal s (k + d) = bVal s k + 128 ^ k * dF s k d
  | 0, k => by simp [dF]
  | d + 1, k => by
    rw [show k + (d + 1) = k + 1 + d by omega, bVal_dF s d (k + 1)]
    simp only [bVal, dF]
    rw [Nat.pow_succ, Nat.mul_add, ← Nat.mul_assoc, Nat.mul_comm (bAt s k % 128)]
    omega
theorem dV_zero (s : ByteArray) (k : Nat) : dV s 0 k = bVal s k := by
  have := bVal_dF s k 0
  simp only [Nat.zero_add, bVal, Nat.pow_zero, Nat.one_mul] at this
  rw [this]
  rfl
set_option maxRecDepth 4000 in
set_option maxHeartbeats 1000000 in
theorem readVar_spec (s : ByteArray) (w : World) (hs : s.size ≤ 9223372036854775807) :
    Calls Tryz.prog 97 #[.string s] w fun e w' => e = .returned (.tuple #[.int .i64 ((rvF s).1 : Int), .int .i64 ((rvF s).2 : Int)]) ∧ Below w.heap.size w w' := by
  go_enter Tryz.func97, Tryz.ntmps97
  go_wp2
  go_loopw [4] (fun i wr => ∃ k : Nat, 1 ≤ k ∧ k ≤ 8 ∧ i = .int .i64 k ∧ (∀ j, 1 ≤ j → j < k → ¬ (j ≤ s.size ∧ varS (bVal s j) = s.extract 0 j)) ∧ Below w.heap.size w wr) (fun i _ => 8 - (intOf i).toNat)
  case atStart => exact ⟨1, by omega, by omega, rfl, fun j hj hj2 => absurd hj2 (by omega), Below.refl _ _⟩
  case round =>
    obtain ⟨k, hk1, hk8, rfl, hno, hb⟩ := hrel
    have HN := Lib.hid hno; clear hno
    have HR0 : k ≤ 7 ∧ k ≤ s.size ∨ rvF s = (0, 0) := by
      by_cases h : k ≤ 7 ∧ k ≤ s.size
      · exact .inl h
      · refine .inr (rvF_no fun m hm hbm => ?_)
        have hp : 0 < (varL m).length := List.length_pos_iff.2 (varL_ne m)
        have h7 := varL_len7 hm
        have h1 := hbm.1
        have hv := begins_val hbm
        exact HN.out _ hp (by omega) ⟨h1, by rw [hv]; exact extract_of_begins hbm⟩
    have HRN := Lib.hid HR0; clear HR0
    by_cases hk7 : k ≤ 7
    · have ik7 : (k : Int) ≤ 7 := by omega
      by_cases hin : k ≤ s.size
      · have ikn : (k : Int) ≤ (s.size : Int) := by omega
        go_wp2
        go_loopw [6, 5] (fun i n w2 => ∃ j : Nat, j ≤ k ∧ i = .int .i64 ((j : Int) - 1) ∧ n = .int .i64 ((dV s j k : Nat) : Int) ∧ w2 = wr) (fun i _ _ => (intOf i + 1).toNat)
        case atStart => exact ⟨k, Nat.le_refl _, rfl, by rw [dV_top]; rfl, rfl⟩
        case round =>
          obtain ⟨j, hj, rfl, rfl, rfl⟩ := hrel
          by_cases hj0 : 0 < j
          · obtain ⟨q, rfl⟩ : ∃ q, j = q + 1 := ⟨j - 1, by omega⟩
            have hqs : q < s.size := by omega
            have iq : (q : Int) < (s.size : Int) := by omega
            have iq0 : (0 : Int) ≤ (q : Int) := by omega
            have b0 := bAt_get hqs
            have l0 := bAt_lt s q
            have hd := dV_lt s (q + 1) k (by omega)
            have HS := Lib.hid (dV_step s q k (by omega))
            have ei : (((q + 1 : Nat) : Int) - 1) = (q : Int) := by omega
            rw [ei]
            generalize dV s (q + 1) k = n at *
            generalize hb' : bAt s q = b at *
            clear hb'
            have hw1 : IntKind.i64.wrap ((n : Int) * 128) = (n : Int) * 128 := by rw [IntKind.wrap_i64]; omega
            have hw2 : IntKind.i64.wrap ((n : Int) * 128 + (b : Int) % 128) = (n : Int) * 128 + (b : Int) % 128 := by rw [IntKind.wrap_i64]; omega
            go_wp2
            refine ⟨⟨q, by omega, rfl, ?_, trivial⟩, by simp [intOf]⟩
            rw [HS.out]
            go_num
          · have hj1 : j = 0 := by omega
            subst hj1
            rw [dV_zero]
            have hnn : bVal s k ≤ 562949953421311 := by
              have h1 := bVal_lt s k
              have h2 : 128 ^ k ≤ 128 ^ 7 := Nat.pow_le_pow_right (by decide) (by omega)
              omega
            have HNN := Lib.hid (rfl : bVal s k = bVal s k)
            revert HNN
            generalize hnv : bVal s k = n at hnn ⊢
            intro _
            have HNV := Lib.hid hnv; clear hnv
            have ik0 : (0 : Int) ≤ (k : Int) := by omega
            go_wp2
            refine wp_region_grow (by kernel_rfl) (by kernel_rfl) ?_
            repeat (first | go_big_quiet_step ((go_at_call 64; exact grow_of (var_spec _ _ (by omega)))))
            refine wpQuiet_nil ?_
            intro _ hw'
            obtain ⟨⟨w2, hb2⟩, hw''⟩ := hw'
            change _ = w2 at hw''
            subst hw''
            by_cases he : varS n = s.extract 0 k
            · obtain ⟨g1, g2⟩ := begins_of_extract (by omega) he
              have HR := Lib.hid (rvF_yes hnn g1)
              rw [g2] at HR
              clear g1 g2
              have g1 : ((varS n).toList == (s.extract 0 k).toList) = true := by rw [str_beq]; simpa using he
              clear he
              rw [g1]
              go_wp2
              go_returns
              rw [HR.out]
              exact ⟨by rfl, hb.trans (hb2.mono hb.size)⟩
            · have g1 : ((varS n).toList == (s.extract 0 k).toList) = false := by rw [str_beq]; simpa using he
              have HE := Lib.hid he; clear he
              rw [g1]
              go_wp2
              refine ⟨⟨k + 1, by omega, by omega, by go_num, fun j hj1 hj2 => ?_, hb.trans (hb2.mono hb.size)⟩, by simp [intOf]; omega⟩
              by_cases e : j = k
              · subst e
                rw [HNV.out]
                exact fun h => HE.out h.2
              · exact HN.out j hj1 (by omega)
      · have ikn : ¬ (k : Int) ≤ (s.size : Int) := by omega
        have HR := Lib.hid (show rvF s = (0, 0) from (HRN.out).resolve_left (by omega))
        go_wp2
        go_returns
        rw [HR.out]
        exact ⟨by rfl, hb⟩
    · have ik7 : ¬ (k : Int) ≤ 7 := by omega
      have HR := Lib.hid (show rvF s = (0, 0) from (HRN.out).resolve_left (by omega))
      go_wp2
      go_returns
      rw [HR.out]
      exact ⟨by rfl, hb⟩
end Go.Proofs.YtdphdnllhmnelaaGreat
/- The reader's state: contracts of num, cut, text, many. -/
namespace Go.Proofs.YtdphdnllhmnelaaGreat
open Go.RowKit
attribute [local irreducible] rvF

/-- a reader: what is left, and whether something was amiss -/
abbrev Sc := ByteArray × Bool
noncomputable def numF (x : Sc) : Nat × Sc := if x.2 = true ∨ (rvF x.1).2 = 0 then (0, (x.1, true)) else ((rvF x.1).1, (x.1.extract (rvF x.1).2 x.1.size, false))
noncomputable def cutF (x : Sc) (n : Nat) : ByteArray × Sc := if x.2 = true ∨ ¬ n ≤ x.1.size then (.empty, (x.1, true)) else (x.1.extract 0 n, (x.1.extract n x.1.size, false))
noncomputable def textF (x : Sc) : ByteArray × Sc := cutF (numF x).2 (numF x).1
noncomputable def manyF (x : Sc) (most : Nat) : Nat × Sc := if (numF x).2.2 = true ∨ most < (numF x).1 then (0, ((numF x).2.1, true)) else ((numF x).1, (numF x).2)
theorem numF_le (x : Sc) : (numF x).1 ≤ 562949953421311 ∧ (numF x).2.1.size ≤ x.1.size := by
  have h := rvF_size x.1
  unfold numF
  split
  · exact ⟨by omega, Nat.le_refl _⟩
  · refine ⟨h.2.2, ?_⟩
    show (x.1.extract _ _).size ≤ _
    rw [ByteArray.size_extract]; omega
theorem scn_one {w : World} {g o : Nat} {v : Value} : Ch (fun k => k = g) w (w.setCell ⟨g, o, none⟩ v) := (Ch.refl (S := fun k => k = g) w).setCell (p := ⟨g, o, none⟩) rfl v
structure Scn (w : World) (g : Nat) (x : Sc) : Prop where
  c0 : w.cell? ⟨g, 0, none⟩ = some (.string x.1)
  c1 : w.cell? ⟨g, 1, none⟩ = some (.bool x.2)
  f0 : w.frozen? ⟨g, 0, none⟩ = false
  f1 : w.frozen? ⟨g, 1, none⟩ = false
  sz : x.1.size ≤ 9223372036854775807
theorem Scn.lt {w : World} {g : Nat} {x : Sc} (h : Scn w g x) : g < w.heap.size := by
  have := World.block_lt_of_cell? w ⟨g, 0, none⟩ h.c0; simpa using this
theorem Scn.ch {S : Nat → Prop} {w w' : World} {g : Nat} {x : Sc} (h : Scn w g x) (hc : Ch S w w') (hS : ¬ S g) : Scn w' g x :=
  ⟨hc.cell h.c0 hS, hc.cell h.c1 hS, (World.frozen?_of_block (hc.block g h.lt hS)).trans h.f0, (World.frozen?_of_block (hc.block g h.lt hS)).trans h.f1, h.sz⟩
theorem Scn.keep {w w' : World} {g : Nat} {x : Sc} (h : Scn w g x) (hb : Below w.heap.size w w') : Scn w' g x := h.ch (S := fun _ => False) (Ch.of_below hb) (fun h => h)
theorem Scn.set0 {w : World} {g : Nat} {x : Sc} {t : ByteArray} (h : Scn w g x) (ht : t.size ≤ 9223372036854775807) : Scn (w.setCell ⟨g, 0, none⟩ (.string t)) g (t, x.2) :=
  ⟨sethere h.c0, setoff h.c1 (.inr (by omega)), (World.frozen?_setCell _ _ _ _).trans h.f0, (World.frozen?_setCell _ _ _ _).trans h.f1, ht⟩
theorem Scn.set1 {w : World} {g : Nat} {x : Sc} {b : Bool} (h : Scn w g x) : Scn (w.setCell ⟨g, 1, none⟩ (.bool b)) g (x.1, b) :=
  ⟨setoff h.c0 (.inr (by omega)), sethere h.c1, (World.frozen?_setCell _ _ _ _).trans h.f0, (World.frozen?_setCell _ _ _ _).trans h.f1, h.sz⟩

set_option maxRecDepth 4000 in
set_option maxHeartbeats 400000 in
theorem num_impl (g : Nat) (x : Sc) (w : World) (h : Scn w g x) :
    Calls Tryz.prog 53 #[.pointer (some ⟨g, 0, none⟩)] w fun e w' => e = .returned (.int .i64 ((numF x).1 : Int)) ∧ Scn w' g (numF x).2 ∧ Ch (fun k => k = g) w w' := by
  obtain ⟨s, q⟩ := x
  have hlt := h.lt
  have k0 := h.c0
  have hs := h.sz
  have hz := rvF_size s
  have hnm : numF (s, q) = if q = true ∨ (rvF s).2 = 0 then (0, (s, true)) else ((rvF s).1, (s.extract (rvF s).2 s.size, false)) := rfl
  have HNM := Lib.hid hnm; clear hnm
  go_enter Tryz.func53, Tryz.ntmps53
  go_wp2_with fail
  refine (readVar_impl _ _ hs).mono ?_
  rintro e w1 ⟨rfl, hb1⟩
  have h1 := h.keep hb1
  have k1 := h1.c1
  have k0' := h1.c0
  have f0 := h1.f0
  have f1 := h1.f1
  have HZ := Lib.hid hz; clear hz
  obtain ⟨n, m, hnm⟩ : ∃ n m, rvF s = (n, m) := ⟨_, _, rfl⟩
  rw [hnm] at HNM HZ ⊢
  cases q with
  | true =>
    go_wp2
    go_returns
    rw [HNM.out, if_pos (by simp)]
    exact ⟨rfl, h1.set1, (Ch.of_below hb1).trans scn_one⟩
  | false =>
    by_cases hm : m = 0
    · subst hm
      go_wp2
      go_returns
      rw [HNM.out, if_pos (by simp)]
      exact ⟨rfl, h1.set1, (Ch.of_below hb1).trans scn_one⟩
    · have hm0 : ¬ ((m : Int) = 0) := by omega
      have hml : m ≤ s.size := HZ.out.2.1
      go_wp2
      go_returns
      rw [HNM.out, if_neg (by simp; omega)]
      exact ⟨rfl, h1.set0 (x := (s, false)) (by rw [ByteArray.size_extract]; omega), (Ch.of_below hb1).trans scn_one⟩

set_option maxRecDepth 4000 in
set_option maxHeartbeats 400000 in
theorem cut_impl (g n : Nat) (x : Sc) (w : World) (h : Scn w g x) (hn : n ≤ 562949953421311) :
    Calls Tryz.prog 54 #[.pointer (some ⟨g, 0, none⟩), .int .i64 n] w fun e w' => e = .returned (.string (cutF x n).1) ∧ Scn w' g (cutF x n).2 ∧ Ch (fun k => k = g) w w' := by
  obtain ⟨s, q⟩ := x
  have hlt := h.lt
  have k0 := h.c0
  have k1 := h.c1
  have f0 := h.f0
  have f1 := h.f1
  have hs := h.sz
  have hnm : cutF (s, q) n = if q = true ∨ ¬ n ≤ s.size then (.empty, (s, true)) else (s.extract 0 n, (s.extract n s.size, false)) := rfl
  have HNM := Lib.hid hnm; clear hnm
  have hin : inB (n : Int) 0 (s.size : Int) = decide (n ≤ s.size) := by simp [inB]
  have HI := Lib.hid hin; clear hin
  go_enter Tryz.func54, Tryz.ntmps54
  cases q with
  | true =>
    go_wp2
    go_returns
    rw [HNM.out, if_pos (by simp)]
    exact ⟨rfl, h.set1, scn_one⟩
  | false =>
    by_cases hm : n ≤ s.size
    · have hml : (n : Int) ≤ (s.size : Int) := by omega
      go_wp2_with (go_at_call 36; refine (within_any _ _ _ _).mono ?_; rintro e w1 ⟨rfl, rfl⟩; rw [HI.out, decide_eq_true hm])
      go_returns
      rw [HNM.out, if_neg (by simp; omega)]
      exact ⟨rfl, h.set0 (x := (s, false)) (by rw [ByteArray.size_extract]; omega), scn_one⟩
    · go_wp2_with (go_at_call 36; refine (within_any _ _ _ _).mono ?_; rintro e w1 ⟨rfl, rfl⟩; rw [HI.out, decide_eq_false hm])
      go_returns
      rw [HNM.out, if_pos (.inr hm)]
      exact ⟨rfl, h.set1, scn_one⟩

theorem text_impl (g : Nat) (x : Sc) (w : World) (h : Scn w g x) :
    Calls Tryz.prog 55 #[.pointer (some ⟨g, 0, none⟩)] w fun e w' => e = .returned (.string (textF x).1) ∧ Scn w' g (textF x).2 ∧ Ch (fun k => k = g) w w' := by
  have hz := (numF_le x).1
  go_enter Tryz.func55, Tryz.ntmps55
  go_wp2_with (first | (go_at_call 53; refine (num_impl _ _ _ h).mono ?_; rintro e w1 ⟨rfl, h1, c1⟩) | (go_at_call 54; refine (cut_impl _ _ _ _ h1 hz).mono ?_; rintro e w2 ⟨rfl, h2, c2⟩))
  go_returns
  exact ⟨rfl, h2, c1.trans c2⟩

theorem many_impl (g most : Nat) (x : Sc) (w : World) (h : Scn w g x) (hm : most ≤ 1048576) :
    Calls Tryz.prog 57 #[.pointer (some ⟨g, 0, none⟩), .int .i64 most] w fun e w' => e = .returned (.int .i64 ((manyF x most).1 : Int)) ∧ Scn w' g (manyF x most).2 ∧ Ch (fun k => k = g) w w' := by
  have hz := (numF_le x).1
  have hnm : manyF x most = if (numF x).2.2 = true ∨ most < (numF x).1 then (0, ((numF x).2.1, true)) else ((numF x).1, (numF x).2) := rfl
  have HNM := Lib.hid hnm; clear hnm
  go_enter Tryz.func57, Tryz.ntmps57
  go_wp2_with fail
  refine (num_impl _ _ _ h).mono ?_
  rintro e w1 ⟨rfl, h1, c1⟩
  obtain ⟨n, s, q, hq⟩ : ∃ n s q, numF x = (n, s, q) := ⟨_, _, _, rfl⟩
  rw [hq] at HNM h1 hz ⊢
  have k1 := h1.c1
  have f1 := h1.f1
  by_cases hn : most < n
  · have hni : (most : Int) < (n : Int) := by omega
    have k1' := sethere (u := .bool true) k1
    go_wp2
    go_returns
    rw [HNM.out, if_pos (.inr hn)]
    exact ⟨rfl, h1.set1, c1.trans scn_one⟩
  · have hni : ¬ (most : Int) < (n : Int) := by omega
    cases q with
    | true =>
      go_wp2
      go_returns
      rw [HNM.out, if_pos (by simp)]
      exact ⟨rfl, h1, c1⟩
    | false =>
      go_wp2
      go_returns
      rw [HNM.out, if_neg (by simp; omega)]
      exact ⟨rfl, h1, c1⟩
end Go.Proofs.YtdphdnllhmnelaaGreat
/- Contracts of sized and l4Piece; sizes of texts put together. -/
namespace Go.Proofs.YtdphdnllhmnelaaGreat
open Go.RowKit

def joinTo (l : List ByteArray) : Nat → ByteArray
  | 0 => ByteArray.empty
  | k + 1 => joinTo l k ++ sAt l k
def joinS (l : List ByteArray) : ByteArray := joinTo l l.length
theorem joinTo_size (l : List ByteArray) : ∀ k, k ≤ l.length → (joinTo l k).size ≤ sumTo ByteArray.size l k
  | 0, _ => by simp [joinTo]
  | k + 1, h => by
    have ih := joinTo_size l k (by omega)
    have h1 := sumTo_succ ByteArray.size l k h
    have h2 : sAt l k = l[k] := by simp [sAt, show k < l.length from h]
    unfold joinTo
    rw [ByteArray.size_append, h2]
    omega
theorem joinTo_le {l : List ByteArray} {k m : Nat} (hk : k ≤ l.length) (hs : strsSz l ≤ m) : (joinTo l k).size ≤ m := by
  have := joinTo_size l k hk
  have := sumTo_le ByteArray.size l k
  unfold strsSz at hs; omega
theorem strs_el {l : List ByteArray} {m : Nat} (hs : strsSz l ≤ m) (i : Nat) : (sAt l i).size ≤ m := by
  rcases Nat.lt_or_ge i l.length with h | h
  · have e : sAt l i = l[i] := by simp [sAt, h]
    rw [e]
    have h1 := sumTo_succ ByteArray.size l i h
    have h2 := sumTo_le ByteArray.size l (i + 1)
    unfold strsSz at hs; omega
  · simp [sAt, h]
theorem varL_len (n : Nat) : (varL n).length ≤ n + 1 := by
  induction n using Nat.strongRecOn with
  | _ n ih =>
    by_cases h : n < 128
    · rw [varL_small h]; simp
    · rw [varL_big h]
      have := ih (n / 128) (by omega)
      simp; omega
theorem varS_size (n : Nat) : (varS n).size ≤ n + 1 := varL_len n

theorem sized_impl (s : ByteArray) (w : World) (hs : s.size ≤ 16777216) :
    Calls Tryz.prog 51 #[.string s] w fun e w' => e = .returned (.string (varS s.size ++ s)) ∧ Below w.heap.size w w' := by
  have hv := varS_size s.size
  go_enter Tryz.func51, Tryz.ntmps51
  go_wp2_with fail
  refine (var_impl _ _ (by omega)).mono ?_
  rintro e w1 ⟨rfl, hb⟩
  go_wp2
  go_returns
  exact ⟨rfl, hb⟩
theorem l4Piece_spec (s : ByteArray) (w : World) (hs : s.size ≤ 16777216) :
    Calls Tryz.prog 65 #[.string s] w fun e w' => e = .returned (.string (varS s.size ++ s)) ∧ Below w.heap.size w w' := by
  have hv := varS_size s.size
  go_enter Tryz.func65, Tryz.ntmps65
  go_wp2_with fail
  refine (var_spec _ _ (by omega)).mono ?_
  rintro e w1 ⟨rfl, hb⟩
  go_wp2
  go_returns
  exact ⟨rfl, hb⟩
end Go.Proofs.YtdphdnllhmnelaaGreat
/- Plain laws of reading: a text that is put together of pieces is cut again; what the reader's steps give on it. -/
namespace Go.Proofs.YtdphdnllhmnelaaGreat

theorem ext_left (a b : ByteArray) : (a ++ b).extract 0 a.size = a := by
  apply ByteArray.ext
  rw [ByteArray.data_extract, ByteArray.data_append]
  show (a.data ++ b.data).extract 0 a.data.size = a.data
  simp
theorem ext_right (a b : ByteArray) : (a ++ b).extract a.size (a ++ b).size = b := by
  rw [show (a ++ b).size = a.size + b.size from ByteArray.size_append, ByteArray.extract_append_eq_right rfl (by omega)]
theorem bAt_left {a b : ByteArray} {i : Nat} (h : i < a.size) : bAt (a ++ b) i = bAt a i := by
  unfold bAt
  rw [dif_pos (by rw [ByteArray.size_append]; omega), dif_pos h, ByteArray.getElem_append_left h]
theorem varS_sz (n : Nat) : (varS n).size = (varL n).length := by show (varL n).toArray.size = _; simp
theorem begins_var (n : Nat) (t : ByteArray) : Begins (varS n ++ t) (varL n) := by
  refine ⟨by rw [ByteArray.size_append, varS_sz]; omega, fun i hi => ?_⟩
  rw [bAt_left (by rw [varS_sz]; exact hi)]
  unfold bAt
  rw [dif_pos (by rw [varS_sz]; exact hi)]
  rfl
theorem rvF_var {n : Nat} (hn : n ≤ 562949953421311) (t : ByteArray) : rvF (varS n ++ t) = (n, (varS n).size) := by
  rw [rvF_yes hn (begins_var n t), varS_sz]
theorem varS_pos (n : Nat) : 0 < (varS n).size := by rw [varS_sz]; exact List.length_pos_iff.2 (varL_ne n)

/-- texts, one behind the other -/
def chL : List ByteArray → ByteArray
  | [] => .empty
  | c :: cs => c ++ chL cs
theorem chL_app (a b : List ByteArray) : chL (a ++ b) = chL a ++ chL b := by
  induction a with
  | nil => simp [chL]
  | cons x a ih => simp only [List.cons_append, chL, ih, ByteArray.append_assoc]
theorem joinTo_chL (l : List ByteArray) : ∀ k, k ≤ l.length → joinTo l k = chL (l.take k)
  | 0, _ => by simp [joinTo, chL]
  | k + 1, h => by
    have e : sAt l k = l[k]'(by omega) := by simp [sAt, show k < l.length by omega]
    rw [List.take_succ_eq_append_getElem (by omega), chL_app, ← joinTo_chL l k (by omega), joinTo, e]
    simp [chL]
theorem joinS_chL (l : List ByteArray) : joinS l = chL l := by unfold joinS; rw [joinTo_chL l _ (Nat.le_refl _), List.take_length]
theorem chL_drop {l : List ByteArray} {k : Nat} (h : k < l.length) : chL (l.drop k) = sAt l k ++ chL (l.drop (k + 1)) := by
  rw [show sAt l k = l[k] by simp [sAt, h], List.drop_eq_getElem_cons h]
  rfl

theorem numF_var {n : Nat} (hn : n ≤ 562949953421311) (t : ByteArray) : numF (varS n ++ t, false) = (n, (t, false)) := by
  have hp := varS_pos n
  have h : numF (varS n ++ t, false) = if false = true ∨ (rvF (varS n ++ t)).2 = 0 then (0, (varS n ++ t, true)) else ((rvF (varS n ++ t)).1, ((varS n ++ t).extract (rvF (varS n ++ t)).2 (varS n ++ t).size, false)) := rfl
  rw [h, rvF_var hn t, if_neg (fun h => h.elim (fun h => by cases h) (fun h => by replace h : (varS n).size = 0 := h; omega)), ext_right]
theorem cutF_app (a t : ByteArray) {n : Nat} (h : a.size = n) : cutF (a ++ t, false) n = (a, (t, false)) := by
  subst h
  have h : cutF (a ++ t, false) a.size = if false = true ∨ ¬ a.size ≤ (a ++ t).size then (.empty, (a ++ t, true)) else ((a ++ t).extract 0 a.size, ((a ++ t).extract a.size (a ++ t).size, false)) := rfl
  rw [h, if_neg (by rw [ByteArray.size_append]; simp), ext_left, ext_right]
theorem textF_app {p : ByteArray} (hp : p.size ≤ 562949953421311) (t : ByteArray) : textF (varS p.size ++ (p ++ t), false) = (p, (t, false)) := by
  unfold textF; rw [numF_var hp]; exact cutF_app p t rfl
theorem manyF_var {n most : Nat} (hn : n ≤ most) (hm : most ≤ 562949953421311) (t : ByteArray) : manyF (varS n ++ t, false) most = (n, (t, false)) := by
  unfold manyF; rw [numF_var (by omega), if_neg (by simp; omega)]
theorem cutF_cost (x : Sc) (n : Nat) : (cutF x n).1.size + (cutF x n).2.1.size ≤ x.1.size := by
  unfold cutF
  split
  · simp
  · show (x.1.extract 0 n).size + (x.1.extract n x.1.size).size ≤ _
    rw [ByteArray.size_extract, ByteArray.size_extract]; omega
theorem textF_cost (x : Sc) : (textF x).1.size + (textF x).2.1.size ≤ x.1.size := by
  unfold textF
  have h1 := cutF_cost (numF x).2 (numF x).1
  have h2 := (numF_le x).2
  omega
theorem manyF_le (x : Sc) (most : Nat) : (manyF x most).1 ≤ most ∧ (manyF x most).2.1.size ≤ x.1.size := by
  have h2 := (numF_le x).2
  unfold manyF
  split
  · exact ⟨Nat.zero_le _, h2⟩
  · exact ⟨by simp only; omega, h2⟩
theorem strsSz_snoc (l : List ByteArray) (c : ByteArray) : strsSz (l ++ [c]) = strsSz l + 1 + c.size := by
  unfold strsSz; simp; omega
theorem chL_size (l : List ByteArray) : (chL l).size = (l.map ByteArray.size).sum := by
  induction l with
  | nil => rfl
  | cons c l ih => simp only [chL, ByteArray.size_append, List.map_cons, List.sum_cons, ih]
end Go.Proofs.YtdphdnllhmnelaaGreat
/- Plain laws: the text of a command, and its being read back. -/
namespace Go.Proofs.YtdphdnllhmnelaaGreat
open Go.RowKit

theorem inB_le {x lo hi : Int} (h : inB x lo hi = true) : lo ≤ x ∧ x ≤ hi := by simpa [inB] using h
theorem wordB_size {s : ByteArray} (h : wordB s = true) : s.size ≤ 8 := by
  unfold wordB at h
  rw [Bool.and_eq_true] at h
  have := inB_le h.1
  omega
theorem wifB_size {s : ByteArray} {b : Bool} (h : wifB s b = true) : s.size ≤ 8 := by
  unfold wifB at h
  split at h
  · exact wordB_size h
  · have : s = ByteArray.empty := by simpa using h
    subst this; exact Nat.zero_le _
theorem ok8_at {l : List ByteArray} (h : ok8 l = true) {j : Nat} (hj : j < l.length) : (sAt l j).size = 8 := by
  unfold ok8 at h
  rw [List.all_eq_true] at h
  simpa using h j (List.mem_range.2 hj)
/-- the bounds of a right command -/
structure CmBd (x : Cm) : Prop where
  kd : 0 ≤ x.kd ∧ x.kd ≤ 7
  cl : 0 ≤ x.cl ∧ x.cl ≤ 9
  no : 0 ≤ x.no ∧ x.no ≤ 1000
  n : 0 ≤ x.n ∧ x.n ≤ 9
  s : x.s.size ≤ 8
  nm : x.nm.size ≤ 8
  tg : x.tg.size ≤ 8
  ch : x.ch.length ≤ 4
  c8 : ∀ j, j < x.ch.length → (sAt x.ch j).size = 8
theorem cmOk_bd {x : Cm} (h : cmOkB x = true) : CmBd x := by
  unfold cmOkB at h
  split at h
  · unfold sameB cmNil eqS at h
    simp only [Bool.and_eq_true, decide_eq_true_eq] at h
    obtain ⟨⟨⟨⟨⟨⟨⟨h1, h2⟩, h3⟩, h4⟩, h5⟩, h6⟩, h7⟩, h8⟩ := h
    refine ⟨by omega, by omega, by omega, by omega, by rw [h4]; exact Nat.zero_le _, by rw [h5]; exact Nat.zero_le _, by rw [h6]; exact Nat.zero_le _, by rw [h8]; exact Nat.zero_le _, fun j hj => ?_⟩
    rw [h8] at hj; cases hj
  · simp only [Bool.and_eq_true] at h
    obtain ⟨⟨⟨⟨⟨⟨⟨h1, h2⟩, h3⟩, h4⟩, h5⟩, h6⟩, h7⟩, h8⟩ := h
    have k1 := inB_le h1
    have k2 := inB_le h2
    have k3 := inB_le h3
    have hn : 0 ≤ x.n ∧ x.n ≤ 9 := by
      rw [Bool.or_eq_true] at h7
      rcases h7 with h7 | h7
      · have : x.n = 0 := by simpa using h7
        omega
      · rw [Bool.and_eq_true] at h7; exact inB_le h7.2
    split at h8
    · rw [Bool.and_eq_true] at h8
      have k8 := inB_le h8.1
      exact ⟨by omega, by omega, by omega, hn, wifB_size h4, wifB_size h5, wifB_size h6, by omega, fun j hj => ok8_at h8.2 hj⟩
    · have k8 : x.ch.length = 0 := by simpa using h8
      exact ⟨by omega, by omega, by omega, hn, wifB_size h4, wifB_size h5, wifB_size h6, by omega, fun j hj => by omega⟩
theorem cmBd_cmB {x : Cm} (h : CmBd x) : cmB x := by
  refine ⟨by have := h.s; omega, by have := h.nm; omega, by have := h.tg; omega, by have := h.ch; omega, fun y hy => ?_⟩
  obtain ⟨j, hj, rfl⟩ := List.getElem_of_mem hy
  have := h.c8 j hj
  rw [sAt_get hj] at this
  omega

def cmHd (x : Cm) : ByteArray := varS x.kd.toNat ++ varS x.cl.toNat ++ varS x.no.toNat ++ varS x.n.toNat ++ (varS x.s.size ++ x.s) ++ (varS x.nm.size ++ x.nm) ++ (varS x.tg.size ++ x.tg) ++ varS x.ch.length
def cmTo (x : Cm) : Nat → ByteArray
  | 0 => cmHd x
  | k + 1 => cmTo x k ++ sAt x.ch k
/-- a command as text -/
def cmText (x : Cm) : ByteArray := if cmOkB x = true then cmTo x x.ch.length else ByteArray.empty
theorem cmText_yes {x : Cm} (h : cmOkB x = true) : cmText x = cmTo x x.ch.length := by unfold cmText; rw [if_pos h]
theorem cmText_no {x : Cm} (h : cmOkB x = false) : cmText x = ByteArray.empty := by unfold cmText; rw [if_neg (by rw [h]; simp)]
theorem cmTo_chL (x : Cm) : ∀ k, k ≤ x.ch.length → cmTo x k = cmHd x ++ chL (x.ch.take k)
  | 0, _ => by simp [cmTo, chL]
  | k + 1, h => by
    have e : sAt x.ch k = x.ch[k]'(by omega) := by simp [sAt, show k < x.ch.length by omega]
    rw [List.take_succ_eq_append_getElem (by omega), chL_app, cmTo, cmTo_chL x k (by omega), e]
    simp [chL, ByteArray.append_assoc]
theorem cmText_chL {x : Cm} (h : cmOkB x = true) : cmText x = varS x.kd.toNat ++ (varS x.cl.toNat ++ (varS x.no.toNat ++ (varS x.n.toNat ++ (varS x.s.size ++ (x.s ++ (varS x.nm.size ++ (x.nm ++ (varS x.tg.size ++ (x.tg ++ (varS x.ch.length ++ chL x.ch)))))))))) := by
  rw [cmText_yes h, cmTo_chL x _ (Nat.le_refl _), List.take_length]
  unfold cmHd
  simp only [ByteArray.append_assoc]
theorem cmHd_size {x : Cm} (h : CmBd x) : (cmHd x).size ≤ 1100 := by
  obtain ⟨a, b, c, d, e, f, g, i, j⟩ := h
  have v1 := varS_size x.kd.toNat
  have v2 := varS_size x.cl.toNat
  have v3 := varS_size x.no.toNat
  have v4 := varS_size x.n.toNat
  have v5 := varS_size x.s.size
  have v6 := varS_size x.nm.size
  have v7 := varS_size x.tg.size
  have v8 := varS_size x.ch.length
  unfold cmHd
  simp only [ByteArray.size_append]
  omega
theorem cmTo_size {x : Cm} (h : CmBd x) : ∀ k, k ≤ x.ch.length → (cmTo x k).size ≤ 1100 + 8 * k
  | 0, _ => by have := cmHd_size h; unfold cmTo; omega
  | k + 1, hk => by
    have h1 := cmTo_size h k (by omega)
    have h2 := h.c8 k (by omega)
    unfold cmTo
    rw [ByteArray.size_append]; omega
theorem cmText_size (x : Cm) : (cmText x).size ≤ 1132 := by
  cases h : cmOkB x
  · rw [cmText_no h]; exact Nat.zero_le _
  · have h1 := cmOk_bd h
    have h2 := cmTo_size h1 _ (Nat.le_refl _)
    have h3 := h1.ch
    rw [cmText_yes h]; omega
theorem cmText_ne {x : Cm} (h : cmOkB x = true) : cmText x ≠ ByteArray.empty := by
  intro e
  have h1 := congrArg ByteArray.size e
  rw [cmText_chL h, ByteArray.size_append] at h1
  have h2 := varS_pos x.kd.toNat
  have h3 : ByteArray.empty.size = 0 := rfl
  omega
/-- what the reader's steps give on the text of a right command -/
theorem cm_parse {x : Cm} (h : cmOkB x = true) : ∃ r1 r2 r3 r4 r5 r6 r7, numF (cmText x, false) = (x.kd.toNat, (r1, false)) ∧ numF (r1, false) = (x.cl.toNat, (r2, false)) ∧ numF (r2, false) = (x.no.toNat, (r3, false)) ∧ numF (r3, false) = (x.n.toNat, (r4, false)) ∧
    textF (r4, false) = (x.s, (r5, false)) ∧ textF (r5, false) = (x.nm, (r6, false)) ∧ textF (r6, false) = (x.tg, (r7, false)) ∧ numF (r7, false) = (x.ch.length, (chL x.ch, false)) := by
  have hb := cmOk_bd h
  have a := hb.kd; have b := hb.cl; have c := hb.no; have d := hb.n; have e := hb.s; have f := hb.nm; have g := hb.tg; have i := hb.ch
  rw [cmText_chL h]
  exact ⟨_, _, _, _, _, _, _, numF_var (by omega) _, numF_var (by omega) _, numF_var (by omega) _, numF_var (by omega) _, textF_app (by omega) _, textF_app (by omega) _, textF_app (by omega) _, numF_var (by omega) _⟩
theorem chL_cut {l : List ByteArray} {k : Nat} (hk : k < l.length) (h8 : (sAt l k).size = 8) : cutF (chL (l.drop k), false) 8 = (sAt l k, (chL (l.drop (k + 1)), false)) := by
  rw [chL_drop hk]; exact cutF_app _ _ h8
/-- what is read so far agrees with whatever command the text is the text of: the numbers and texts -/
def CmJ (s : ByteArray) (kd cl no n : Nat) (a b t : ByteArray) (m : Nat) (cs : List ByteArray) (x : Sc) : Prop :=
  ∀ c, cmOkB c = true → cmText c = s → c.kd = kd ∧ c.cl = cl ∧ c.no = no ∧ c.n = n ∧ c.s = a ∧ c.nm = b ∧ c.tg = t ∧ m = c.ch.length ∧ cs = c.ch.take cs.length ∧ cs.length ≤ c.ch.length ∧ x = (chL (c.ch.drop cs.length), false)
theorem CmJ.start {s : ByteArray} {x1 x2 x3 x4 x8 : Nat × Sc} {x5 x6 x7 : ByteArray × Sc} (f1 : numF (s, false) = x1) (f2 : numF x1.2 = x2) (f3 : numF x2.2 = x3) (f4 : numF x3.2 = x4) (f5 : textF x4.2 = x5) (f6 : textF x5.2 = x6) (f7 : textF x6.2 = x7) (f8 : numF x7.2 = x8) :
    CmJ s x1.1 x2.1 x3.1 x4.1 x5.1 x6.1 x7.1 x8.1 [] x8.2 := by
  intro c hc hs
  obtain ⟨r1, r2, r3, r4, r5, r6, r7, e1, e2, e3, e4, e5, e6, e7, e8⟩ := cm_parse hc
  rw [hs] at e1
  have hb := cmOk_bd hc
  rw [e1] at f1; subst f1; simp only at f2
  rw [e2] at f2; subst f2; simp only at f3
  rw [e3] at f3; subst f3; simp only at f4
  rw [e4] at f4; subst f4; simp only at f5
  rw [e5] at f5; subst f5; simp only at f6
  rw [e6] at f6; subst f6; simp only at f7
  rw [e7] at f7; subst f7; simp only at f8
  rw [e8] at f8; subst f8
  have a := hb.kd; have b := hb.cl; have c1 := hb.no; have d := hb.n
  exact ⟨by simp only; omega, by simp only; omega, by simp only; omega, by simp only; omega, rfl, rfl, rfl, rfl, by simp, by simp, by simp⟩
theorem CmJ.step {s : ByteArray} {kd cl no n : Nat} {a b t : ByteArray} {m : Nat} {cs : List ByteArray} {x : Sc} (h : CmJ s kd cl no n a b t m cs x) (hm : cs.length < m) : CmJ s kd cl no n a b t m (cs ++ [(cutF x 8).1]) (cutF x 8).2 := by
  intro c hc hs
  obtain ⟨h1, h2, h3, h4, h5, h6, h7, h8, h9, h10, h11⟩ := h c hc hs
  have hk : cs.length < c.ch.length := by omega
  have e := chL_cut hk ((cmOk_bd hc).c8 _ hk)
  rw [h11, e]
  refine ⟨h1, h2, h3, h4, h5, h6, h7, h8, ?_, by rw [List.length_append]; simp only [List.length_cons, List.length_nil]; omega, by rw [List.length_append]; rfl⟩
  rw [List.length_append, List.length_singleton, List.take_succ_eq_append_getElem hk, ← h9, sAt_get hk]
theorem CmJ.end_ {s : ByteArray} {kd cl no n : Nat} {a b t : ByteArray} {m : Nat} {cs : List ByteArray} {x : Sc} (h : CmJ s kd cl no n a b t m cs x) (hm : m ≤ cs.length ∨ 4 < m) : ∀ c, cmOkB c = true → cmText c = s → c = ⟨kd, cl, no, a, b, t, n, cs⟩ ∧ x.2 = false := by
  intro c hc hs
  obtain ⟨h1, h2, h3, h4, h5, h6, h7, h8, h9, h10, h11⟩ := h c hc hs
  have hb := (cmOk_bd hc).ch
  have hl : cs.length = c.ch.length := by omega
  rw [hl, List.take_length] at h9
  refine ⟨?_, by rw [h11]⟩
  rw [← h1, ← h2, ← h3, ← h4, ← h5, ← h6, ← h7, h9]

open Classical in
noncomputable def rdCm (s : ByteArray) : Cm := if h : ∃ c, cmOkB c = true ∧ cmText c = s then Classical.choose h else cmNil
open Classical in
noncomputable def rdCmB (s : ByteArray) : Bool := if ∃ c, cmOkB c = true ∧ cmText c = s then true else false
theorem cmText_inj {c c' : Cm} (h : cmOkB c = true) (h' : cmOkB c' = true) (e : cmText c = cmText c') : c = c' := by
  have key : ∀ d : Cm, cmOkB d = true → cmText d = cmText c → ∀ k, k ≤ d.ch.length → ∃ cs x, cs.length = k ∧ CmJ (cmText c) (numF (cmText c, false)).1 (numF (numF (cmText c, false)).2).1 (numF (numF (numF (cmText c, false)).2).2).1 (numF (numF (numF (numF (cmText c, false)).2).2).2).1 (textF (numF (numF (numF (numF (cmText c, false)).2).2).2).2).1 (textF (textF (numF (numF (numF (numF (cmText c, false)).2).2).2).2).2).1 (textF (textF (textF (numF (numF (numF (numF (cmText c, false)).2).2).2).2).2).2).1 (numF (textF (textF (textF (numF (numF (numF (numF (cmText c, false)).2).2).2).2).2).2).2).1 cs x := by
    intro d hd hs k
    induction k with
    | zero => intro _; exact ⟨[], _, rfl, CmJ.start rfl rfl rfl rfl rfl rfl rfl rfl⟩
    | succ k ih =>
      intro hk
      obtain ⟨cs, x, hl, hj⟩ := ih (by omega)
      obtain ⟨_, _, _, _, _, _, _, h8, _⟩ := hj d hd hs
      exact ⟨_, _, by rw [List.length_append, hl]; rfl, hj.step (by omega)⟩
  obtain ⟨cs, x, hl, hj⟩ := key c h rfl _ (Nat.le_refl _)
  obtain ⟨_, _, _, _, _, _, _, h8, _⟩ := hj c h rfl
  have e1 := (hj.end_ (.inl (by omega)) c h rfl).1
  have e2 := (hj.end_ (.inl (by omega)) c' h' e.symm).1
  rw [e1, e2]
theorem rdCm_yes {s : ByteArray} {c : Cm} (h1 : cmOkB c = true) (h2 : cmText c = s) : rdCm s = c ∧ rdCmB s = true := by
  have h : ∃ c, cmOkB c = true ∧ cmText c = s := ⟨c, h1, h2⟩
  refine ⟨?_, by unfold rdCmB; rw [if_pos h]⟩
  unfold rdCm
  rw [dif_pos h]
  have hc := Classical.choose_spec h
  exact cmText_inj hc.1 h1 (hc.2.trans h2.symm)
theorem rdCm_no {s : ByteArray} (h : ∀ c, cmOkB c = true → cmText c = s → False) : rdCm s = cmNil ∧ rdCmB s = false := by
  have h' : ¬ ∃ c, cmOkB c = true ∧ cmText c = s := fun ⟨c, h1, h2⟩ => h c h1 h2
  exact ⟨by unfold rdCm; rw [dif_neg h'], by unfold rdCmB; rw [if_neg h']⟩
theorem cmNil_ok : cmOkB cmNil = true := by
  unfold cmOkB sameB eqS cmNil
  simp
theorem rdCm_ok (s : ByteArray) : cmOkB (rdCm s) = true := by
  by_cases h : ∃ c, cmOkB c = true ∧ cmText c = s
  · obtain ⟨c, h1, h2⟩ := h
    rw [(rdCm_yes h1 h2).1]; exact h1
  · rw [(rdCm_no (fun c h1 h2 => h ⟨c, h1, h2⟩)).1]; exact cmNil_ok
end Go.Proofs.YtdphdnllhmnelaaGreat
/- Plain laws on a catalog: its bounds; what a command makes of it. -/
namespace Go.Proofs.YtdphdnllhmnelaaGreat
open Go.RowKit
theorem all_at {n : Nat} {p : Nat → Bool} (h : (List.range n).all p = true) {k : Nat} (hk : k < n) : p k = true := by
  rw [List.all_eq_true] at h
  exact h k (List.mem_range.2 hk)
theorem tagB_size {t : ByteArray} (h : tagB t = true) : t.size ≤ 8 := by
  unfold tagB at h
  simp only [Bool.or_eq_true, decide_eq_true_eq] at h
  rcases h with rfl | h
  · exact Nat.zero_le _
  · exact wordB_size h
theorem snpOk_bd {p : Snp} (h : snpOkB p = true) : p.nm.size ≤ 8 ∧ p.tg.size ≤ 8 ∧ p.ch.length ≤ 4 := by
  unfold snpOkB at h
  simp only [Bool.and_eq_true] at h
  obtain ⟨⟨⟨h1, h2⟩, h3⟩, _⟩ := h
  have := inB_le h3
  exact ⟨wordB_size h1, tagB_size h2, by omega⟩
theorem cstOk_bd {s : Cst} (h : cstOkB s = true) : s.nm.size ≤ 8 ∧ s.snaps.length ≤ 5 ∧ ∀ p ∈ s.snaps, p.nm.size ≤ 8 ∧ p.tg.size ≤ 8 ∧ p.ch.length ≤ 4 := by
  unfold cstOkB at h
  simp only [Bool.and_eq_true, decide_eq_true_eq] at h
  obtain ⟨⟨h1, h2⟩, h3⟩ := h
  refine ⟨wordB_size h2, h3, fun p hp => ?_⟩
  obtain ⟨k, hk, rfl⟩ := List.getElem_of_mem hp
  unfold snpsOkB at h1
  have := all_at h1 hk
  unfold snpAtB at this
  rw [Bool.and_eq_true] at this
  have e := snpAt_of (List.getElem?_eq_getElem hk)
  rw [e] at this
  exact snpOk_bd this.1
theorem catOk_bd {x : Ctl} (h : catOkB x = true) : x.sets.length ≤ 5 ∧ ∀ s ∈ x.sets, s.nm.size ≤ 8 ∧ s.snaps.length ≤ 5 ∧ ∀ p ∈ s.snaps, p.nm.size ≤ 8 ∧ p.tg.size ≤ 8 ∧ p.ch.length ≤ 4 := by
  unfold catOkB at h
  rw [Bool.and_eq_true, decide_eq_true_eq] at h
  refine ⟨h.2, fun s hs => ?_⟩
  obtain ⟨k, hk, rfl⟩ := List.getElem_of_mem hs
  have := all_at h.1 hk
  unfold cstAtB at this
  rw [Bool.and_eq_true] at this
  have e := cstAt_of (List.getElem?_eq_getElem hk)
  rw [e] at this
  exact cstOk_bd this.1
/-- what a command makes of the set at k -/
def setDo (s : Cst) (m : Cm) : Cst × ByteArray :=
  if m.kd = 3 then (if 0 ≤ snpFnd s.snaps 0 m.nm then (s, exT) else if s.snaps.length = 5 then (s, fuT) else (comS s m, okT))
  else if m.kd = 4 then (if snpFnd s.snaps 0 m.nm < 0 then (s, noT) else (tagS s m (snpFnd s.snaps 0 m.nm).toNat, okT))
  else if m.kd = 5 then (⟨s.nm, pruL s.snaps (goneN s.snaps m.n.toNat)⟩, dgT (goneN s.snaps m.n.toNat))
  else (s, spTo (s.snaps.map tdT) s.snaps.length)
/-- what a command makes of a catalog -/
def catDo (x : Ctl) (m : Cm) : Ctl × ByteArray :=
  if catOkB x = false then (⟨[]⟩, ByteArray.empty) else if cmOkB m = false then (x, ByteArray.empty) else if m.kd = 0 then (x, ByteArray.empty)
  else if m.kd = 1 then (if 0 ≤ cstFnd x.sets 0 m.s then (x, exT) else if x.sets.length = 5 then (x, fuT) else (⟨insS x.sets m.s⟩, okT))
  else if m.kd = 7 then (x, spTo (x.sets.map Cst.nm) x.sets.length)
  else if cstFnd x.sets 0 m.s < 0 then (x, noT)
  else if m.kd = 2 then (⟨x.sets.take (cstFnd x.sets 0 m.s).toNat ++ x.sets.drop ((cstFnd x.sets 0 m.s).toNat + 1)⟩, okT)
  else (⟨x.sets.set (cstFnd x.sets 0 m.s).toNat (setDo (cstAt x.sets (cstFnd x.sets 0 m.s).toNat) m).1⟩, (setDo (cstAt x.sets (cstFnd x.sets 0 m.s).toNat) m).2)
end Go.Proofs.YtdphdnllhmnelaaGreat
