/- Contracts and lemmas: ReadVar, Scan. -/
import Derived.Test.YtdphdnllhmnelaaGreatJ1
import Derived.Test.YtdphdnllhmnelaaGreatJ2
import Derived.BigQuiet
import Derived.Deep.QuietTactic
/- Contracts of ReadVar, the program's and the reference's. -/
namespace Go.Proofs.YtdphdnllhmnelaaGreat
open Go.RowKit
attribute [local irreducible] rvF

theorem and127 {b : Nat} (h : b < 256) : bits .and .u8 (b : Int) 127 = ((b % 128 : Nat) : Int) := by
  have e1 : (BitVec.ofInt 8 (b : Int)).toNat = b := by rw [BitVec.ofInt_natCast, BitVec.toNat_ofNat]; exact Nat.mod_eq_of_lt (by omega)
  have e2 : (BitVec.ofInt 8 127).toNat = 127 := by decide
  have hx : b &&& 127 = b % 128 := Nat.and_two_pow_sub_one_eq_mod b 7
  show IntKind.u8.wrap ((BitVec.ofInt 8 (b : Int) &&& BitVec.ofInt 8 127).toNat : Int) = _
  rw [BitVec.toNat_and, e1, e2, hx]
  have : b % 128 < 256 := by omega
  simp [IntKind.wrap, IntKind.bits, IntKind.signed]
  omega
theorem or_put {n x k : Nat} (hn : n < 128 ^ k) (hx : x < 128) (hk : k ≤ 6) : bits .or .i64 (n : Int) ((x * 128 ^ k : Nat) : Int) = ((n + x * 128 ^ k : Nat) : Int) := by
  have hp : 128 ^ k ≤ 128 ^ 6 := Nat.pow_le_pow_right (by decide) hk
  have h1 : x * 128 ^ k ≤ 127 * 128 ^ k := Nat.mul_le_mul_right _ (by omega)
  have e : (128 : Nat) ^ k = 2 ^ (7 * k) := by rw [Nat.pow_mul]
  have a1 : (BitVec.ofInt 64 (n : Int)).toNat = n := by rw [BitVec.ofInt_natCast, BitVec.toNat_ofNat]; exact Nat.mod_eq_of_lt (by omega)
  have a2 : (BitVec.ofInt 64 ((x * 128 ^ k : Nat) : Int)).toNat = x * 128 ^ k := by rw [BitVec.ofInt_natCast, BitVec.toNat_ofNat]; exact Nat.mod_eq_of_lt (by omega)
  have ho : n ||| x * 128 ^ k = n + x * 128 ^ k := by
    rw [e] at hn ⊢
    have := Nat.two_pow_add_eq_or_of_lt (i := 7 * k) (b := n) hn x
    rw [Nat.or_comm, Nat.mul_comm x, ← this]; omega
  show IntKind.i64.wrap ((BitVec.ofInt 64 (n : Int) ||| BitVec.ofInt 64 ((x * 128 ^ k : Nat) : Int)).toNat : Int) = _
  rw [BitVec.toNat_or, a1, a2, ho, IntKind.wrap_i64]
  omega

set_option maxRecDepth 4000 in
set_option maxHeartbeats 1000000 in
theorem readVar_impl (s : ByteArray) (w : World) (hs : s.size ≤ 9223372036854775807) :
    Calls Tryz.prog 94 #[.string s] w fun e w' => e = .returned (.tuple #[.int .i64 ((rvF s).1 : Int), .int .i64 ((rvF s).2 : Int)]) ∧ Below w.heap.size w w' := by
  go_enter Tryz.func94, Tryz.ntmps94
  go_wp2
  go_loop [4, 5] (fun n i => ∃ k : Nat, k ≤ 7 ∧ k ≤ s.size ∧ i = .int .i64 k ∧ n = .int .i64 ((bVal s k : Nat) : Int) ∧ ∀ j, j < k → 128 ≤ bAt s j) (fun _ i => 7 - (intOf i).toNat)
  case atStart => exact ⟨0, by omega, by omega, rfl, rfl, fun j hj => absurd hj (by omega)⟩
  case round =>
    obtain ⟨k, hk7, hks, rfl, rfl, hhi⟩ := hrel
    have HH := Lib.hid hhi; clear hhi
    have hlt := bVal_lt s k
    have HL := Lib.hid hlt; clear hlt
    by_cases hin : k < s.size
    · by_cases hk : k < 7
      · have ik : (k : Int) < (s.size : Int) := by omega
        have ik7 : (k : Int) < 7 := by omega
        have b0 := bAt_get hin
        have l0 := bAt_lt s k
        have HS := Lib.hid (show bVal s (k + 1) = bVal s k + bAt s k % 128 * 128 ^ k from rfl)
        have ha := and127 l0
        have h7 : IntKind.i64.wrap (7 * (k : Int)) = 7 * (k : Int) := by rw [IntKind.wrap_i64]; omega
        have h7p : (0 : Int) ≤ 7 * (k : Int) := by omega
        have hor : bits .or .i64 ((bVal s k : Nat) : Int) (wrap64 ((bAt s k : Int) % 128 * 2 ^ (7 * k))) = ((bVal s (k + 1) : Nat) : Int) := by
          have e : ((bAt s k : Int) % 128 * 2 ^ (7 * k)) = ((bAt s k % 128 * 128 ^ k : Nat) : Int) := by
            rw [Int.natCast_mul, Int.natCast_pow, show (2 : Int) ^ (7 * k) = ((128 : Nat) : Int) ^ k by rw [Int.pow_mul]; rfl]
            rfl
          have hm : bAt s k % 128 * 128 ^ k ≤ 127 * 128 ^ 6 := Nat.mul_le_mul (by omega) (Nat.pow_le_pow_right (by decide) (by omega))
          rw [e, show wrap64 ((bAt s k % 128 * 128 ^ k : Nat) : Int) = ((bAt s k % 128 * 128 ^ k : Nat) : Int) by unfold wrap64; omega, or_put HL.out (by omega) (by omega), HS.out]
        have hnn : bVal s (k + 1) ≤ 562949953421311 := by
          have h1 := bVal_lt s (k + 1)
          have h2 : 128 ^ (k + 1) ≤ 128 ^ 7 := Nat.pow_le_pow_right (by decide) (by omega)
          omega
        have HOR := Lib.hid hor; clear hor
        by_cases hlo : bAt s k < 128
        · -- the last byte
          have HLO := Lib.hid hlo
          have hk1 : (k : Int) + 1 ≤ (s.size : Int) := by omega
          have hk1n : ((k : Int) + 1).toNat = k + 1 := by omega
          have hbi : ((bAt s k : Nat) : Int) < 128 := by omega
          generalize hb : bAt s k = b at *
          have HB := Lib.hid hb; clear hb
          clear hlo
          generalize hnv : bVal s (k + 1) = n at *
          have HNN := Lib.hid hnv; clear hnv
          go_wp2
          rw [HOR.out]
          refine wp_region_grow (by kernel_rfl) (by kernel_rfl) ?_
          repeat (first | go_big_quiet_step ((go_at_call 50; exact grow_of (var_impl _ _ (by omega)))))
          refine wpQuiet_nil ?_
          intro _ hw'
          obtain ⟨⟨w2, hb2⟩, hw''⟩ := hw'
          change _ = w2 at hw''
          subst hw''
          by_cases he : varS n = s.extract 0 (k + 1)
          · obtain ⟨g1, g2⟩ := begins_of_extract (by omega) he
            have HR := Lib.hid (rvF_yes hnn g1)
            rw [g2] at HR
            clear g1 g2
            have g1 : (!((varS n).toList == (s.extract 0 (k + 1)).toList)) = false := by rw [str_beq]; simpa using he
            clear he
            rw [g1]
            go_wp2
            go_returns
            rw [HR.out]
            exact ⟨by rfl, hb2⟩
          · have HR := Lib.hid (show rvF s = (0, 0) from rvF_no (fun m hm hbm => by
              have hp : 0 < (varL m).length := List.length_pos_iff.2 (varL_ne m)
              have hlen : (varL m).length = k + 1 := by
                rcases Nat.lt_trichotomy (varL m).length (k + 1) with h | h | h
                · have h1 := begins_lo hbm
                  have h2 := HH.out ((varL m).length - 1) (by omega)
                  omega
                · exact h
                · have h1 := begins_hi hbm (i := k) (by omega)
                  have := HLO.out
                  rw [HB.out] at h1
                  omega
              have hv := begins_val hbm
              rw [hlen] at hv
              apply he
              have := extract_of_begins hbm
              rw [hlen] at this
              rw [← this]
              exact congrArg varS (by rw [← hv]; exact HNN.out.symm)))
            have g1 : (!((varS n).toList == (s.extract 0 (k + 1)).toList)) = true := by rw [str_beq]; simpa using he
            clear he
            rw [g1]
            go_wp2
            go_returns
            rw [HR.out]
            exact ⟨by rfl, hb2⟩
        · have hbi : ¬ ((bAt s k : Nat) : Int) < 128 := by omega
          have HLO := Lib.hid hlo
          generalize hb : bAt s k = b at *
          have HB := Lib.hid hb; clear hb
          clear hlo
          go_wp2
          rw [HOR.out]
          refine ⟨⟨k + 1, by omega, by omega, by go_num, rfl, fun j hj => ?_⟩, by simp [intOf]; omega⟩
          by_cases e : j = k
          · subst e; have := HLO.out; have := HB.out; omega
          · exact HH.out j (by omega)
      · have hk0 : k = 7 := by omega
        subst hk0
        have ik : ((7 : Nat) : Int) < (s.size : Int) := by omega
        have HR := Lib.hid (show rvF s = (0, 0) from rvF_no (fun m hm hbm => by
          have hp : 0 < (varL m).length := List.length_pos_iff.2 (varL_ne m)
          have h7 := varL_len7 hm
          have h1 := begins_lo hbm
          have h2 := HH.out ((varL m).length - 1) (by omega)
          omega))
        go_wp2
        go_returns
        rw [HR.out]
        exact ⟨by rfl, Below.refl _ _⟩
    · have hk0 : k = s.size := by omega
      have ik : ¬ (k : Int) < (s.size : Int) := by omega
      have HR := Lib.hid (show rvF s = (0, 0) from rvF_no (fun m hm hbm => by
        have hp : 0 < (varL m).length := List.length_pos_iff.2 (varL_ne m)
        have h7 := hbm.1
        have h1 := begins_lo hbm
        have h2 := HH.out ((varL m).length - 1) (by omega)
        omega))
      clear hk0
      go_wp2
      go_returns
      rw [HR.out]
      exact ⟨by rfl, Below.refl _ _⟩

/-- the value of the bytes from j up to k, the least first -/
def dF (s : ByteArray) (j : Nat) : Nat → Nat
  | 0 => 0
  | d + 1 => bAt s j % 128 + 128 * dF s (j + 1) d
def dV (s : ByteArray) (j k : Nat) : Nat := dF s j (k - j)
theorem dV_top (s : ByteArray) (k : Nat) : dV s k k = 0 := by simp [dV, dF]
theorem dV_step (s : ByteArray) (q k : Nat) (h : q < k) : dV s q k = bAt s q % 128 + 128 * dV s (q + 1) k := by
  unfold dV
  rw [show k - q = (k - (q + 1)) + 1 by omega]
  rfl
theorem dF_lt (s : ByteArray) : ∀ (d j : Nat), dF s j d < 128 ^ d
  | 0, _ => by simp [dF]
  | d + 1, j => by
    have h := dF_lt s d (j + 1)
    unfold dF
    rw [Nat.pow_succ]
    omega
theorem dV_lt (s : ByteArray) (j k : Nat) (h : k ≤ 6 + j) : dV s j k ≤ 4398046511103 := by
  have h1 := dF_lt s (k - j) j
  have h2 : 128 ^ (k - j) ≤ 128 ^ 6 := Nat.pow_le_pow_right (by decide) (by omega)
  unfold dV
  omega
theorem bVal_dF (s : ByteArray) : ∀ (d k : Nat), bVal s (k + d) = bVal s k + 128 ^ k * dF s k d
  | 0, k => by simp [dF]
  | d + 1, k => by
    rw [show k + (d + 1) = k + 1 + d by omega, bVal_dF s d (k + 1)]
    simp only [bVal, dF]
    rw [Nat.pow_succ, Nat.mul_add, ← Nat.mul_assoc, Nat.mul_comm (bAt s k % 128)]
    omega
theorem dV_zero (s : ByteArray) (k : Nat) : dV s 0 k = bVal s k := by
  have := bVal_dF s k 0
  simp only [Nat.zero_add, bVal, Nat.pow_zero, Nat.one_mul] at this
  rw [this]
  rfl
set_option maxRecDepth 4000 in
set_option maxHeartbeats 1000000 in
theorem readVar_spec (s : ByteArray) (w : World) (hs : s.size ≤ 9223372036854775807) :
    Calls Tryz.prog 97 #[.string s] w fun e w' => e = .returned (.tuple #[.int .i64 ((rvF s).1 : Int), .int .i64 ((rvF s).2 : Int)]) ∧ Below w.heap.size w w' := by
  go_enter Tryz.func97, Tryz.ntmps97
  go_wp2
  go_loopw [4] (fun i wr => ∃ k : Nat, 1 ≤ k ∧ k ≤ 8 ∧ i = .int .i64 k ∧ (∀ j, 1 ≤ j → j < k → ¬ (j ≤ s.size ∧ varS (bVal s j) = s.extract 0 j)) ∧ Below w.heap.size w wr) (fun i _ => 8 - (intOf i).toNat)
  case atStart => exact ⟨1, by omega, by omega, rfl, fun j hj hj2 => absurd hj2 (by omega), Below.refl _ _⟩
  case round =>
    obtain ⟨k, hk1, hk8, rfl, hno, hb⟩ := hrel
    have HN := Lib.hid hno; clear hno
    have HR0 : k ≤ 7 ∧ k ≤ s.size ∨ rvF s = (0, 0) := by
      by_cases h : k ≤ 7 ∧ k ≤ s.size
      · exact .inl h
      · refine .inr (rvF_no fun m hm hbm => ?_)
        have hp : 0 < (varL m).length := List.length_pos_iff.2 (varL_ne m)
        have h7 := varL_len7 hm
        have h1 := hbm.1
        have hv := begins_val hbm
        exact HN.out _ hp (by omega) ⟨h1, by rw [hv]; exact extract_of_begins hbm⟩
    have HRN := Lib.hid HR0; clear HR0
    by_cases hk7 : k ≤ 7
    · have ik7 : (k : Int) ≤ 7 := by omega
      by_cases hin : k ≤ s.size
      · have ikn : (k : Int) ≤ (s.size : Int) := by omega
        go_wp2
        go_loopw [6, 5] (fun i n w2 => ∃ j : Nat, j ≤ k ∧ i = .int .i64 ((j : Int) - 1) ∧ n = .int .i64 ((dV s j k : Nat) : Int) ∧ w2 = wr) (fun i _ _ => (intOf i + 1).toNat)
        case atStart => exact ⟨k, Nat.le_refl _, rfl, by rw [dV_top]; rfl, rfl⟩
        case round =>
          obtain ⟨j, hj, rfl, rfl, rfl⟩ := hrel
          by_cases hj0 : 0 < j
          · obtain ⟨q, rfl⟩ : ∃ q, j = q + 1 := ⟨j - 1, by omega⟩
            have hqs : q < s.size := by omega
            have iq : (q : Int) < (s.size : Int) := by omega
            have iq0 : (0 : Int) ≤ (q : Int) := by omega
            have b0 := bAt_get hqs
            have l0 := bAt_lt s q
            have hd := dV_lt s (q + 1) k (by omega)
            have HS := Lib.hid (dV_step s q k (by omega))
            have ei : (((q + 1 : Nat) : Int) - 1) = (q : Int) := by omega
            rw [ei]
            generalize dV s (q + 1) k = n at *
            generalize hb' : bAt s q = b at *
            clear hb'
            have hw1 : IntKind.i64.wrap ((n : Int) * 128) = (n : Int) * 128 := by rw [IntKind.wrap_i64]; omega
            have hw2 : IntKind.i64.wrap ((n : Int) * 128 + (b : Int) % 128) = (n : Int) * 128 + (b : Int) % 128 := by rw [IntKind.wrap_i64]; omega
            go_wp2
            refine ⟨⟨q, by omega, rfl, ?_, trivial⟩, by simp [intOf]⟩
            rw [HS.out]
            go_num
          · have hj1 : j = 0 := by omega
            subst hj1
            rw [dV_zero]
            have hnn : bVal s k ≤ 562949953421311 := by
              have h1 := bVal_lt s k
              have h2 : 128 ^ k ≤ 128 ^ 7 := Nat.pow_le_pow_right (by decide) (by omega)
              omega
            have HNN := Lib.hid (rfl : bVal s k = bVal s k)
            revert HNN
            generalize hnv : bVal s k = n at hnn ⊢
            intro _
            have HNV := Lib.hid hnv; clear hnv
            have ik0 : (0 : Int) ≤ (k : Int) := by omega
            go_wp2
            refine wp_region_grow (by kernel_rfl) (by kernel_rfl) ?_
            repeat (first | go_big_quiet_step ((go_at_call 64; exact grow_of (var_spec _ _ (by omega)))))
            refine wpQuiet_nil ?_
            intro _ hw'
            obtain ⟨⟨w2, hb2⟩, hw''⟩ := hw'
            change _ = w2 at hw''
            subst hw''
            by_cases he : varS n = s.extract 0 k
            · obtain ⟨g1, g2⟩ := begins_of_extract (by omega) he
              have HR := Lib.hid (rvF_yes hnn g1)
              rw [g2] at HR
              clear g1 g2
              have g1 : ((varS n).toList == (s.extract 0 k).toList) = true := by rw [str_beq]; simpa using he
              clear he
              rw [g1]
              go_wp2
              go_returns
              rw [HR.out]
              exact ⟨by rfl, hb.trans (hb2.mono hb.size)⟩
            · have g1 : ((varS n).toList == (s.extract 0 k).toList) = false := by rw [str_beq]; simpa using he
              have HE := Lib.hid he; clear he
              rw [g1]
              go_wp2
              refine ⟨⟨k + 1, by omega, by omega, by go_num, fun j hj1 hj2 => ?_, hb.trans (hb2.mono hb.size)⟩, by simp [intOf]; omega⟩
              by_cases e : j = k
              · subst e
                rw [HNV.out]
                exact fun h => HE.out h.2
              · exact HN.out j hj1 (by omega)
      · have ikn : ¬ (k : Int) ≤ (s.size : Int) := by omega
        have HR := Lib.hid (show rvF s = (0, 0) from (HRN.out).resolve_left (by omega))
        go_wp2
        go_returns
        rw [HR.out]
        exact ⟨by rfl, hb⟩
    · have ik7 : ¬ (k : Int) ≤ 7 := by omega
      have HR := Lib.hid (show rvF s = (0, 0) from (HRN.out).resolve_left (by omega))
      go_wp2
      go_returns
      rw [HR.out]
      exact ⟨by rfl, hb⟩
end Go.Proofs.YtdphdnllhmnelaaGreat
/- The reader's state: contracts of num, cut, text, many. -/
namespace Go.Proofs.YtdphdnllhmnelaaGreat
open Go.RowKit
attribute [local irreducible] rvF

/-- a reader: what is left, and whether something was amiss -/
abbrev Sc := ByteArray × Bool
noncomputable def numF (x : Sc) : Nat × Sc := if x.2 = true ∨ (rvF x.1).2 = 0 then (0, (x.1, true)) else ((rvF x.1).1, (x.1.extract (rvF x.1).2 x.1.size, false))
noncomputable def cutF (x : Sc) (n : Nat) : ByteArray × Sc := if x.2 = true ∨ ¬ n ≤ x.1.size then (.empty, (x.1, true)) else (x.1.extract 0 n, (x.1.extract n x.1.size, false))
noncomputable def textF (x : Sc) : ByteArray × Sc := cutF (numF x).2 (numF x).1
noncomputable def manyF (x : Sc) (most : Nat) : Nat × Sc := if (numF x).2.2 = true ∨ most < (numF x).1 then (0, ((numF x).2.1, true)) else ((numF x).1, (numF x).2)
theorem numF_le (x : Sc) : (numF x).1 ≤ 562949953421311 ∧ (numF x).2.1.size ≤ x.1.size := by
  have h := rvF_size x.1
  unfold numF
  split
  · exact ⟨by omega, Nat.le_refl _⟩
  · refine ⟨h.2.2, ?_⟩
    show (x.1.extract _ _).size ≤ _
    rw [ByteArray.size_extract]; omega
theorem scn_one {w : World} {g o : Nat} {v : Value} : Ch (fun k => k = g) w (w.setCell ⟨g, o, none⟩ v) := (Ch.refl (S := fun k => k = g) w).setCell (p := ⟨g, o, none⟩) rfl v
structure Scn (w : World) (g : Nat) (x : Sc) : Prop where
  c0 : w.cell? ⟨g, 0, none⟩ = some (.string x.1)
  c1 : w.cell? ⟨g, 1, none⟩ = some (.bool x.2)
  f0 : w.frozen? ⟨g, 0, none⟩ = false
  f1 : w.frozen? ⟨g, 1, none⟩ = false
  sz : x.1.size ≤ 9223372036854775807
theorem Scn.lt {w : World} {g : Nat} {x : Sc} (h : Scn w g x) : g < w.heap.size := by
  have := World.block_lt_of_cell? w ⟨g, 0, none⟩ h.c0; simpa using this
theorem Scn.ch {S : Nat → Prop} {w w' : World} {g : Nat} {x : Sc} (h : Scn w g x) (hc : Ch S w w') (hS : ¬ S g) : Scn w' g x :=
  ⟨hc.cell h.c0 hS, hc.cell h.c1 hS, (World.frozen?_of_block (hc.block g h.lt hS)).trans h.f0, (World.frozen?_of_block (hc.block g h.lt hS)).trans h.f1, h.sz⟩
theorem Scn.keep {w w' : World} {g : Nat} {x : Sc} (h : Scn w g x) (hb : Below w.heap.size w w') : Scn w' g x := h.ch (S := fun _ => False) (Ch.of_below hb) (fun h => h)
theorem Scn.set0 {w : World} {g : Nat} {x : Sc} {t : ByteArray} (h : Scn w g x) (ht : t.size ≤ 9223372036854775807) : Scn (w.setCell ⟨g, 0, none⟩ (.string t)) g (t, x.2) :=
  ⟨sethere h.c0, setoff h.c1 (.inr (by omega)), (World.frozen?_setCell _ _ _ _).trans h.f0, (World.frozen?_setCell _ _ _ _).trans h.f1, ht⟩
theorem Scn.set1 {w : World} {g : Nat} {x : Sc} {b : Bool} (h : Scn w g x) : Scn (w.setCell ⟨g, 1, none⟩ (.bool b)) g (x.1, b) :=
  ⟨setoff h.c0 (.inr (by omega)), sethere h.c1, (World.frozen?_setCell _ _ _ _).trans h.f0, (World.frozen?_setCell _ _ _ _).trans h.f1, h.sz⟩

set_option maxRecDepth 4000 in
set_option maxHeartbeats 400000 in
theorem num_impl (g : Nat) (x : Sc) (w : World) (h : Scn w g x) :
    Calls Tryz.prog 53 #[.pointer (some ⟨g, 0, none⟩)] w fun e w' => e = .returned (.int .i64 ((numF x).1 : Int)) ∧ Scn w' g (numF x).2 ∧ Ch (fun k => k = g) w w' := by
  obtain ⟨s, q⟩ := x
  have hlt := h.lt
  have k0 := h.c0
  have hs := h.sz
  have hz := rvF_size s
  have hnm : numF (s, q) = if q = true ∨ (rvF s).2 = 0 then (0, (s, true)) else ((rvF s).1, (s.extract (rvF s).2 s.size, false)) := rfl
  have HNM := Lib.hid hnm; clear hnm
  go_enter Tryz.func53, Tryz.ntmps53
  go_wp2_with fail
  refine (readVar_impl _ _ hs).mono ?_
  rintro e w1 ⟨rfl, hb1⟩
  have h1 := h.keep hb1
  have k1 := h1.c1
  have k0' := h1.c0
  have f0 := h1.f0
  have f1 := h1.f1
  have HZ := Lib.hid hz; clear hz
  obtain ⟨n, m, hnm⟩ : ∃ n m, rvF s = (n, m) := ⟨_, _, rfl⟩
  rw [hnm] at HNM HZ ⊢
  cases q with
  | true =>
    go_wp2
    go_returns
    rw [HNM.out, if_pos (by simp)]
    exact ⟨rfl, h1.set1, (Ch.of_below hb1).trans scn_one⟩
  | false =>
    by_cases hm : m = 0
    · subst hm
      go_wp2
      go_returns
      rw [HNM.out, if_pos (by simp)]
      exact ⟨rfl, h1.set1, (Ch.of_below hb1).trans scn_one⟩
    · have hm0 : ¬ ((m : Int) = 0) := by omega
      have hml : m ≤ s.size := HZ.out.2.1
      go_wp2
      go_returns
      rw [HNM.out, if_neg (by simp; omega)]
      exact ⟨rfl, h1.set0 (x := (s, false)) (by rw [ByteArray.size_extract]; omega), (Ch.of_below hb1).trans scn_one⟩

set_option maxRecDepth 4000 in
set_option maxHeartbeats 400000 in
theorem cut_impl (g n : Nat) (x : Sc) (w : World) (h : Scn w g x) (hn : n ≤ 562949953421311) :
    Calls Tryz.prog 54 #[.pointer (some ⟨g, 0, none⟩), .int .i64 n] w fun e w' => e = .returned (.string (cutF x n).1) ∧ Scn w' g (cutF x n).2 ∧ Ch (fun k => k = g) w w' := by
  obtain ⟨s, q⟩ := x
  have hlt := h.lt
  have k0 := h.c0
  have k1 := h.c1
  have f0 := h.f0
  have f1 := h.f1
  have hs := h.sz
  have hnm : cutF (s, q) n = if q = true ∨ ¬ n ≤ s.size then (.empty, (s, true)) else (s.extract 0 n, (s.extract n s.size, false)) := rfl
  have HNM := Lib.hid hnm; clear hnm
  have hin : inB (n : Int) 0 (s.size : Int) = decide (n ≤ s.size) := by simp [inB]
  have HI := Lib.hid hin; clear hin
  go_enter Tryz.func54, Tryz.ntmps54
  cases q with
  | true =>
    go_wp2
    go_returns
    rw [HNM.out, if_pos (by simp)]
    exact ⟨rfl, h.set1, scn_one⟩
  | false =>
    by_cases hm : n ≤ s.size
    · have hml : (n : Int) ≤ (s.size : Int) := by omega
      go_wp2_with (go_at_call 36; refine (within_any _ _ _ _).mono ?_; rintro e w1 ⟨rfl, rfl⟩; rw [HI.out, decide_eq_true hm])
      go_returns
      rw [HNM.out, if_neg (by simp; omega)]
      exact ⟨rfl, h.set0 (x := (s, false)) (by rw [ByteArray.size_extract]; omega), scn_one⟩
    · go_wp2_with (go_at_call 36; refine (within_any _ _ _ _).mono ?_; rintro e w1 ⟨rfl, rfl⟩; rw [HI.out, decide_eq_false hm])
      go_returns
      rw [HNM.out, if_pos (.inr hm)]
      exact ⟨rfl, h.set1, scn_one⟩

theorem text_impl (g : Nat) (x : Sc) (w : World) (h : Scn w g x) :
    Calls Tryz.prog 55 #[.pointer (some ⟨g, 0, none⟩)] w fun e w' => e = .returned (.string (textF x).1) ∧ Scn w' g (textF x).2 ∧ Ch (fun k => k = g) w w' := by
  have hz := (numF_le x).1
  go_enter Tryz.func55, Tryz.ntmps55
  go_wp2_with (first | (go_at_call 53; refine (num_impl _ _ _ h).mono ?_; rintro e w1 ⟨rfl, h1, c1⟩) | (go_at_call 54; refine (cut_impl _ _ _ _ h1 hz).mono ?_; rintro e w2 ⟨rfl, h2, c2⟩))
  go_returns
  exact ⟨rfl, h2, c1.trans c2⟩

theorem many_impl (g most : Nat) (x : Sc) (w : World) (h : Scn w g x) (hm : most ≤ 1048576) :
    Calls Tryz.prog 57 #[.pointer (some ⟨g, 0, none⟩), .int .i64 most] w fun e w' => e = .returned (.int .i64 ((manyF x most).1 : Int)) ∧ Scn w' g (manyF x most).2 ∧ Ch (fun k => k = g) w w' := by
  have hz := (numF_le x).1
  have hnm : manyF x most = if (numF x).2.2 = true ∨ most < (numF x).1 then (0, ((numF x).2.1, true)) else ((numF x).1, (numF x).2) := rfl
  have HNM := Lib.hid hnm; clear hnm
  go_enter Tryz.func57, Tryz.ntmps57
  go_wp2_with fail
  refine (num_impl _ _ _ h).mono ?_
  rintro e w1 ⟨rfl, h1, c1⟩
  obtain ⟨n, s, q, hq⟩ : ∃ n s q, numF x = (n, s, q) := ⟨_, _, _, rfl⟩
  rw [hq] at HNM h1 hz ⊢
  have k1 := h1.c1
  have f1 := h1.f1
  by_cases hn : most < n
  · have hni : (most : Int) < (n : Int) := by omega
    have k1' := sethere (u := .bool true) k1
    go_wp2
    go_returns
    rw [HNM.out, if_pos (.inr hn)]
    exact ⟨rfl, h1.set1, c1.trans scn_one⟩
  · have hni : ¬ (most : Int) < (n : Int) := by omega
    cases q with
    | true =>
      go_wp2
      go_returns
      rw [HNM.out, if_pos (by simp)]
      exact ⟨rfl, h1, c1⟩
    | false =>
      go_wp2
      go_returns
      rw [HNM.out, if_neg (by simp; omega)]
      exact ⟨rfl, h1, c1⟩
end Go.Proofs.YtdphdnllhmnelaaGreat
