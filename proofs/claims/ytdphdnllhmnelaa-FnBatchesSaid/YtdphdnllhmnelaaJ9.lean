/- Contracts and lemmas: ShaS. -/
import Derived.Test.YtdphdnllhmnelaaJ0
import Derived.Test.YtdphdnllhmnelaaJ6
import Derived.Test.YtdphdnllhmnelaaJ2
import Derived.Test.YtdphdnllhmnelaaJ7
import Derived.Test.YtdphdnllhmnelaaJ1
import Derived.Deep.LoopGhost
/- Contracts of the reference's l3Word, l3Right, l3Keys, l3Block, Sha. -/
namespace Go.Proofs.Ytdphdnllhmnelaa
open Go.RowKit

theorem l3Word_any (x : Int) (w : World) : Calls Try.prog 208 #[.int .i64 x] w fun e w' => e = .returned (.int .i64 (x % 4294967296)) ∧ w = w' := by
  have hm := and_mask x
  go_enter Try.func208, Try.ntmps208
  go_wp2
  go_returns
  exact ⟨rfl, rfl⟩

theorem right_eq {x n : Nat} (hx : x < 4294967296) (h1 : 1 ≤ n) (h2 : n ≤ 31) : bits .or .i64 ((x : Int) / 2 ^ n) (wrap64 ((x : Int) * 2 ^ (32 - n))) % 4294967296 = ((rr x n : Nat) : Int) := by
  have hp : 2 ^ (32 - n) ≤ 2 ^ 31 := Nat.pow_le_pow_right (by decide) (by omega)
  have hm : x * 2 ^ (32 - n) < 9223372036854775808 := Nat.lt_of_le_of_lt (Nat.mul_le_mul_left x hp) (by omega)
  have hd : x / 2 ^ n < 9223372036854775808 := Nat.lt_of_le_of_lt (Nat.div_le_self _ _) (by omega)
  rw [show ((x : Int) / 2 ^ n) = ((x / 2 ^ n : Nat) : Int) by push_cast; rfl, show ((x : Int) * 2 ^ (32 - n)) = ((x * 2 ^ (32 - n) : Nat) : Int) by push_cast; rfl]
  rw [show wrap64 ((x * 2 ^ (32 - n) : Nat) : Int) = ((x * 2 ^ (32 - n) : Nat) : Int) by unfold wrap64; omega, or_i64 hd hm]
  unfold rr
  omega
theorem l3Right_any (x n : Nat) (w : World) (hx : x < 4294967296) (h1 : 1 ≤ n) (h2 : n ≤ 31) :
    Calls Try.prog 207 #[.int .i64 x, .int .u64 n] w fun e w' => e = .returned (.int .i64 ((rr x n : Nat) : Int)) ∧ w = w' := by
  have HE := Lib.hid (right_eq hx h1 h2)
  go_enter Try.func207, Try.ntmps207
  go_wp2_with fail
  refine (l3Word_any _ _).mono ?_
  rintro e w' ⟨rfl, rfl⟩
  rw [HE.out]
  go_wp2
  go_returns
  exact ⟨rfl, rfl⟩
theorem l3Right_lit (x n : Nat) (N : Int) (hN : N = n) (hx : x < 4294967296) (h1 : 1 ≤ n) (h2 : n ≤ 31) (w : World) :
    Calls Try.prog 207 #[.int .i64 x, .int .u64 N] w fun e w' => e = .returned (.int .i64 ((rr x n : Nat) : Int)) ∧ w = w' := by
  subst hN; exact l3Right_any x n w hx h1 h2
def natV (f : Nat → Nat) : Nat → Value := intV (fun i => ((f i : Nat) : Int))
theorem vals_lit (w : World) (e : TypeId) (l : List Nat) : ValsAt (w.alloc (.cells (l.map (fun x : Nat => Value.int .i64 (x : Int))).toArray e)) (some ⟨w.heap.size, 0, none⟩) l.length (natV (fun i => l.getD i 0)) := fun hn =>
  ⟨w.heap.size, 0, rfl, by simp, fun i hi => by
    rw [Nat.zero_add, World.cell?_alloc_new]
    simp [natV, intV, hi]⟩
theorem l3Keys_any (w : World) : Calls Try.prog 196 #[] w fun e w' => ∃ g, e = .returned (.slice (some ⟨g, 0, none⟩) 64 64) ∧ w.heap.size ≤ g ∧ ValsAt w' (some ⟨g, 0, none⟩) 64 (natV kF) ∧ Below w.heap.size w w' := by
  have hv := vals_lit w 3 kList
  go_enter Try.func196, Try.ntmps196
  go_wp2
  go_returns
  exact ⟨_, rfl, Nat.le_refl _, hv, (Below.refl _ _).alloc (Nat.le_refl _) _⟩

theorem lt63 {x : Nat} (h : x < 4294967296) : x < 9223372036854775808 := by omega
theorem rnd_0 {kk ww T U TU : Nat} {R : Nat → Nat} (hT : T = R 7 + bg1 (R 4) + chF (R 4) (R 5) (R 6) + kk + ww) (hU : U = bg0 (R 0) + mjF (R 0) (R 1) (R 2)) (h : TU = T + U) : Value.int .i64 ((TU : Int) % 4294967296) = natV (rnd kk ww R) 0 := by
  show Value.int .i64 ((TU : Int) % 4294967296) = .int .i64 ((rnd kk ww R 0 : Nat) : Int)
  have e : rnd kk ww R 0 = (T % 4294967296 + U % 4294967296) % 4294967296 := by rw [hT, hU]; rfl
  rw [e]; congr 1; omega
theorem rnd_4 {kk ww T VT : Nat} {R : Nat → Nat} (hT : T = R 7 + bg1 (R 4) + chF (R 4) (R 5) (R 6) + kk + ww) (h : VT = R 3 + T) : Value.int .i64 ((VT : Int) % 4294967296) = natV (rnd kk ww R) 4 := by
  show Value.int .i64 ((VT : Int) % 4294967296) = .int .i64 ((rnd kk ww R 4 : Nat) : Int)
  have e : rnd kk ww R 4 = (R 3 + T % 4294967296) % 4294967296 := by rw [hT]; rfl
  rw [e]; congr 1; omega

theorem news_src {W : World} {b off n : Nat} {f : Nat → Value} (h : ∀ i, i < n → W.cell? ⟨b, off + i, none⟩ = some (f i)) : CellsAt W (some ⟨b, off, none⟩) n 1 ((List.range n).map f) := by
  refine ⟨by simp, fun _ => ⟨b, off, rfl, fun j u hu => ?_⟩⟩
  rw [List.getElem?_map] at hu
  by_cases hj : j < n
  · rw [List.getElem?_range hj] at hu
    simp only [Option.map_some, Option.some.injEq] at hu
    rw [h j hj, hu]
  · rw [List.getElem?_eq_none (by simpa using hj)] at hu; cases hu
theorem news_one (f : Nat → Nat) (n : Nat) : ∀ u ∈ (List.range n).map (natV f), u.oneCell' = true := by
  intro u hu; obtain ⟨x, _, rfl⟩ := List.mem_map.1 hu; rfl
theorem new1n (w : World) (e : TypeId) (a : Value) : CellsAt (w.alloc (.cells #[a] e)) (some ⟨w.heap.size, 0, none⟩) 1 1 [a] := by
  refine ⟨rfl, fun _ => ⟨w.heap.size, 0, rfl, fun j u hu => ?_⟩⟩
  rw [Nat.zero_add, World.cell?_alloc_new]
  simpa using hu
theorem cells8 (w : World) (e : TypeId) (a : Nat → Value) {x0 x1 x2 x3 x4 x5 x6 x7 : Value} (h0 : x0 = a 0) (h1 : x1 = a 1) (h2 : x2 = a 2) (h3 : x3 = a 3) (h4 : x4 = a 4) (h5 : x5 = a 5) (h6 : x6 = a 6) (h7 : x7 = a 7) :
    ∀ j, j < 8 → (w.alloc (.cells #[x0, x1, x2, x3, x4, x5, x6, x7] e)).cell? ⟨w.heap.size, j, none⟩ = some (a j) := by
  subst h0 h1 h2 h3 h4 h5 h6 h7
  intro j hj
  rw [World.cell?_alloc_new]
  have : j = 0 ∨ j = 1 ∨ j = 2 ∨ j = 3 ∨ j = 4 ∨ j = 5 ∨ j = 6 ∨ j = 7 := by omega
  rcases this with rfl | rfl | rfl | rfl | rfl | rfl | rfl | rfl <;> rfl
theorem range_snoc {α : Type} (f : Nat → α) (k : Nat) : (List.range k).map f ++ [f k] = (List.range (k + 1)).map f := by rw [List.range_succ, List.map_append]; rfl
theorem vals_range {w : World} {base e c n : Nat} {A : Option Addr} {f : Nat → Value} (h : w.ownsRow base e 1 (.slice A n c) n ((List.range n).map f)) : ValsAt w A n f :=
  ValsAt.of_own h (fun j hj => by rw [List.getElem?_map, List.getElem?_range hj]; rfl)

set_option maxRecDepth 8000 in
set_option maxHeartbeats 8000000 in
theorem l3Block_any (A : Option Addr) (c : Nat) (h : Nat → Nat) (s : ByteArray) (B : Option Addr) (d : Nat) (w : World) (hh : ValsAt w A 8 (natV h)) (hlt : ∀ j, j < 8 → h j < 4294967296) (hs0 : s.size = 64) (hk : ValsAt w B 64 (natV kF)) :
    Calls Try.prog 197 #[.slice A 8 c, .string s, .slice B 64 d] w fun e w' => ∃ g k, e = .returned (.slice (some ⟨g, 0, none⟩) 8 k) ∧ w.heap.size ≤ g ∧ ValsAt w' (some ⟨g, 0, none⟩) 8 (natV (blk kF (bW s) h)) ∧ Below w.heap.size w w' := by
  have hs : 64 ≤ s.size := by omega
  have hs9 : s.size ≤ 64 := by omega
  clear hs0
  go_enter Try.func197, Try.ntmps197
  go_wp2_with (refine wpList_mk (P := Try.prog) _ rfl _ _ 78 rfl w.heap.size 3 _ 1 8 Try.underlying78 infoInt _ _ _ _ 64 rfl rfl rfl rfl (by omega) (by unfold maxLen; omega) (Nat.le_refl _) ?_; intro w1 hown1 hg1 hb1)
  clear hg1
  go_loopw [8] (fun i wr => ∃ (k : Nat) (xs : List Value), k ≤ 16 ∧ i = .int .i64 k ∧ wr.ownsRow w.heap.size 3 1 (.slice (some ⟨w.heap.size, 0, none⟩) 64 64) 64 xs ∧ (∀ j, j < k → xs[j]? = some (natV (wS (bW s)) j)) ∧ Below w.heap.size w wr) (fun i _ => 16 - (intOf i).toNat)
  case atStart => exact ⟨0, _, Nat.zero_le _, rfl, hown1, fun j hj => absurd hj (by omega), hb1⟩
  case round =>
    obtain ⟨k, xs, hk16, rfl, hown, hx, hb⟩ := hrel
    have HX := Lib.hid hx; clear hx
    by_cases hlt16 : k < 16
    · --BEGIN
      obtain ⟨old, hold⟩ := own_cell hown (j := k) (by omega)
      have hfr := hown.frozenAt k
      obtain ⟨m, hm⟩ : ∃ m : Nat, m = 4 * k := ⟨_, rfl⟩
      have hm4 : (4 : Int) * (k : Int) = (m : Int) := by omega
      have hml : m ≤ 60 := by omega
      have hk64 : k < 64 := by omega
      have hk64i : (k : Int) < 64 := by omega
      have hmw : IntKind.i64.wrap (m : Int) = (m : Int) := i64_nat (by omega)
      have q0 : m < s.size := by omega
      have q1 : m + 1 < s.size := by omega
      have q2 : m + 2 < s.size := by omega
      have q3 : m + 3 < s.size := by omega
      have t1 : ((m : Int) + 1).toNat = m + 1 := by omega
      have p1 : (0 : Int) ≤ (m : Int) + 1 := by omega
      have g1 : (m : Int) + 1 < (s.size : Int) := by omega
      have t2 : ((m : Int) + 2).toNat = m + 2 := by omega
      have p2 : (0 : Int) ≤ (m : Int) + 2 := by omega
      have g2 : (m : Int) + 2 < (s.size : Int) := by omega
      have t3 : ((m : Int) + 3).toNat = m + 3 := by omega
      have p3 : (0 : Int) ≤ (m : Int) + 3 := by omega
      have g3 : (m : Int) + 3 < (s.size : Int) := by omega
      have b0 := bAt_get q0
      have b1 := bAt_get q1
      have b2 := bAt_get q2
      have b3 := bAt_get q3
      have l0 := bAt_lt s m
      have l1 := bAt_lt s (m + 1)
      have l2 := bAt_lt s (m + 2)
      have l3 := bAt_lt s (m + 3)
      have hw1 : IntKind.i64.wrap ((m : Int) + 1) = (m : Int) + 1 := by rw [IntKind.wrap_i64]; omega
      have hw2 : IntKind.i64.wrap ((m : Int) + 2) = (m : Int) + 2 := by rw [IntKind.wrap_i64]; omega
      have hw3 : IntKind.i64.wrap ((m : Int) + 3) = (m : Int) + 3 := by rw [IntKind.wrap_i64]; omega
      have e0 : IntKind.i64.wrap ((bAt s m : Nat) : Int) = ((bAt s m : Nat) : Int) := i64_nat (by omega)
      have f0 : IntKind.i64.wrap (((bAt s m : Nat) : Int) * 16777216) = ((bAt s m : Nat) : Int) * 16777216 := by rw [IntKind.wrap_i64]; omega
      have e1 : IntKind.i64.wrap ((bAt s (m + 1) : Nat) : Int) = ((bAt s (m + 1) : Nat) : Int) := i64_nat (by omega)
      have f1 : IntKind.i64.wrap (((bAt s (m + 1) : Nat) : Int) * 65536) = ((bAt s (m + 1) : Nat) : Int) * 65536 := by rw [IntKind.wrap_i64]; omega
      have e2 : IntKind.i64.wrap ((bAt s (m + 2) : Nat) : Int) = ((bAt s (m + 2) : Nat) : Int) := i64_nat (by omega)
      have f2 : IntKind.i64.wrap (((bAt s (m + 2) : Nat) : Int) * 256) = ((bAt s (m + 2) : Nat) : Int) * 256 := by rw [IntKind.wrap_i64]; omega
      have e3 : IntKind.i64.wrap ((bAt s (m + 3) : Nat) : Int) = ((bAt s (m + 3) : Nat) : Int) := i64_nat (by omega)
      have HO := w4_i64 l0 l1 l2 l3
      obtain ⟨o1, ho1⟩ : ∃ o, bits .or .i64 (((bAt s m : Nat) : Int) * 16777216) (((bAt s (m + 1) : Nat) : Int) * 65536) = o := ⟨_, rfl⟩
      rw [ho1] at HO
      obtain ⟨o2, ho2⟩ : ∃ o, bits .or .i64 o1 (((bAt s (m + 2) : Nat) : Int) * 256) = o := ⟨_, rfl⟩
      rw [ho2] at HO
      obtain ⟨o3, ho3⟩ : ∃ o, bits .or .i64 o2 ((bAt s (m + 3) : Nat) : Int) = o := ⟨_, rfl⟩
      rw [ho3] at HO
      have HO3 := Lib.hid HO
      clear HO
      have HM := Lib.hid hm
      clear hm
      go_wp2
      refine wp_region_last rfl (by kernel_rfl) (by kernel_rfl) (by kernel_rfl) (by kernel_rfl) ?_
      simp only [List.dropLast]
      repeat (quiet_step (fail))
      refine wpQuiet_nil ?_
      intro _ hw'
      obtain ⟨nq, rfl⟩ := hw'
      refine wpOp_at rfl rfl (fun K' hK' => ?_)
      go_simp
      go_wp2
      obtain ⟨hown2, hg2⟩ := hown.stored k (.int .i64 o3)
      have HW := HO3.out
      rw [HM.out] at HW
      refine ⟨⟨k + 1, _, by omega, by go_num, hown2, set_upto (n := 64) (by simpa using hown.1) (by omega) HX.out ?_, below_drewN (hb.grown hg2 hb.size (by simp)) nq⟩, by simp [intOf]; omega⟩
      rw [natV, intV, wS_lo hlt16, HW]; rfl
      --END
    · have hk0 : k = 16 := by omega
      have HX2 := HX.out
      subst hk0
      go_wp2
      go_loopg [9] 48 (fun gk i wr => ∃ (k : Nat) (xs : List Value), 16 ≤ k ∧ k ≤ 64 ∧ gk = 64 - k ∧ i = .int .i64 k ∧ wr.ownsRow w.heap.size 3 1 (.slice (some ⟨w.heap.size, 0, none⟩) 64 64) 64 xs ∧ (∀ j, j < k → xs[j]? = some (natV (wS (bW s)) j)) ∧ Below w.heap.size w wr)
      case atStart => exact ⟨16, xs, Nat.le_refl _, by omega, rfl, rfl, hown, HX2, hb⟩
      case round =>
        clear hb hown HX2 HX xs
        obtain ⟨k, xs, hk16, hk64, hgk, rfl, hown, hx, hb⟩ := hrel
        have HG := Lib.hid hgk; clear hgk
        have HX := Lib.hid hx
        by_cases hlt64 : k < 64
        · --BEGIN
          obtain ⟨old, hold⟩ := own_cell hown (j := k) (by omega)
          have hfr := hown.frozenAt k
          obtain ⟨p15, hp15⟩ : ∃ p, p + 15 = k := ⟨k - 15, by omega⟩
          obtain ⟨p2, hp2⟩ : ∃ p, p + 2 = k := ⟨k - 2, by omega⟩
          obtain ⟨p16, hp16⟩ : ∃ p, p + 16 = k := ⟨k - 16, by omega⟩
          obtain ⟨p7, hp7⟩ : ∃ p, p + 7 = k := ⟨k - 7, by omega⟩
          have HS := Lib.hid (wS_hi (b := bW s) hk16)
          rw [show k - 15 = p15 by omega, show k - 2 = p2 by omega, show k - 16 = p16 by omega, show k - 7 = p7 by omega] at HS
          have hw15 : IntKind.i64.wrap ((k : Int) - 15) = (p15 : Int) := by rw [IntKind.wrap_i64]; omega
          have hw2 : IntKind.i64.wrap ((k : Int) - 2) = (p2 : Int) := by rw [IntKind.wrap_i64]; omega
          have hw16 : IntKind.i64.wrap ((k : Int) - 16) = (p16 : Int) := by rw [IntKind.wrap_i64]; omega
          have hw7 : IntKind.i64.wrap ((k : Int) - 7) = (p7 : Int) := by rw [IntKind.wrap_i64]; omega
          have i15 : (p15 : Int) < 64 := by omega
          have i2 : (p2 : Int) < 64 := by omega
          have i16 : (p16 : Int) < 64 := by omega
          have i7 : (p7 : Int) < 64 := by omega
          have ik : (k : Int) < 64 := by omega
          have c15 := (hown.cellAt p15 (by omega)).trans (hx p15 (by omega))
          have c2 := (hown.cellAt p2 (by omega)).trans (hx p2 (by omega))
          have c16 := (hown.cellAt p16 (by omega)).trans (hx p16 (by omega))
          have c7 := (hown.cellAt p7 (by omega)).trans (hx p7 (by omega))
          clear hx
          have l15 := wS_lt (b := bW s) (fun t _ => bW_lt s t) p15
          have l2 := wS_lt (b := bW s) (fun t _ => bW_lt s t) p2
          have l16 := wS_lt (b := bW s) (fun t _ => bW_lt s t) p16
          have l7 := wS_lt (b := bW s) (fun t _ => bW_lt s t) p7
          simp only [natV, intV] at c15 c2 c16 c7
          generalize wS (bW s) p15 = x15 at *
          generalize wS (bW s) p2 = x2 at *
          generalize wS (bW s) p16 = x16 at *
          generalize wS (bW s) p7 = x7 at *
          have ea1 := xor_i64 (show rr x15 7 < 9223372036854775808 by have := rr_lt x15 7; omega) (show rr x15 18 < 9223372036854775808 by have := rr_lt x15 18; omega)
          have ea2 := xor_i64 (show rr x15 7 ^^^ rr x15 18 < 9223372036854775808 by have := xor_lt (n := 32) (rr_lt x15 7) (rr_lt x15 18); omega) (show x15 / 8 < 9223372036854775808 by omega)
          have eb1 := xor_i64 (show rr x2 17 < 9223372036854775808 by have := rr_lt x2 17; omega) (show rr x2 19 < 9223372036854775808 by have := rr_lt x2 19; omega)
          have eb2 := xor_i64 (show rr x2 17 ^^^ rr x2 19 < 9223372036854775808 by have := xor_lt (n := 32) (rr_lt x2 17) (rr_lt x2 19); omega) (show x2 / 1024 < 9223372036854775808 by omega)
          have la := sg0_lt l15
          have lb := sg1_lt l2
          rw [show rr x15 7 ^^^ rr x15 18 ^^^ x15 / 8 = sg0 x15 from rfl, show ((x15 / 8 : Nat) : Int) = (x15 : Int) / 8 by omega] at ea2
          rw [show rr x2 17 ^^^ rr x2 19 ^^^ x2 / 1024 = sg1 x2 from rfl, show ((x2 / 1024 : Nat) : Int) = (x2 : Int) / 1024 by omega] at eb2
          generalize rr x15 7 ^^^ rr x15 18 = ya at *
          generalize rr x2 17 ^^^ rr x2 19 = yb at *
          generalize sg0 x15 = a at *
          generalize sg1 x2 = b at *
          have s1 : IntKind.i64.wrap ((x16 : Int) + (a : Int)) = (x16 : Int) + (a : Int) := by rw [IntKind.wrap_i64]; omega
          have s2 : IntKind.i64.wrap ((x16 : Int) + (a : Int) + (x7 : Int)) = (x16 : Int) + (a : Int) + (x7 : Int) := by rw [IntKind.wrap_i64]; omega
          have s3 : IntKind.i64.wrap ((x16 : Int) + (a : Int) + (x7 : Int) + (b : Int)) = (x16 : Int) + (a : Int) + (x7 : Int) + (b : Int) := by rw [IntKind.wrap_i64]; omega
          have H15 := Lib.hid hp15; have H2 := Lib.hid hp2; have H16 := Lib.hid hp16; have H7 := Lib.hid hp7
          clear hp15 hp2 hp16 hp7
          have r7 := l3Right_lit x15 7 7 rfl l15 (by decide) (by decide)
          have r18 := l3Right_lit x15 18 18 rfl l15 (by decide) (by decide)
          have r17 := l3Right_lit x2 17 17 rfl l2 (by decide) (by decide)
          have r19 := l3Right_lit x2 19 19 rfl l2 (by decide) (by decide)
          go_wp2
          go_quiet (first | (go_at_call 207; with_reducible exact quiet_l (r7 _)) | (go_at_call 207; with_reducible exact quiet_l (r18 _)))
          go_wp2
          go_quiet (first | (go_at_call 207; with_reducible exact quiet_la (r17 _)) | (go_at_call 207; with_reducible exact quiet_la (r19 _)))
          go_wp2
          refine wp_region_last rfl (by kernel_rfl) (by kernel_rfl) (by kernel_rfl) (by kernel_rfl) ?_
          simp only [List.dropLast]
          repeat (quiet_step ((go_at_call 208; exact quiet_la (l3Word_any _ _))))
          refine wpQuiet_nil ?_
          intro _ hw'
          obtain ⟨nq2, rfl⟩ := hw'
          refine wpOp_at rfl rfl (fun K' hK' => ?_)
          go_simp
          go_wp2
          obtain ⟨hown2, hg2⟩ := hown.stored k (.int .i64 (((x16 : Int) + (a : Int) + (x7 : Int) + (b : Int)) % 4294967296))
          have hHS := HS.out
          have hgk := HG.out
          go_roundg (63 - k)
          case measure => omega
          case rel =>
            refine ⟨k + 1, _, by omega, by omega, by omega, by go_num, hown2, set_upto (n := 64) (by simpa using hown.1) (by omega) HX.out ?_, below_drewN (hb.grown hg2 hb.size (by simp)) _⟩
            rw [natV, intV, hHS]
            congr 1
          --END
        · have hk0 : k = 64 := by omega
          subst hk0
          clear hk16 hk64 hlt64
          have hcW : ∀ j, j < 64 → wr.cell? ⟨w.heap.size, j, none⟩ = some (natV (wS (bW s)) j) := fun j hj => (hown.cellAt j (by omega)).trans (hx j hj)
          have hzW : w.heap.size < wr.heap.size := cell_lt (hcW 0 (by decide))
          clear hown hx HX xs
          generalize wr = W2 at *
          obtain ⟨b0, off0, rfl, hbl0, hc0⟩ := hh (by decide)
          obtain ⟨bk, offk, rfl, hblk, hck⟩ := hk (by decide)
          clear hh hk
          have hcH := fun i hi => (hb.cell (p := ⟨b0, off0 + i, none⟩) hbl0).trans (hc0 i hi)
          have hcK := fun i hi => (hb.cell (p := ⟨bk, offk + i, none⟩) hblk).trans (hck i hi)
          have hzb := hb.size
          have hal : Below W2.heap.size W2 (W2.alloc (.cells #[] 3)) := (Below.refl _ _).alloc (Nat.le_refl _) _
          have hsrc := news_src (W := W2.alloc (.cells #[] 3)) (b := b0) (off := off0) (n := 8) (f := natV h) (fun i hi => keep_cell hal (hcH i hi))
          go_wp2_with (at_builtin; refine wpList_app (P := Try.prog) _ rfl (.tmp 120) (.tmp 121) 78 rfl W2.heap.size 3 _ 1 8 Try.underlying78 infoInt rfl (by omega) (.slice (some ⟨W2.heap.size, 0, none⟩) 0 0) _ _ rfl (own_empty W2 _ 1 (Nat.le_refl _)) (some ⟨b0, off0, none⟩) 8 c ((List.range 8).map (natV h)) rfl hsrc (news_one _ _) (fun h => by cases h) (by unfold maxLen; omega) (by omega) (by simp) ?_; intro A0 c1 w2 hown2 hg2 hb2 _)
          simp only [Nat.zero_add, List.nil_append] at hown2 ⊢
          have hbW : Below W2.heap.size W2 w2 := hal.trans hb2
          obtain ⟨g0, rfl⟩ : ∃ g, A0 = some ⟨g, 0, none⟩ := by
            rcases own_form hown2 with ⟨_, h0, _⟩ | ⟨g, hA, _⟩
            · cases h0
            · exact ⟨g, hA⟩
          have hg0 : ∀ j, j < 8 → w2.cell? ⟨g0, j, none⟩ = some (natV h j) := fun j hj => (hown2.cellAt j (by omega)).trans (by rw [List.getElem?_map, List.getElem?_range hj]; rfl)
          clear hown2 hg2 hb2 hsrc hal
          go_wp2
          go_loopg [13, 12] 64 (fun gk i v w3 => ∃ (k g cap : Nat), k ≤ 64 ∧ gk = 64 - k ∧ i = .int .i64 k ∧ v = .slice (some ⟨g, 0, none⟩) 8 cap ∧ (∀ j, j < 8 → w3.cell? ⟨g, j, none⟩ = some (natV (rnds kF (wS (bW s)) h k) j)) ∧ Below W2.heap.size W2 w3)
          case atStart => exact ⟨0, g0, c1, by omega, rfl, rfl, rfl, hg0, hbW⟩
          case round =>
            obtain ⟨k, g, cap, hk64, hgk, rfl, rfl, hcell, hb3⟩ := hrel
            have HG := Lib.hid hgk; clear hgk
            have hbl := Lib.hid hb3
            by_cases hlt64 : k < 64
            · --BEGIN
              have ik : (k : Int) < 64 := by omega
              have cK := keep_cell hb3 (hcK k hlt64)
              have cW := keep_cell hb3 (hcW k hlt64)
              have hR := rnds_lt (K := kF) (W := wS (bW s)) hlt k
              have hSt : rnds kF (wS (bW s)) h (k + 1) = rnd (kF k) (wS (bW s) k) (rnds kF (wS (bW s)) h k) := rfl
              generalize rnds kF (wS (bW s)) h k = R at *
              have lk := kF_lt k
              have lw := wS_lt (b := bW s) (fun t _ => bW_lt s t) k
              simp only [natV, intV] at cK cW
              generalize kF k = kk at *
              generalize wS (bW s) k = ww at *
              have HSt := Lib.hid hSt; clear hSt
              have c0 := hcell 0 (by decide)
              have c1 := hcell 1 (by decide)
              have c2 := hcell 2 (by decide)
              have c3 := hcell 3 (by decide)
              have c4 := hcell 4 (by decide)
              have c5 := hcell 5 (by decide)
              have c6 := hcell 6 (by decide)
              have c7 := hcell 7 (by decide)
              have l0 := hR 0 (by decide)
              have l1 := hR 1 (by decide)
              have l2 := hR 2 (by decide)
              have l3 := hR 3 (by decide)
              have l4 := hR 4 (by decide)
              have l5 := hR 5 (by decide)
              have l6 := hR 6 (by decide)
              have l7 := hR 7 (by decide)
              simp only [natV, intV] at c0 c1 c2 c3 c4 c5 c6 c7
              clear hcell hR
              obtain ⟨T, hT⟩ : ∃ T, T = R 7 + bg1 (R 4) + chF (R 4) (R 5) (R 6) + kk + ww := ⟨_, rfl⟩
              obtain ⟨U, hU⟩ : ∃ U, U = bg0 (R 0) + mjF (R 0) (R 1) (R 2) := ⟨_, rfl⟩
              obtain ⟨TU, hTU⟩ : ∃ x, x = T + U := ⟨_, rfl⟩
              obtain ⟨VT, hVT⟩ : ∃ x, x = R 3 + T := ⟨_, rfl⟩
              have HN0 := Lib.hid (rnd_0 hT hU hTU)
              have HN4 := Lib.hid (rnd_4 hT hVT)
              have HN1 := Lib.hid (show Value.int .i64 ((R 0 : Nat) : Int) = natV (rnd kk ww R) 1 from rfl)
              have HN2 := Lib.hid (show Value.int .i64 ((R 1 : Nat) : Int) = natV (rnd kk ww R) 2 from rfl)
              have HN3 := Lib.hid (show Value.int .i64 ((R 2 : Nat) : Int) = natV (rnd kk ww R) 3 from rfl)
              have HN5 := Lib.hid (show Value.int .i64 ((R 4 : Nat) : Int) = natV (rnd kk ww R) 5 from rfl)
              have HN6 := Lib.hid (show Value.int .i64 ((R 5 : Nat) : Int) = natV (rnd kk ww R) 6 from rfl)
              have HN7 := Lib.hid (show Value.int .i64 ((R 6 : Nat) : Int) = natV (rnd kk ww R) 7 from rfl)
              generalize hN : natV (rnd kk ww R) = N at *
              have HNN := Lib.hid hN; clear hN
              generalize R 0 = v0 at *
              generalize R 1 = v1 at *
              generalize R 2 = v2 at *
              generalize R 3 = v3 at *
              generalize R 4 = v4 at *
              generalize R 5 = v5 at *
              generalize R 6 = v6 at *
              generalize R 7 = v7 at *
              obtain ⟨nv, hnv⟩ : ∃ x, x = 4294967295 - v4 := ⟨_, rfl⟩
              have lnv : nv < 4294967296 := by omega
              have x1 := xor_i64 (lt63 (rr_lt v4 6)) (lt63 (rr_lt v4 11))
              have x2 := xor_i64 (lt63 (xor_lt (n := 32) (rr_lt v4 6) (rr_lt v4 11))) (lt63 (rr_lt v4 25))
              rw [show rr v4 6 ^^^ rr v4 11 ^^^ rr v4 25 = bg1 v4 from rfl] at x2
              have y1 := xor_i64 (lt63 (rr_lt v0 2)) (lt63 (rr_lt v0 13))
              have y2 := xor_i64 (lt63 (xor_lt (n := 32) (rr_lt v0 2) (rr_lt v0 13))) (lt63 (rr_lt v0 22))
              rw [show rr v0 2 ^^^ rr v0 13 ^^^ rr v0 22 = bg0 v0 from rfl] at y2
              have p1 := and_i64 (lt63 l4) (lt63 l5)
              have p2 := and_i64 (lt63 lnv) (lt63 l6)
              have p3 := xor_i64 (lt63 (and_lt (n := 32) v5 l4)) (lt63 (and_lt (n := 32) v6 lnv))
              rw [show (v4 &&& v5) ^^^ (nv &&& v6) = chF v4 v5 v6 by rw [hnv]; rfl] at p3
              have m1 := and_i64 (lt63 l0) (lt63 l1)
              have m2 := and_i64 (lt63 l0) (lt63 l2)
              have m3 := xor_i64 (lt63 (and_lt (n := 32) v1 l0)) (lt63 (and_lt (n := 32) v2 l0))
              have m4 := and_i64 (lt63 l1) (lt63 l2)
              have m5 := xor_i64 (lt63 (xor_lt (n := 32) (and_lt (n := 32) v1 l0) (and_lt (n := 32) v2 l0))) (lt63 (and_lt (n := 32) v2 l1))
              rw [show (v0 &&& v1) ^^^ (v0 &&& v2) ^^^ (v1 &&& v2) = mjF v0 v1 v2 from rfl] at m5
              have lB1 := bg1_lt v4
              have lB0 := bg0_lt v0
              have lCH := chF_lt v5 v6 l4
              have lMJ := mjF_lt v2 l0 l1
              have r6 := l3Right_lit v4 6 6 rfl l4 (by decide) (by decide)
              have r11 := l3Right_lit v4 11 11 rfl l4 (by decide) (by decide)
              have r25 := l3Right_lit v4 25 25 rfl l4 (by decide) (by decide)
              have r2 := l3Right_lit v0 2 2 rfl l0 (by decide) (by decide)
              have r13 := l3Right_lit v0 13 13 rfl l0 (by decide) (by decide)
              have r22 := l3Right_lit v0 22 22 rfl l0 (by decide) (by decide)
              generalize rr v4 6 ^^^ rr v4 11 = g1 at *
              generalize rr v0 2 ^^^ rr v0 13 = g2 at *
              generalize (v0 &&& v1) ^^^ (v0 &&& v2) = g8 at *
              generalize v4 &&& v5 = g3 at *
              generalize nv &&& v6 = g4 at *
              generalize v0 &&& v1 = g5 at *
              generalize v0 &&& v2 = g6 at *
              generalize v1 &&& v2 = g7 at *
              generalize bg1 v4 = B1 at *
              generalize bg0 v0 = B0 at *
              generalize chF v4 v5 v6 = CH at *
              generalize mjF v0 v1 v2 = MJ at *
              generalize rr v4 6 = q6 at *
              generalize rr v4 11 = q11 at *
              generalize rr v4 25 = q25 at *
              generalize rr v0 2 = q2 at *
              generalize rr v0 13 = q13 at *
              generalize rr v0 22 = q22 at *
              have n1 := not_i64 l4
              have hnot : ∀ w, Calls Try.prog 208 #[.int .i64 (bits .xor .i64 (-1) (v4 : Int))] w fun e w' => e = .returned (.int .i64 (nv : Int)) ∧ w = w' := fun w => by
                rw [n1]
                have := l3Word_any (-(v4 : Int) - 1) w
                rwa [show (-(v4 : Int) - 1) % 4294967296 = (nv : Int) by omega] at this
              clear n1
              have t1 : IntKind.i64.wrap ((v7 : Int) + (B1 : Int)) = (v7 : Int) + (B1 : Int) := by rw [IntKind.wrap_i64]; omega
              have t2 : IntKind.i64.wrap ((v7 : Int) + (B1 : Int) + (CH : Int)) = (v7 : Int) + (B1 : Int) + (CH : Int) := by rw [IntKind.wrap_i64]; omega
              have t3 : IntKind.i64.wrap ((v7 : Int) + (B1 : Int) + (CH : Int) + (kk : Int)) = (v7 : Int) + (B1 : Int) + (CH : Int) + (kk : Int) := by rw [IntKind.wrap_i64]; omega
              have t4 : IntKind.i64.wrap ((v7 : Int) + (B1 : Int) + (CH : Int) + (kk : Int) + (ww : Int)) = (T : Int) := by rw [IntKind.wrap_i64]; omega
              have u1 : IntKind.i64.wrap ((B0 : Int) + (MJ : Int)) = (U : Int) := by rw [IntKind.wrap_i64]; omega
              have s1 : IntKind.i64.wrap ((T : Int) + (U : Int)) = (TU : Int) := by rw [IntKind.wrap_i64]; omega
              have s2 : IntKind.i64.wrap ((v3 : Int) + (T : Int)) = (VT : Int) := by rw [IntKind.wrap_i64]; omega
              clear hT hU hTU hVT hnv lB1 lB0 lCH lMJ lk lw lnv l0 l1 l2 l3 l4 l5 l6 l7 hcK hcW hcH hck hc0 hg0
              go_wp2
              go_quiet (first | (go_at_call 207; with_reducible exact quiet_l (r6 _)) | (go_at_call 207; with_reducible exact quiet_l (r11 _)) | (go_at_call 207; with_reducible exact quiet_l (r25 _)) | (go_at_call 208; exact quiet_l (hnot _)))
              go_wp2
              go_quiet (first | (go_at_call 207; with_reducible exact quiet_la (r2 _)) | (go_at_call 207; with_reducible exact quiet_la (r13 _)) | (go_at_call 207; with_reducible exact quiet_la (r22 _)))
              go_wp2
              refine wp_region_last2 rfl rfl (by kernel_rfl) (by kernel_rfl) (by kernel_rfl) (by kernel_rfl) (by kernel_rfl) (by kernel_rfl) ?_
              simp only [List.dropLast]
              repeat (quiet_step ((go_at_call 208; exact quiet_la (l3Word_any _ _))))
              refine wpQuiet_nil ?_
              intro _ hw'
              obtain ⟨nq2, rfl⟩ := hw'
              refine wpOp_at rfl rfl (fun K' hK' => ?_)
              go_simp
              refine hK' _ _ ?_
              refine wpOp_at rfl rfl (fun K'' hK'' => ?_)
              go_simp
              go_wp2
              have hgk := HG.out
              go_roundg (63 - k)
              case measure => omega
              case rel => exact ⟨k + 1, _, 8, by omega, by omega, by go_num, rfl, by rw [HSt.out, HNN.out]; exact cells8 _ _ N HN0.out HN1.out HN2.out HN3.out HN4.out HN5.out HN6.out HN7.out, (below_drewN hb3 _).alloc hb3.size _⟩
              --END
            · have hk0 : k = 64 := by omega
              subst hk0
              clear hk64 hlt64 HG hbl
              have hzW3 : W2.heap.size ≤ wr.heap.size := hb3.size
              have hH3 : ∀ j, j < 8 → wr.cell? ⟨b0, off0 + j, none⟩ = some (natV h j) := fun j hj => keep_cell hb3 (hcH j hj)
              have hRl : ∀ j, j < 8 → rnds kF (wS (bW s)) h 64 j < 4294967296 := rnds_lt hlt 64
              have hbk : ∀ j, blk kF (bW s) h j = (h j + rnds kF (wS (bW s)) h 64 j) % 4294967296 := fun _ => rfl
              have HBK := Lib.hid hbk; clear hbk
              generalize hB : blk kF (bW s) h = BK at *
              have HB := Lib.hid hB; clear hB
              generalize rnds kF (wS (bW s)) h 64 = R at *
              clear hcH hcK hcW hck hc0 hg0
              generalize wr = W3 at *
              go_wp2
              go_loopg [19, 18] 8 (fun gk i v w4 => ∃ (k cap : Nat) (A : Option Addr), k ≤ 8 ∧ gk = 8 - k ∧ i = .int .i64 k ∧ v = .slice A k cap ∧ RowIn 3 1 W3.heap.size w4.heap.size w4 A k cap ((List.range k).map (natV BK)) ∧ Below W3.heap.size W3 w4)
              case atStart => exact ⟨0, 0, some ⟨W3.heap.size, 0, none⟩, by omega, rfl, rfl, rfl, RowIn.of_own (own_empty _ _ _ (Nat.le_refl _)), (Below.refl _ _).alloc (Nat.le_refl _) _⟩
              case round =>
                obtain ⟨k, cap, A, hk8, hgk, rfl, rfl, hrow, hb4⟩ := hrel
                have HG := Lib.hid hgk; clear hgk
                by_cases hlt8 : k < 8
                · have ik : (k : Int) < 8 := by omega
                  have e1 := keep_cell hb4 (hH3 k hlt8)
                  have e2 := keep_cell hb4 (hcell k hlt8)
                  have HL := Lib.hid (HBK.out k)
                  have lh := hlt k hlt8
                  have lr := hRl k hlt8
                  have HS := Lib.hid (range_snoc (natV BK) k)
                  simp only [natV, intV] at e1 e2
                  generalize h k = hv at *
                  generalize R k = vv at *
                  have t1 : IntKind.i64.wrap ((hv : Int) + (vv : Int)) = (hv : Int) + (vv : Int) := by rw [IntKind.wrap_i64]; omega
                  have hrd := hrow.keep ((Below.refl wr.heap.size wr).drew)
                  have hb0 : b0 < W3.heap.size := cell_lt (hH3 0 (by decide))
                  have hg0 : g < W3.heap.size := cell_lt (hcell 0 (by decide))
                  clear hH3 hcell hlt hRl
                  go_wp2
                  go_region_held3 (fun w' => w'.cell? ⟨b0, off0 + k, none⟩ = some (.int .i64 (hv : Int)) ∧ w'.cell? ⟨g, k, none⟩ = some (.int .i64 (vv : Int)) ∧ Below W3.heap.size W3 w') (first | exact hnew | (have hh := ‹_ ∧ _›; exact ⟨keep_alloc hh.1 _, keep_alloc hh.2.1 _, hh.2.2.alloc hh.2.2.size _⟩) | exact ⟨e1, e2, hb4.drew⟩ | (have hh := ‹_ ∧ _›; exact hh)) (first | (go_at_call 208; refine (l3Word_any _ _).mono ?_; rintro e w1 ⟨rfl, rfl⟩) | (have hS0 := ‹_ ∧ _›; refine step_app' (by rfl) (.tmp 231) (.tmp 242) 78 (by rfl) W3.heap.size 3 _ 1 8 Try.underlying78 infoInt rfl (by omega) (.slice A k cap) k ((List.range k).map (natV BK)) (by rfl) (hrd.keep ((Below.refl _ _).alloc (Nat.le_refl _) _)).own (some ⟨wr.heap.size, 0, none⟩) 1 1 [.int .i64 (((hv : Int) + (vv : Int)) % 4294967296)] (by rfl) (new1n _ _ _) (by simp [Value.oneCell']) (fun h => by cases h) (by unfold maxLen; omega) (by omega) hS0.2.2.size ?_; intro Q5 c5 w5 hown5 hg5 hb5 hob5; have hnew := (⟨(hb5.cell (p := ⟨b0, off0 + k, none⟩) hb0).trans hS0.1, (hb5.cell (p := ⟨g, k, none⟩) hg0).trans hS0.2.1, hS0.2.2.trans hb5⟩ : _ ∧ _ ∧ _); clear hS0) | fail)
                  go_wp2
                  have hv5 : Value.int .i64 (((hv : Int) + (vv : Int)) % 4294967296) = natV BK k := by
                    rw [natV, intV, HL.out]; congr 1
                  rw [hv5, HS.out] at hown5
                  have hgk := HG.out
                  go_roundg (7 - k)
                  case measure => omega
                  case rel => exact ⟨k + 1, c5, Q5, by omega, by omega, by go_num, rfl, RowIn.of_own hown5, hnew.2.2⟩
                · have hk0 : k = 8 := by omega
                  subst hk0
                  go_wp2
                  go_returns
                  obtain ⟨q, rfl⟩ := hrow.head (by omega)
                  exact ⟨q, cap, rfl, by have := (hrow.blk (g := q) (by simp [BlkOf])).1.1; omega, by rw [HB.out]; exact vals_range hrow.own, bthen (bthen hb hb3) hb4⟩

end Go.Proofs.Ytdphdnllhmnelaa
