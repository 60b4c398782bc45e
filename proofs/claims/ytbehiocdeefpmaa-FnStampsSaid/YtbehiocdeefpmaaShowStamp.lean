/- Contracts of ShowStamp. -/
import Derived.Test.YtbehiocdeefpmaaStamps
import Derived.Test.YtbehiocdeefpmaaReadFixed
import Derived.Deep.RegionHeld3
namespace Go.Proofs.Ytbehiocdeefpmaa
open Go.RowKit

def showStamp (a b c : Int) : ByteArray := if stampOkB a b c = true then fixS a 4 ++ fixS b 2 ++ fixS c 1 else ByteArray.empty

set_option maxHeartbeats 400000 in
theorem showStamp_impl (a b c : Int) (w : World) :
    Calls Try.prog 15 #[.agg #[.int .i64 a, .int .i64 b, .int .i64 c]] w fun e w' => e = .returned (.string (showStamp a b c)) ∧ Below w.heap.size w w' := by
  by_cases h1 : stampOkB a b c = true
  · obtain ⟨⟨ha0, ha1⟩, ⟨hb0, hb1⟩, ⟨hc0, hc1⟩⟩ := stampOkB_iff.1 h1
    have hfin := Lib.hid (show showStamp a b c = fixS a 4 ++ fixS b 2 ++ fixS c 1 by simp [showStamp, h1])
    have s1 := fixS_size a 4
    have s2 := fixS_size b 2
    have s3 := fixS_size c 1
    have q1 : ¬ 9223372036854775807 < (fixS a 4).size + (fixS b 2).size := by omega
    have q2 : ¬ 9223372036854775807 < (fixS a 4).size + (fixS b 2).size + (fixS c 1).size := by omega
    go_enter Try.func15, Try.ntmps15
    go_wp2_with (first | (go_at_call 34; refine (stampOk_impl _ _ _ _).mono ?_; rintro e w' ⟨rfl, rfl⟩))
    go_region_held3 (fun w' => w'.cell? ⟨w.heap.size, 0, none⟩ = some (.int .i64 a) ∧ w'.cell? ⟨w.heap.size, 1, none⟩ = some (.int .i64 b) ∧ w'.cell? ⟨w.heap.size, 2, none⟩ = some (.int .i64 c) ∧ Below w.heap.size w w')
      (first | (have hh := ‹_ ∧ _›; exact ⟨keep_cell hbw hh.1, keep_cell hbw hh.2.1, keep_cell hbw hh.2.2.1, bthen hh.2.2.2 hbw⟩) | (refine ⟨?_, ?_, ?_, by go_grown⟩ <;> simp [go_sem, World.cell?_alloc_past]; done))
      (first | (go_at_call 39; refine (fixed_impl _ _ _ (by omega)).mono ?_; rintro e w1 ⟨rfl, hbw⟩))
    have hb := (‹_ ∧ _› : _ ∧ _ ∧ _ ∧ Below w.heap.size w w1).2.2.2
    go_wp2
    go_returns
    exact ⟨by rw [hfin.out]; rfl, hb⟩
  · have hfin := Lib.hid (show showStamp a b c = ByteArray.empty by simp [showStamp, h1])
    go_enter Try.func15, Try.ntmps15
    go_wp2_with (first | (go_at_call 34; refine (stampOk_impl _ _ _ _).mono ?_; rintro e w' ⟨rfl, rfl⟩))
    go_returns
    exact ⟨by rw [hfin.out]; rfl, by go_grown⟩


/-- a stamp out of seven bytes -/
def rdStamp (s : ByteArray) : Int × Int × Int := (rdF (s.extract 0 4) 4, rdF (s.extract 4 6) 2, (bAt s 6 : Int))
def readStamp (s : ByteArray) : (Int × Int × Int) × Bool :=
  if s.size = 7 ∧ stampOkB (rdStamp s).1 (rdStamp s).2.1 (rdStamp s).2.2 = true then (rdStamp s, true) else ((0, 0, 0), false)
theorem readStamp_yes {s : ByteArray} {a b c : Int} (h7 : s.size = 7) (ha : rdF (s.extract 0 4) 4 = a) (hb : rdF (s.extract 4 6) 2 = b) (hc : (bAt s 6 : Int) = c) (h : stampOkB a b c = true) : readStamp s = ((a, b, c), true) := by
  subst ha hb hc
  exact if_pos ⟨h7, h⟩
theorem readStamp_no {s : ByteArray} {a b c : Int} (ha : rdF (s.extract 0 4) 4 = a) (hb : rdF (s.extract 4 6) 2 = b) (hc : (bAt s 6 : Int) = c) (h : ¬ stampOkB a b c = true) : readStamp s = ((0, 0, 0), false) := by
  subst ha hb hc
  exact if_neg (fun hh => h hh.2)
theorem rdN_ext {s t : ByteArray} : ∀ (k : Nat), (∀ i, i < k → bAt s i = bAt t i) → rdN s k = rdN t k
  | 0, _ => rfl
  | k + 1, h => by rw [rdN, rdN, rdN_ext k (fun i hi => h i (by omega)), h k (by omega)]
theorem bAt_extract {s : ByteArray} {a b i : Nat} (hb : b ≤ s.size) (hi : a + i < b) : bAt (s.extract a b) i = bAt s (a + i) := by
  have h1 : i < (s.extract a b).size := by simp [ByteArray.size_extract]; omega
  have h2 : a + i < s.size := by omega
  rw [← bAt_get h1, ← bAt_get h2, ByteArray.getElem_extract]
theorem rdF_congr {s t : ByteArray} {k : Nat} (h1 : 1 ≤ k) (h7 : k ≤ 7) (hs : k ≤ s.size) (ht : k ≤ t.size) (h : ∀ i, i < k → bAt s i = bAt t i) : rdF s k = rdF t k := by
  have e : ∀ u : ByteArray, k ≤ u.size → rdOk u k = true := fun u hu => by simp [rdOk, inB, hu]; omega
  unfold rdF
  rw [e s hs, e t ht]
  simp only [if_true, Int.toNat_natCast]
  rw [rdN_ext k h]

set_option maxHeartbeats 400000 in
theorem readStamp_impl (s : ByteArray) (w : World) (hs : s.size ≤ 9223372036854775807) :
    Calls Try.prog 16 #[.string s] w fun e w' => e = .returned (.tuple #[stampV (readStamp s).1, .bool (readStamp s).2]) ∧ Below w.heap.size w w' := by
  by_cases h7 : s.size = 7
  · have e1 : rdF s 4 = rdF (s.extract 0 4) 4 := rdF_congr (k := 4) (by omega) (by omega) (by omega) (by simp [ByteArray.size_extract]; omega) (fun i hi => by rw [bAt_extract (by omega) (by omega), Nat.zero_add])
    have e2 : rdF (s.extract 4 7) 2 = rdF (s.extract 4 6) 2 := rdF_congr (k := 2) (by omega) (by omega) (by simp [ByteArray.size_extract]; omega) (by simp [ByteArray.size_extract]; omega) (fun i hi => by rw [bAt_extract (by omega) (by omega), bAt_extract (by omega) (by omega)])
    have E1 := Lib.hid e1; have E2 := Lib.hid e2; clear e1 e2
    have H7 := Lib.hid h7
    have hlt7 : 6 < s.size := by omega
    have hb6 := bAt_get hlt7
    have hle6 := bAt_lt s 6
    have g7 : ((s.size : Int) != 7) = false := by simp [h7]
    have hx2 : (s.extract 4 7).size ≤ 9223372036854775807 := by simp [ByteArray.size_extract]; omega
    by_cases hok : stampOkB (rdF s 4) (rdF (s.extract 4 7) 2) (bAt s 6) = true
    · have hfin := Lib.hid (show readStamp s = ((rdF s 4, rdF (s.extract 4 7) 2, (bAt s 6 : Int)), true) from readStamp_yes h7 E1.out.symm E2.out.symm rfl hok)
      go_enter Try.func16, Try.ntmps16
      go_wp2_with (first | (go_at_call 40; refine (readFixed_impl _ _ _ (by first | assumption | omega)).mono ?_; rintro e w' ⟨rfl, rfl⟩) | (go_at_call 34; refine (stampOk_impl _ _ _ _).mono ?_; rintro e w' ⟨rfl, rfl⟩))
      go_returns
      exact ⟨by rw [hfin.out]; rfl, by go_grown⟩
    · have hfin := Lib.hid (show readStamp s = ((0, 0, 0), false) from readStamp_no E1.out.symm E2.out.symm rfl hok)
      go_enter Try.func16, Try.ntmps16
      go_wp2_with (first | (go_at_call 40; refine (readFixed_impl _ _ _ (by first | assumption | omega)).mono ?_; rintro e w' ⟨rfl, rfl⟩) | (go_at_call 34; refine (stampOk_impl _ _ _ _).mono ?_; rintro e w' ⟨rfl, rfl⟩))
      go_returns
      exact ⟨by rw [hfin.out]; rfl, by go_grown⟩
  · have hfin := Lib.hid (show readStamp s = ((0, 0, 0), false) by simp [readStamp, h7])
    have g7 : ((s.size : Int) != 7) = true := by simp; omega
    go_enter Try.func16, Try.ntmps16
    go_wp2_with (first | (go_at_call 40; refine (readFixed_impl _ _ _ (by first | assumption | omega)).mono ?_; rintro e w' ⟨rfl, rfl⟩) | (go_at_call 34; refine (stampOk_impl _ _ _ _).mono ?_; rintro e w' ⟨rfl, rfl⟩))
    go_returns
    exact ⟨by rw [hfin.out]; rfl, by go_grown⟩

end Go.Proofs.Ytbehiocdeefpmaa
