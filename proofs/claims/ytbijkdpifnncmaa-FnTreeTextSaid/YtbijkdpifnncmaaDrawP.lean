/- The draws of paths: l30Path. -/
import Derived.Test.YtbijkdpifnncmaaDrawX
namespace Go.Proofs.Ytbijkdpifnncmaa
open Go.RowKit
theorem strs_new (w : World) (e : TypeId) (l : List ByteArray) : StrsAt (w.alloc (.cells (l.map Value.string).toArray e)) (some ⟨w.heap.size, 0, none⟩) l.length l := by
  refine ⟨rfl, fun _ => ⟨w.heap.size, 0, rfl, by simp, fun i hi => ?_⟩⟩
  rw [Nat.zero_add, World.cell?_alloc_new]
  simp [sAt, hi]
theorem sAt_le {l : List ByteArray} {m : Nat} (h : ∀ x ∈ l, x.size ≤ m) (i : Nat) : (sAt l i).size ≤ m := by
  unfold sAt
  by_cases hi : i < l.length
  · simp [hi]; exact h _ (List.getElem_mem hi)
  · simp [hi]
def pthA : List ByteArray := [⟨#[97]⟩, ⟨#[98]⟩, ⟨#[100, 105, 114]⟩, ⟨#[120]⟩]
def pthB : List ByteArray := [⟨#[97]⟩, ⟨#[98]⟩, ⟨#[102]⟩]
def pthC : List ByteArray := [⟨#[]⟩, ⟨#[47]⟩, ⟨#[97, 47]⟩, ⟨#[47, 97]⟩, ⟨#[65]⟩, ⟨#[97, 47, 47, 98]⟩, ⟨#[97, 47, 98, 47, 99, 47, 100]⟩, ⟨#[97, 98, 99, 100, 101, 102, 103, 104, 105]⟩]
theorem pthA_le (i : Nat) : (sAt pthA i).size ≤ 3 := sAt_le (by decide) i
theorem pthB_le (i : Nat) : (sAt pthB i).size ≤ 1 := sAt_le (by decide) i
theorem pthC_le (i : Nat) : (sAt pthC i).size ≤ 9 := sAt_le (by decide) i
theorem blk_ne {w : World} {g : Nat} (h : g < w.heap.size) : ∀ b off, (some ⟨w.heap.size, 0, none⟩ : Option Addr) = some ⟨b, off, none⟩ → b ≠ g := by
  intro b off e
  injection e with e; injection e with e _ _
  omega
set_option maxRecDepth 4000 in
set_option maxHeartbeats 400000 in
theorem l30Path_any (g : Nat) (w : World) (h : Cur w g) :
    Calls Try.prog 60 #[.pointer (some ⟨g, 0, none⟩)] w fun e w' => ∃ p : ByteArray, e = .returned (.string p) ∧ p.size ≤ 16 ∧ Cur w' g ∧ Ch (fun k => k = g) w w' := by
  have hlt := h.lt
  have al := (Below.refl w.heap.size w).alloc (Nat.le_refl _) (.cells (pthA.map Value.string).toArray 9)
  go_enter Try.func60, Try.ntmps60
  go_wp2_with fail
  refine (l1Pick_any g _ 4 _ pthA _ (h.keep al) (strs_new _ _ pthA) (by omega) (by omega) (blk_ne hlt)).mono ?_
  rintro e w1 ⟨i, hi, rfl, hc1, hch1⟩
  have hs1 := pthA_le i
  generalize sAt pthA i = p1 at *
  have hch1 := (Ch.of_below al).trans hch1
  clear al
  go_wp2_with fail
  refine (l1Below_any g _ _ hc1 (by omega)).mono ?_
  rintro e w2 ⟨x, rfl, hx0, hx1, _, hc2, hch2⟩
  obtain ⟨n, rfl⟩ := Int.eq_ofNat_of_zero_le hx0
  have hn : n < 3 := by have := hx1 (by omega); omega
  clear hx0 hx1
  have hchw := hch1.trans hch2
  go_wp2
  go_loopw [3, 4] (fun p n wr => ∃ (k : Nat) (q : ByteArray), n = .int .i64 k ∧ p = .string q ∧ q.size + 2 * k ≤ 7 ∧ Cur wr g ∧ Ch (fun k => k = g) w wr) (fun _ n _ => (intOf n).toNat)
  case atStart => exact ⟨n, p1, rfl, rfl, by omega, hc2, hchw⟩
  case round =>
    clear hc1 hc2 hch1 hch2 hchw
    obtain ⟨k, q, rfl, rfl, hq, hc, hch⟩ := hrel
    by_cases hpos : 0 < k
    · have hki : (0 : Int) < (k : Int) := by omega
      have hltr := hc.lt
      have al := (Below.refl wr.heap.size wr).alloc (Nat.le_refl _) (.cells (pthB.map Value.string).toArray 9)
      go_wp2_with fail
      refine (l1Pick_any g _ 3 _ pthB _ (hc.keep al) (strs_new _ _ pthB) (by omega) (by omega) (blk_ne hltr)).mono ?_
      rintro e w3 ⟨i, hi, rfl, hc3, hch3⟩
      have hs3 := pthB_le i
      generalize sAt pthB i = p3 at *
      go_wp2
      refine ⟨⟨k - 1, _, by congr 1; omega, rfl, ?_, hc3, (hch.trans (Ch.of_below al)).trans hch3⟩, by simp [intOf]; omega⟩
      simp only [ByteArray.size_append]
      have : (⟨#[47]⟩ : ByteArray).size = 1 := rfl
      omega
    · have hk0 : ¬ (0 : Int) < (k : Int) := by omega
      go_wp2_with fail
      refine (l1Once_any g _ _ hc (by omega)).mono ?_
      rintro e w3 ⟨b, rfl, hc3, hch3⟩
      have hchw := hch.trans hch3
      have hlt3 := hc3.lt
      cases b
      · go_wp2
        go_returns
        exact ⟨q, rfl, by omega, hc3, hchw⟩
      · have al := (Below.refl w3.heap.size w3).alloc (Nat.le_refl _) (.cells (pthC.map Value.string).toArray 9)
        go_wp2_with fail
        refine (l1Pick_any g _ 8 _ pthC _ (hc3.keep al) (strs_new _ _ pthC) (by omega) (by omega) (blk_ne hlt3)).mono ?_
        rintro e w4 ⟨i, hi, rfl, hc4, hch4⟩
        have hs4 := pthC_le i
        go_wp2
        go_returns
        exact ⟨_, rfl, by omega, hc4, (hchw.trans (Ch.of_below al)).trans hch4⟩
end Go.Proofs.Ytbijkdpifnncmaa
