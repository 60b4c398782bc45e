/- The reader's state: contracts of num, cut, text, many. -/
import Derived.Test.YtbijkdpifnncmaaReadVar
import Derived.Test.YtbijkdpifnncmaaMem
import Derived.Test.YtbijkdpifnncmaaOwn
import Derived.BigQuiet
import Derived.Deep.QuietTactic
namespace Go.Proofs.Ytbijkdpifnncmaa
open Go.RowKit
attribute [local irreducible] rvF

/-- a reader: what is left, and whether something was amiss -/
abbrev Sc := ByteArray × Bool
noncomputable def numF (x : Sc) : Nat × Sc := if x.2 = true ∨ (rvF x.1).2 = 0 then (0, (x.1, true)) else ((rvF x.1).1, (x.1.extract (rvF x.1).2 x.1.size, false))
noncomputable def cutF (x : Sc) (n : Nat) : ByteArray × Sc := if x.2 = true ∨ ¬ n ≤ x.1.size then (.empty, (x.1, true)) else (x.1.extract 0 n, (x.1.extract n x.1.size, false))
noncomputable def textF (x : Sc) : ByteArray × Sc := cutF (numF x).2 (numF x).1
noncomputable def manyF (x : Sc) (most : Nat) : Nat × Sc := if (numF x).2.2 = true ∨ most < (numF x).1 then (0, ((numF x).2.1, true)) else ((numF x).1, (numF x).2)
theorem numF_le (x : Sc) : (numF x).1 ≤ 562949953421311 ∧ (numF x).2.1.size ≤ x.1.size := by
  have h := rvF_size x.1
  unfold numF
  split
  · exact ⟨by omega, Nat.le_refl _⟩
  · refine ⟨h.2.2, ?_⟩
    show (x.1.extract _ _).size ≤ _
    rw [ByteArray.size_extract]; omega
theorem scn_one {w : World} {g o : Nat} {v : Value} : Ch (fun k => k = g) w (w.setCell ⟨g, o, none⟩ v) := (Ch.refl (S := fun k => k = g) w).setCell (p := ⟨g, o, none⟩) rfl v
structure Scn (w : World) (g : Nat) (x : Sc) : Prop where
  c0 : w.cell? ⟨g, 0, none⟩ = some (.string x.1)
  c1 : w.cell? ⟨g, 1, none⟩ = some (.bool x.2)
  f0 : w.frozen? ⟨g, 0, none⟩ = false
  f1 : w.frozen? ⟨g, 1, none⟩ = false
  sz : x.1.size ≤ 9223372036854775807
theorem Scn.lt {w : World} {g : Nat} {x : Sc} (h : Scn w g x) : g < w.heap.size := by
  have := World.block_lt_of_cell? w ⟨g, 0, none⟩ h.c0; simpa using this
theorem Scn.ch {S : Nat → Prop} {w w' : World} {g : Nat} {x : Sc} (h : Scn w g x) (hc : Ch S w w') (hS : ¬ S g) : Scn w' g x :=
  ⟨hc.cell h.c0 hS, hc.cell h.c1 hS, (World.frozen?_of_block (hc.block g h.lt hS)).trans h.f0, (World.frozen?_of_block (hc.block g h.lt hS)).trans h.f1, h.sz⟩
theorem Scn.keep {w w' : World} {g : Nat} {x : Sc} (h : Scn w g x) (hb : Below w.heap.size w w') : Scn w' g x := h.ch (S := fun _ => False) (Ch.of_below hb) (fun h => h)
theorem Scn.set0 {w : World} {g : Nat} {x : Sc} {t : ByteArray} (h : Scn w g x) (ht : t.size ≤ 9223372036854775807) : Scn (w.setCell ⟨g, 0, none⟩ (.string t)) g (t, x.2) :=
  ⟨sethere h.c0, setoff h.c1 (.inr (by omega)), (World.frozen?_setCell _ _ _ _).trans h.f0, (World.frozen?_setCell _ _ _ _).trans h.f1, ht⟩
theorem Scn.set1 {w : World} {g : Nat} {x : Sc} {b : Bool} (h : Scn w g x) : Scn (w.setCell ⟨g, 1, none⟩ (.bool b)) g (x.1, b) :=
  ⟨setoff h.c0 (.inr (by omega)), sethere h.c1, (World.frozen?_setCell _ _ _ _).trans h.f0, (World.frozen?_setCell _ _ _ _).trans h.f1, h.sz⟩

set_option maxRecDepth 4000 in
set_option maxHeartbeats 400000 in
theorem num_impl (g : Nat) (x : Sc) (w : World) (h : Scn w g x) :
    Calls Try.prog 65 #[.pointer (some ⟨g, 0, none⟩)] w fun e w' => e = .returned (.int .i64 ((numF x).1 : Int)) ∧ Scn w' g (numF x).2 ∧ Ch (fun k => k = g) w w' := by
  obtain ⟨s, q⟩ := x
  have hlt := h.lt
  have k0 := h.c0
  have hs := h.sz
  have hz := rvF_size s
  have hnm : numF (s, q) = if q = true ∨ (rvF s).2 = 0 then (0, (s, true)) else ((rvF s).1, (s.extract (rvF s).2 s.size, false)) := rfl
  have HNM := Lib.hid hnm; clear hnm
  go_enter Try.func65, Try.ntmps65
  go_wp2_with fail
  refine (readVar_impl _ _ hs).mono ?_
  rintro e w1 ⟨rfl, hb1⟩
  have h1 := h.keep hb1
  have k1 := h1.c1
  have k0' := h1.c0
  have f0 := h1.f0
  have f1 := h1.f1
  have HZ := Lib.hid hz; clear hz
  obtain ⟨n, m, hnm⟩ : ∃ n m, rvF s = (n, m) := ⟨_, _, rfl⟩
  rw [hnm] at HNM HZ ⊢
  cases q with
  | true =>
    go_wp2
    go_returns
    rw [HNM.out, if_pos (by simp)]
    exact ⟨rfl, h1.set1, (Ch.of_below hb1).trans scn_one⟩
  | false =>
    by_cases hm : m = 0
    · subst hm
      go_wp2
      go_returns
      rw [HNM.out, if_pos (by simp)]
      exact ⟨rfl, h1.set1, (Ch.of_below hb1).trans scn_one⟩
    · have hm0 : ¬ ((m : Int) = 0) := by omega
      have hml : m ≤ s.size := HZ.out.2.1
      go_wp2
      go_returns
      rw [HNM.out, if_neg (by simp; omega)]
      exact ⟨rfl, h1.set0 (x := (s, false)) (by rw [ByteArray.size_extract]; omega), (Ch.of_below hb1).trans scn_one⟩

set_option maxRecDepth 4000 in
set_option maxHeartbeats 400000 in
theorem cut_impl (g n : Nat) (x : Sc) (w : World) (h : Scn w g x) (hn : n ≤ 562949953421311) :
    Calls Try.prog 33 #[.pointer (some ⟨g, 0, none⟩), .int .i64 n] w fun e w' => e = .returned (.string (cutF x n).1) ∧ Scn w' g (cutF x n).2 ∧ Ch (fun k => k = g) w w' := by
  obtain ⟨s, q⟩ := x
  have hlt := h.lt
  have k0 := h.c0
  have k1 := h.c1
  have f0 := h.f0
  have f1 := h.f1
  have hs := h.sz
  have hnm : cutF (s, q) n = if q = true ∨ ¬ n ≤ s.size then (.empty, (s, true)) else (s.extract 0 n, (s.extract n s.size, false)) := rfl
  have HNM := Lib.hid hnm; clear hnm
  have hin : inB (n : Int) 0 (s.size : Int) = decide (n ≤ s.size) := by simp [inB]
  have HI := Lib.hid hin; clear hin
  go_enter Try.func33, Try.ntmps33
  cases q with
  | true =>
    go_wp2
    go_returns
    rw [HNM.out, if_pos (by simp)]
    exact ⟨rfl, h.set1, scn_one⟩
  | false =>
    by_cases hm : n ≤ s.size
    · have hml : (n : Int) ≤ (s.size : Int) := by omega
      go_wp2_with (go_at_call 64; refine (within_any _ _ _ _).mono ?_; rintro e w1 ⟨rfl, rfl⟩; rw [HI.out, decide_eq_true hm])
      go_returns
      rw [HNM.out, if_neg (by simp; omega)]
      exact ⟨rfl, h.set0 (x := (s, false)) (by rw [ByteArray.size_extract]; omega), scn_one⟩
    · go_wp2_with (go_at_call 64; refine (within_any _ _ _ _).mono ?_; rintro e w1 ⟨rfl, rfl⟩; rw [HI.out, decide_eq_false hm])
      go_returns
      rw [HNM.out, if_pos (.inr hm)]
      exact ⟨rfl, h.set1, scn_one⟩

theorem text_impl (g : Nat) (x : Sc) (w : World) (h : Scn w g x) :
    Calls Try.prog 31 #[.pointer (some ⟨g, 0, none⟩)] w fun e w' => e = .returned (.string (textF x).1) ∧ Scn w' g (textF x).2 ∧ Ch (fun k => k = g) w w' := by
  have hz := (numF_le x).1
  go_enter Try.func31, Try.ntmps31
  go_wp2_with (first | (go_at_call 65; refine (num_impl _ _ _ h).mono ?_; rintro e w1 ⟨rfl, h1, c1⟩) | (go_at_call 33; refine (cut_impl _ _ _ _ h1 hz).mono ?_; rintro e w2 ⟨rfl, h2, c2⟩))
  go_returns
  exact ⟨rfl, h2, c1.trans c2⟩

theorem many_impl (g most : Nat) (x : Sc) (w : World) (h : Scn w g x) (hm : most ≤ 1048576) :
    Calls Try.prog 32 #[.pointer (some ⟨g, 0, none⟩), .int .i64 most] w fun e w' => e = .returned (.int .i64 ((manyF x most).1 : Int)) ∧ Scn w' g (manyF x most).2 ∧ Ch (fun k => k = g) w w' := by
  have hz := (numF_le x).1
  have hnm : manyF x most = if (numF x).2.2 = true ∨ most < (numF x).1 then (0, ((numF x).2.1, true)) else ((numF x).1, (numF x).2) := rfl
  have HNM := Lib.hid hnm; clear hnm
  go_enter Try.func32, Try.ntmps32
  go_wp2_with fail
  refine (num_impl _ _ _ h).mono ?_
  rintro e w1 ⟨rfl, h1, c1⟩
  obtain ⟨n, s, q, hq⟩ : ∃ n s q, numF x = (n, s, q) := ⟨_, _, _, rfl⟩
  rw [hq] at HNM h1 hz ⊢
  have k1 := h1.c1
  have f1 := h1.f1
  by_cases hn : most < n
  · have hni : (most : Int) < (n : Int) := by omega
    have k1' := sethere (u := .bool true) k1
    go_wp2
    go_returns
    rw [HNM.out, if_pos (.inr hn)]
    exact ⟨rfl, h1.set1, c1.trans scn_one⟩
  · have hni : ¬ (most : Int) < (n : Int) := by omega
    cases q with
    | true =>
      go_wp2
      go_returns
      rw [HNM.out, if_pos (by simp)]
      exact ⟨rfl, h1, c1⟩
    | false =>
      go_wp2
      go_returns
      rw [HNM.out, if_neg (by simp; omega)]
      exact ⟨rfl, h1, c1⟩
end Go.Proofs.Ytbijkdpifnncmaa
