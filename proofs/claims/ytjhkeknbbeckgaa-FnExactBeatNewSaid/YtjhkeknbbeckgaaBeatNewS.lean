/- Contract of the reference's BeatNew. -/
import Derived.Test.YtjhkeknbbeckgaaBeatNew
namespace Go.Proofs.Ytjhkeknbbeckgaa
open Go.RowKit
attribute [local go_sem ↓] mkInts3 mkBools3

theorem own3_base {w' : World} {B : Nat} {x : Int} {g1 g2 g3 : Nat} (h1 : B ≤ g1) (h2 : B ≤ g2) (h3 : B ≤ g3)
    (k1 : w'.heap[g1]? = some (.cells #[.int .i64 0, .int .i64 0, .int .i64 0] 3)) (k2 : w'.heap[g2]? = some (.cells #[.int .i64 x, .int .i64 x, .int .i64 x] 3)) (k3 : w'.heap[g3]? = some (.cells #[.bool false, .bool false, .bool false] 4))
    (d1 : g1 ≠ g2) (d2 : g1 ≠ g3) (d3 : g2 ≠ g3) : Own3 w' B (some ⟨g1, 0, none⟩) (some ⟨g2, 0, none⟩) (some ⟨g3, 0, none⟩) 3 (fun _ => 0) (fun _ => x) (fun _ => false) :=
  ⟨own_of3 h1 k1 rfl rfl rfl, own_of3 h2 k2 rfl rfl rfl, own_of3 h3 k3 rfl rfl rfl, fun _ p q => d1 (p.eq.trans q.eq.symm), fun _ p q => d2 (p.eq.trans q.eq.symm), fun _ p q => d3 (p.eq.trans q.eq.symm)⟩
theorem Own3.up {w : World} {B B' n : Nat} {A1 A2 A3 : Option Addr} {f1 f2 : Nat → Int} {f3 : Nat → Bool} (h : Own3 w B A1 A2 A3 n f1 f2 f3) (hb : B' ≤ B) : Own3 w B' A1 A2 A3 n f1 f2 f3 :=
  ⟨h.r1.up hb, h.r2.up hb, h.r3.up hb, h.d12, h.d13, h.d23⟩
theorem beatOk_new (x : Int) : beatOkB 3 3 3 (fun _ => 0) (fun _ => x) = inB x 1 1000 := by
  have h0 : inB 0 0 1000000 = true := by decide
  cases h : inB x 1 1000 <;> simp [beatOkB, beatAt, h, h0, List.range, List.range.loop]
theorem beatOk_spec3 (A1 A2 A3 : Option Addr) (x : Int) (B : Nat) (W : World) (h : Own3 W B A1 A2 A3 3 (fun _ => 0) (fun _ => x) (fun _ => false)) :
    Calls Try.prog 20 #[.agg #[.slice A1 3 3, .slice A2 3 3, .slice A3 3 3]] W fun e w' => e = .returned (.bool (inB x 1 1000)) ∧ Below W.heap.size W w' ∧ Own3 w' B A1 A2 A3 3 (fun _ => 0) (fun _ => x) (fun _ => false) :=
  (beatOk_spec A1 3 3 _ A2 3 3 _ A3 3 3 _ W h.at_).mono fun e w' ⟨he, hb⟩ => ⟨by rw [he, beatOk_new], hb, h.keep hb⟩
theorem post3 {Q : World → Prop} {W : World} {g : Nat} {u v x a b c : Value} (k0 : W.cell? ⟨g, 0, none⟩ = some a) (k1 : W.cell? ⟨g, 1, none⟩ = some b) (k2 : W.cell? ⟨g, 2, none⟩ = some c)
    (h : ∀ WF : World, WF.cell? ⟨g, 0, none⟩ = some u → WF.cell? ⟨g, 1, none⟩ = some v → WF.cell? ⟨g, 2, none⟩ = some x → Ch (fun k => k = g) W WF → Q WF) :
    Q (((W.setCell ⟨g, 0, none⟩ u).setCell ⟨g, 1, none⟩ v).setCell ⟨g, 2, none⟩ x) :=
  h _ (setoff (setoff (sethere k0) (.inr (by omega))) (.inr (by omega))) (setoff (sethere (setoff k1 (.inr (by omega)))) (.inr (by omega))) (sethere (setoff (setoff k2 (.inr (by omega))) (.inr (by omega))))
    ((((Ch.refl (S := fun k => k = g) W).setCell (p := ⟨g, 0, none⟩) rfl _).setCell (p := ⟨g, 1, none⟩) rfl _).setCell (p := ⟨g, 2, none⟩) rfl _)

set_option maxHeartbeats 2000000 in
theorem beatNew_spec_yes (x : Int) (w : World) (hok : inB x 1 1000 = true) : Calls Try.prog 35 #[.int .i64 x] w (BeatNewR x w) := by
  have HX := Lib.hid hok; clear hok
  go_enter Try.func35, Try.ntmps35
  go_wp2
  go_region
  all_goals go_wp2_with fail
  all_goals
    refine (beatOk_spec3 _ _ _ x (w.heap.size + 1) _ (by
      refine own3_base ?_ ?_ ?_ ?_ ?_ ?_ ?_ ?_ ?_
      all_goals first
        | omega
        | (refine hp_drew ?_; repeat (first | exact hp_new (by simp) | refine hp_old ?_)))).mono ?_
    rintro e w2 ⟨rfl, hb2, hO⟩
    obtain ⟨hc2, hf2⟩ := bcell hb2
    have hz2 := hb2.size
    try simp at hz2
    have hBw : Below w.heap.size w w2 := bthen (by go_grown) hb2
    rw [HX.out]
    go_wp2
    refine post3 (Q := fun WF => bodyPost _ _ _ _ _ WF) (keep_cell hb2 (v := .slice none 0 0) (by simp [go_sem])) (keep_cell hb2 (v := .slice none 0 0) (by simp [go_sem])) (keep_cell hb2 (v := .slice none 0 0) (by simp [go_sem])) ?_
    intro WF r0 r1 r2 hC
    refine bodyPost_ret (v := .tuple #[.agg #[.slice (some ⟨_, 0, none⟩) 3 3, .slice (some ⟨_, 0, none⟩) 3 3, .slice (some ⟨_, 0, none⟩) 3 3], .bool true]) (by simp [results, Try.results35, go_sem, r0, r1, r2]; exact ⟨rfl, rfl, rfl⟩) rfl ?_
    exact ⟨_, _, _, 3, by rw [HX.out]; rfl, by rw [HX.out], (hO.ch hC (fun b hb h => by have := hO.lt hb; omega)).up (by omega), hBw.trans (hC.below (fun k hk => by omega) (by omega))⟩

set_option maxHeartbeats 2000000 in
theorem beatNew_spec_no (x : Int) (w : World) (hok : inB x 1 1000 = false) : Calls Try.prog 35 #[.int .i64 x] w (BeatNewR x w) := by
  have HX := Lib.hid hok; clear hok
  go_enter Try.func35, Try.ntmps35
  go_wp2
  go_region
  all_goals go_wp2_with fail
  all_goals
    refine (beatOk_spec3 _ _ _ x (w.heap.size + 1) _ (by
      refine own3_base ?_ ?_ ?_ ?_ ?_ ?_ ?_ ?_ ?_
      all_goals first
        | omega
        | (refine hp_drew ?_; repeat (first | exact hp_new (by simp) | refine hp_old ?_)))).mono ?_
    rintro e w2 ⟨rfl, hb2, hO⟩
    obtain ⟨hc2, hf2⟩ := bcell hb2
    have hz2 := hb2.size
    try simp at hz2
    have hBw : Below w.heap.size w w2 := bthen (by go_grown) hb2
    rw [HX.out]
    go_wp2
    refine post3 (Q := fun WF => bodyPost _ _ _ _ _ WF) (keep_cell hb2 (v := .slice none 0 0) (by simp [go_sem])) (keep_cell hb2 (v := .slice none 0 0) (by simp [go_sem])) (keep_cell hb2 (v := .slice none 0 0) (by simp [go_sem])) ?_
    intro WF r0 r1 r2 hC
    refine bodyPost_ret (v := .tuple #[.agg #[.slice none 0 0, .slice none 0 0, .slice none 0 0], .bool false]) (by simp [results, Try.results35, go_sem, r0, r1, r2]) rfl ?_
    exact ⟨none, none, none, 0, by rw [HX.out]; rfl, by rw [HX.out], own3_nil, hBw.trans (hC.below (fun k hk => by omega) (by omega))⟩
end Go.Proofs.Ytjhkeknbbeckgaa
