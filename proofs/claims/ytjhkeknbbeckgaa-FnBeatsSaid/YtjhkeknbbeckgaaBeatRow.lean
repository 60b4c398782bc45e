/- The laws' helpers on Beat in one shape: rows of any lengths and capacities. -/
import Derived.Test.YtjhkeknbbeckgaaCopyBeat
namespace Go.Proofs.Ytjhkeknbbeckgaa
open Go.RowKit

section
variable {lo hi lo' hi' : Nat} {w w' : World} {A1 : Option Addr} {n1 c1 : Nat} {f1 : Nat → Int} {A2 : Option Addr} {n2 c2 : Nat} {f2 : Nat → Int} {A3 : Option Addr} {n3 c3 : Nat} {f3 : Nat → Bool}
theorem BtIn.ch {S : Nat → Prop} (h : BtIn lo hi w A1 n1 c1 f1 A2 n2 c2 f2 A3 n3 c3 f3) (hc : Ch S w w') (hS : ∀ k, Iv lo hi k → ¬ S k) : BtIn lo hi w' A1 n1 c1 f1 A2 n2 c2 f2 A3 n3 c3 f3 :=
  ⟨h.r1.ch hc hS, h.r2.ch hc hS, h.r3.ch hc hS, h.d12, h.d13, h.d23⟩
theorem BtIn.keep (h : BtIn lo hi w A1 n1 c1 f1 A2 n2 c2 f2 A3 n3 c3 f3) (hb : Below w.heap.size w w') : BtIn lo hi w' A1 n1 c1 f1 A2 n2 c2 f2 A3 n3 c3 f3 :=
  h.ch (S := fun _ => False) (Ch.of_below hb) (fun _ _ h => h)
theorem BtIn.wide (h : BtIn lo hi w A1 n1 c1 f1 A2 n2 c2 f2 A3 n3 c3 f3) (h1 : lo' ≤ lo) (h2 : hi ≤ hi') : BtIn lo' hi' w A1 n1 c1 f1 A2 n2 c2 f2 A3 n3 c3 f3 :=
  ⟨h.r1.wide h1 h2, h.r2.wide h1 h2, h.r3.wide h1 h2, h.d12, h.d13, h.d23⟩
theorem BtIn.at_ (h : BtIn lo hi w A1 n1 c1 f1 A2 n2 c2 f2 A3 n3 c3 f3) : BtAt w A1 n1 f1 A2 n2 f2 A3 n3 f3 := ⟨h.r1.vals, h.r2.vals, h.r3.vals⟩
theorem BtIn.nil : BtIn lo hi w none 0 0 f1 none 0 0 f2 none 0 0 f3 := ⟨RowF.nil, RowF.nil, RowF.nil, fun _ h => h.no.elim, fun _ h => h.no.elim, fun _ h => h.no.elim⟩
theorem BtIn.of_own {g1 g2 g3 : Nat} (h : BtOwn w lo g1 n1 f1 g2 n2 f2 g3 n3 f3) : BtIn lo w.heap.size w (some ⟨g1, 0, none⟩) n1 n1 f1 (some ⟨g2, 0, none⟩) n2 n2 f2 (some ⟨g3, 0, none⟩) n3 n3 f3 := by
  obtain ⟨⟨x1, o1, h1⟩, ⟨x2, o2, h2⟩, ⟨x3, o3, h3⟩, d1, d2⟩ := h
  exact ⟨RowF.of_own o1 h1, RowF.of_own o2 h2, RowF.of_own o3 h3, fun b p q => by have := p.eq; have := q.eq; omega, fun b p q => by have := p.eq; have := q.eq; omega, fun b p q => by have := p.eq; have := q.eq; omega⟩
end
def upd {α : Type} (f : Nat → α) (m : Nat) (v : α) : Nat → α := fun i => if i = m then v else f i
theorem upd_int (f : Nat → Int) (m : Nat) (v : Int) : (fun i => if i = m then Value.int .i64 v else intV f i) = intV (upd f m v) := by
  funext i; unfold intV upd; by_cases h : i = m <;> simp [h]
theorem upd_bool (f : Nat → Bool) (m : Nat) (v : Bool) : (fun i => if i = m then Value.bool v else boolV f i) = boolV (upd f m v) := by
  funext i; unfold boolV upd; by_cases h : i = m <;> simp [h]
section
variable {lo hi : Nat} {w : World} {A1 : Option Addr} {n1 c1 : Nat} {f1 : Nat → Int} {A2 : Option Addr} {n2 c2 : Nat} {f2 : Nat → Int} {A3 : Option Addr} {n3 c3 : Nat} {f3 : Nat → Bool} {g : Nat}
theorem ch_one {w : World} {g j : Nat} {v : Value} : Ch (fun k => k = g) w (w.setCell ⟨g, j, none⟩ v) := (Ch.refl (S := fun k => k = g) w).setCell (p := ⟨g, j, none⟩) rfl v
theorem blkOf_self {g : Nat} : BlkOf (some ⟨g, 0, none⟩) g := by simp [BlkOf]
theorem BtIn.set1 (h : BtIn lo hi w (some ⟨g, 0, none⟩) n1 c1 f1 A2 n2 c2 f2 A3 n3 c3 f3) (m : Nat) (v : Int) :
    BtIn lo hi (w.setCell ⟨g, m, none⟩ (.int .i64 v)) (some ⟨g, 0, none⟩) n1 c1 (upd f1 m v) A2 n2 c2 f2 A3 n3 c3 f3 ∧ Ch (Iv lo hi) w (w.setCell ⟨g, m, none⟩ (.int .i64 v)) := by
  have h1 := h.r1.store m (.int .i64 v)
  rw [upd_int] at h1
  exact ⟨⟨h1, h.r2.chb ch_one (fun b hb e => h.d12 b (by subst e; exact blkOf_self) hb), h.r3.chb ch_one (fun b hb e => h.d13 b (by subst e; exact blkOf_self) hb), h.d12, h.d13, h.d23⟩, ch_one.mono fun k hk => by subst hk; exact (h.r1.blk blkOf_self).1⟩
theorem BtIn.set2 (h : BtIn lo hi w A1 n1 c1 f1 (some ⟨g, 0, none⟩) n2 c2 f2 A3 n3 c3 f3) (m : Nat) (v : Int) :
    BtIn lo hi (w.setCell ⟨g, m, none⟩ (.int .i64 v)) A1 n1 c1 f1 (some ⟨g, 0, none⟩) n2 c2 (upd f2 m v) A3 n3 c3 f3 ∧ Ch (Iv lo hi) w (w.setCell ⟨g, m, none⟩ (.int .i64 v)) := by
  have h1 := h.r2.store m (.int .i64 v)
  rw [upd_int] at h1
  exact ⟨⟨h.r1.chb ch_one (fun b hb e => h.d12 b hb (by subst e; exact blkOf_self)), h1, h.r3.chb ch_one (fun b hb e => h.d23 b (by subst e; exact blkOf_self) hb), h.d12, h.d13, h.d23⟩, ch_one.mono fun k hk => by subst hk; exact (h.r2.blk blkOf_self).1⟩
theorem BtIn.set3 (h : BtIn lo hi w A1 n1 c1 f1 A2 n2 c2 f2 (some ⟨g, 0, none⟩) n3 c3 f3) (m : Nat) (v : Bool) :
    BtIn lo hi (w.setCell ⟨g, m, none⟩ (.bool v)) A1 n1 c1 f1 A2 n2 c2 f2 (some ⟨g, 0, none⟩) n3 c3 (upd f3 m v) ∧ Ch (Iv lo hi) w (w.setCell ⟨g, m, none⟩ (.bool v)) := by
  have h1 := h.r3.store m (.bool v)
  rw [upd_bool] at h1
  exact ⟨⟨h.r1.chb ch_one (fun b hb e => h.d13 b hb (by subst e; exact blkOf_self)), h.r2.chb ch_one (fun b hb e => h.d23 b hb (by subst e; exact blkOf_self)), h1, h.d12, h.d13, h.d23⟩, ch_one.mono fun k hk => by subst hk; exact (h.r3.blk blkOf_self).1⟩
end
theorem beat_to (A1 : Option Addr) (n1 c1 : Nat) (f1 : Nat → Int) (A2 : Option Addr) (n2 c2 : Nat) (f2 : Nat → Int) (A3 : Option Addr) (n3 c3 : Nat) (f3 : Nat → Bool) (w : World)
    (h : BtAt w A1 n1 f1 A2 n2 f2 A3 n3 f3) (h1 : n1 ≤ 16777216) (h2 : n2 ≤ 16777216) (h3 : n3 ≤ 16777216) :
    Calls Try.prog 32 #[.agg #[.slice A1 n1 c1, .slice A2 n2 c2, .slice A3 n3 c3]] w fun e w' => ∃ B1 B2 B3, e = .returned (.agg #[.slice B1 n1 n1, .slice B2 n2 n2, .slice B3 n3 n3]) ∧
      BtIn w.heap.size w'.heap.size w' B1 n1 n1 f1 B2 n2 n2 f2 B3 n3 n3 f3 ∧ Below w.heap.size w w' :=
  (toBeat_any A1 n1 c1 f1 A2 n2 c2 f2 A3 n3 c3 f3 w h h1 h2 h3).mono fun e w' ⟨g1, g2, g3, he, ho, hb⟩ => ⟨_, _, _, he, BtIn.of_own ho, hb⟩

theorem beat_mark (A1 : Option Addr) (n1 c1 : Nat) (f1 : Nat → Int) (A2 : Option Addr) (n2 c2 : Nat) (f2 : Nat → Int) (A3 : Option Addr) (n3 c3 : Nat) (f3 : Nat → Bool) (k : Int) (lo hi : Nat) (w : World)
    (h : BtIn lo hi w A1 n1 c1 f1 A2 n2 c2 f2 A3 n3 c3 f3) (h1 : n1 ≤ 16777216) (h2 : n2 ≤ 16777216) (h3 : n3 ≤ 16777216) (hk0 : 0 ≤ k) (hk1 : k ≤ 288230376151711744) :
    Calls Try.prog 36 #[.agg #[.slice A1 n1 c1, .slice A2 n2 c2, .slice A3 n3 c3], .int .i64 k] w fun e w' => e = .returned (.int .i64 (k + n1 + n2 + n3)) ∧
      BtIn lo hi w' A1 n1 c1 (mkI k) A2 n2 c2 (mkI (k + n1)) A3 n3 c3 (mkB (k + n1 + n2)) ∧ Ch (Iv lo hi) w w' := by
  have i1 := fun b hb => (h.r1.blk (g := b) hb)
  have i2 := fun b hb => (h.r2.blk (g := b) hb)
  have i3 := fun b hb => (h.r3.blk (g := b) hb)
  have al := (Below.refl w.heap.size w).alloc (Nat.le_refl _) (.cells #[.slice A1 n1 c1, .slice A2 n2 c2, .slice A3 n3 c3] 27)
  go_enter Try.func36, Try.ntmps36
  go_wp2_with fail
  refine (markInts_row A1 n1 c1 _ k lo hi _ _ (h.r1.keep al) h1 hk0 (by omega)).mono ?_
  rintro e w1 ⟨rfl, ho1, hc1⟩
  have z1 : w1.cell? ⟨w.heap.size, 1, none⟩ = some (.slice A2 n2 c2) := hc1.cell (by simp [go_sem]) (fun hb => by have := (i1 _ hb).2; omega)
  have z2 : w1.cell? ⟨w.heap.size, 2, none⟩ = some (.slice A3 n3 c3) := hc1.cell (by simp [go_sem]) (fun hb => by have := (i1 _ hb).2; omega)
  have C1 : Ch (Iv lo hi) w w1 := (Ch.of_below al).trans (hc1.mono fun b hb => (i1 b hb).1)
  have r2 := ((h.r2.keep al).chb hc1 (fun b hb hb2 => h.d12 b hb2 hb))
  have r3 := ((h.r3.keep al).chb hc1 (fun b hb hb2 => h.d13 b hb2 hb))
  go_wp2_with fail
  refine (markInts_row A2 n2 c2 _ _ lo hi _ _ r2 h2 (by omega) (by omega)).mono ?_
  rintro e w2 ⟨rfl, ho2, hc2⟩
  have z3 : w2.cell? ⟨w.heap.size, 2, none⟩ = some (.slice A3 n3 c3) := hc2.cell z2 (fun hb => by have := (i2 _ hb).2; omega)
  have C2 : Ch (Iv lo hi) w w2 := C1.trans (hc2.mono fun b hb => (i2 b hb).1)
  have r3' := r3.chb hc2 (fun b hb hb2 => h.d23 b hb2 hb)
  have q1 := ho1.chb hc2 (fun b hb hb2 => h.d12 b hb hb2)
  go_wp2_with fail
  refine (markBools_row A3 n3 c3 _ _ lo hi _ _ r3' h3 (by omega) (by omega)).mono ?_
  rintro e w3 ⟨rfl, ho3, hc3⟩
  go_wp2
  go_returns
  exact ⟨rfl, ⟨q1.chb hc3 (fun b hb hb2 => h.d13 b hb hb2), ho2.chb hc3 (fun b hb hb2 => h.d23 b hb hb2), ho3, h.d12, h.d13, h.d23⟩, C2.trans (hc3.mono fun b hb => (i3 b hb).1)⟩

theorem beat_held (A1 : Option Addr) (n1 c1 : Nat) (A2 : Option Addr) (n2 c2 : Nat) (A3 : Option Addr) (n3 c3 : Nat) (k : Int) (w : World)
    (h : BtAt w A1 n1 (mkI k) A2 n2 (mkI (k + n1)) A3 n3 (mkB (k + n1 + n2))) (h1 : n1 ≤ 16777216) (h2 : n2 ≤ 16777216) (h3 : n3 ≤ 16777216) (hk0 : 0 ≤ k) (hk1 : k ≤ 288230376151711744) :
    Calls Try.prog 37 #[.agg #[.slice A1 n1 c1, .slice A2 n2 c2, .slice A3 n3 c3], .int .i64 k] w fun e w' => e = .returned (.int .i64 (k + n1 + n2 + n3)) ∧ Below w.heap.size w w' := by
  go_enter Try.func37, Try.ntmps37
  go_wp2_with fail
  refine (heldInts_row _ _ _ _ _ (h.1.keep (by go_grown)) h1 hk0 (by omega)).mono ?_
  rintro e w1 ⟨rfl, rfl⟩
  go_wp2_with fail
  refine (heldInts_row _ _ _ _ _ (h.2.1.keep (by go_grown)) h2 (by omega) (by omega)).mono ?_
  rintro e w1 ⟨rfl, rfl⟩
  go_wp2_with fail
  refine (heldBools_row _ _ _ _ _ (h.2.2.keep (by go_grown)) h3 (by omega) (by omega)).mono ?_
  rintro e w1 ⟨rfl, rfl⟩
  go_wp2
  go_returns
  exact ⟨rfl, by go_grown⟩
end Go.Proofs.Ytjhkeknbbeckgaa
