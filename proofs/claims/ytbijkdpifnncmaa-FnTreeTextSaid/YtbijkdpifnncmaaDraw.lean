/- The draws' cursor: l1New, l1Byte, l1Below, l1Once, l1Pick, l1PickInt. -/
import Derived.Test.YtbijkdpifnncmaaCode0
import Derived.Test.YtbijkdpifnncmaaRow
import Derived.Test.YtbijkdpifnncmaaMem
import Derived.BigQuiet
import Derived.Deep.QuietTactic
namespace Go.Proofs.Ytbijkdpifnncmaa
open Go.RowKit

/-- x & 255, x & 0x3fffffff -/
def and255 (n : Int) : Int := ((BitVec.ofInt 64 n &&& BitVec.ofInt 64 255).toNat : Int)
theorem and255_in (n : Int) : 0 ≤ and255 n ∧ and255 n ≤ 255 := by
  unfold and255
  have h : (BitVec.ofInt 64 n &&& BitVec.ofInt 64 255).toNat ≤ 255 := by
    rw [BitVec.toNat_and]
    exact Nat.le_trans Nat.and_le_right (by decide)
  omega
theorem bits_and255 (n : Int) : bits .and .i64 n 255 = and255 n := by
  have h := and255_in n
  show IntKind.i64.wrap ((BitVec.ofInt 64 n &&& BitVec.ofInt 64 255).toNat : Int) = _
  unfold and255 at h ⊢
  rw [IntKind.wrap_i64]; omega
def andBig (n : Int) : Int := ((BitVec.ofInt 64 n &&& BitVec.ofInt 64 1073741823).toNat : Int)
theorem andBig_in (n : Int) : 0 ≤ andBig n ∧ andBig n ≤ 1073741823 := by
  unfold andBig
  have h : (BitVec.ofInt 64 n &&& BitVec.ofInt 64 1073741823).toNat ≤ 1073741823 := by
    rw [BitVec.toNat_and]
    exact Nat.le_trans Nat.and_le_right (by decide)
  omega
theorem bits_andBig (n : Int) : bits .and .i64 n 1073741823 = andBig n := by
  have h := andBig_in n
  show IntKind.i64.wrap ((BitVec.ofInt 64 n &&& BitVec.ofInt 64 1073741823).toNat : Int) = _
  unfold andBig at h ⊢
  rw [IntKind.wrap_i64]; omega
attribute [local irreducible] and255 andBig
attribute [local go_sem] bits_and255 bits_andBig

/-- a cursor in block g over a code -/
structure Cur (w : World) (g : Nat) : Prop where
  ex : ∃ (A : Option Addr) (n c i : Nat) (h : Int) (f : Nat → Int), w.cell? ⟨g, 0, none⟩ = some (.slice A n c) ∧ w.cell? ⟨g, 1, none⟩ = some (.int .i64 i) ∧ w.cell? ⟨g, 2, none⟩ = some (.int .i64 h) ∧
    CodeAt w A n f ∧ n ≤ 1048576 ∧ i ≤ n ∧ w.frozen? ⟨g, 1, none⟩ = false ∧ w.frozen? ⟨g, 2, none⟩ = false ∧ (0 < n → ∀ b off, A = some ⟨b, off, none⟩ → b < g)
theorem Ch.frozen {S : Nat → Prop} {w w' : World} (h : Ch S w w') {g o : Nat} (hg : g < w.heap.size) (hn : ¬ S g) : w'.frozen? ⟨g, o, none⟩ = w.frozen? ⟨g, o, none⟩ := by
  have hb := h.block g hg hn
  unfold World.frozen?
  simp only [hb]
theorem CodeAt.ch {S : Nat → Prop} {w w' : World} {A : Option Addr} {n g : Nat} {f : Nat → Int} (h : CodeAt w A n f) (hc : Ch S w w') (hb : 0 < n → ∀ b off, A = some ⟨b, off, none⟩ → b < g) (hS : ∀ k, S k → g ≤ k) : CodeAt w' A n f :=
  ⟨fun hn => by
    obtain ⟨b, off, rfl, hlt, hcell⟩ := h.vals hn
    exact ⟨b, off, rfl, Nat.lt_of_lt_of_le hlt hc.size, fun i hi => hc.cell (hcell i hi) (fun hs => by have := hS b hs; have := hb hn b off rfl; omega)⟩, h.bd⟩
theorem Cur.lt {w : World} {g : Nat} (h : Cur w g) : g < w.heap.size := by
  obtain ⟨_, _, _, _, _, _, h0, _⟩ := h.ex
  exact cell_lt h0
theorem Cur.ch {S : Nat → Prop} {w w' : World} {g : Nat} (h : Cur w g) (hc : Ch S w w') (hS : ∀ k, S k → g < k) : Cur w' g := by
  have hlt := h.lt
  obtain ⟨A, n, c, i, u, f, h0, h1, h2, hcode, hn, hi, f1, f2, hb⟩ := h.ex
  have hg : ¬ S g := fun hs => by have := hS g hs; omega
  exact ⟨A, n, c, i, u, f, hc.cell h0 hg, hc.cell h1 hg, hc.cell h2 hg, hcode.ch hc hb (fun k hk => by have := hS k hk; omega), hn, hi, (hc.frozen hlt hg).trans f1, (hc.frozen hlt hg).trans f2, hb⟩
theorem Cur.keep {w w' : World} {g : Nat} (h : Cur w g) (hb : Below w.heap.size w w') : Cur w' g := h.ch (S := fun _ => False) (Ch.of_below hb) (fun _ h => h.elim)
theorem Ch.one {w : World} {g o : Nat} {v : Value} : Ch (fun k => k = g) w (w.setCell ⟨g, o, none⟩ v) := (Ch.refl (S := fun k => k = g) w).setCell (p := ⟨g, o, none⟩) rfl v
theorem Cur.set1 {w : World} {g : Nat} {j n c : Nat} {A : Option Addr} (h : Cur w g) (h0 : w.cell? ⟨g, 0, none⟩ = some (.slice A n c)) (hj : j ≤ n) : Cur (w.setCell ⟨g, 1, none⟩ (.int .i64 j)) g := by
  have hlt := h.lt
  obtain ⟨A', n', c', i', u, f, k0, k1, k2, hcode, hn, hi, f1, f2, hb⟩ := h.ex
  rw [h0] at k0
  injection k0 with k0
  injection k0 with e1 e2 e3
  subst e1 e2 e3
  exact ⟨A, n, c, j, u, f, setoff h0 (.inr (by omega)), sethere k1, setoff k2 (.inr (by omega)), hcode.ch Ch.one hb (fun k hk => by omega), hn, hj, (World.frozen?_setCell _ _ _ _).trans f1, (World.frozen?_setCell _ _ _ _).trans f2, hb⟩
theorem Cur.set2 {w : World} {g : Nat} {v : Int} (h : Cur w g) : Cur (w.setCell ⟨g, 2, none⟩ (.int .i64 v)) g := by
  obtain ⟨A', n', c', i', u, f, k0, k1, k2, hcode, hn, hi, f1, f2, hb⟩ := h.ex
  exact ⟨A', n', c', i', v, f, setoff k0 (.inr (by omega)), setoff k1 (.inr (by omega)), sethere k2, hcode.ch Ch.one hb (fun k hk => by omega), hn, hi, (World.frozen?_setCell _ _ _ _).trans f1, (World.frozen?_setCell _ _ _ _).trans f2, hb⟩

theorem Ch.thenB {S : Nat → Prop} {w W W' : World} (h : Ch S w W) (hb : Below w.heap.size W W') : Ch S w W' :=
  ⟨hb.os.trans h.os, hb.tape.trans h.tape, hb.output.trans h.output, Nat.le_trans h.size hb.size, fun k hk hn => (hb.block k hk).trans (h.block k hk hn)⟩
theorem Cur.below {B g : Nat} {w w' : World} (h : Cur w g) (hb : Below B w w') (hg : g < B) : Cur w' g :=
  h.ch (S := fun k => B ≤ k) ⟨hb.os, hb.tape, hb.output, hb.size, fun k _ hn => hb.block k (by omega)⟩ (fun k hk => by omega)
theorem own_off {w w' : World} {g B e sz n : Nat} {v : Value} {xs : List Value} (h : w.ownsRow B e sz v n xs) (hc : Ch (fun k => k = g) w w') (hg : g < B) : w'.ownsRow B e sz v n xs := by
  obtain ⟨A, c, rfl⟩ := own_val h
  exact ((RowIn.of_own h).ch hc (fun k hk e => by unfold Iv at hk; omega)).own

theorem l1New_any (A : Option Addr) (n c : Nat) (f : Nat → Int) (w : World) (h : CodeAt w A n f) (hn : n ≤ 1048576) :
    Calls Try.prog 25 #[.slice A n c] w fun e w' => e = .returned (.pointer (some ⟨w.heap.size, 0, none⟩)) ∧ Cur w' w.heap.size ∧ Below w.heap.size w w' := by
  go_enter Try.func25, Try.ntmps25
  go_wp2
  go_loop [3, 4] (fun u i => ∃ (k : Nat) (x : Int), k ≤ n ∧ i = .int .i64 k ∧ u = .int .i64 x ∧ 0 ≤ x ∧ x ≤ 1073741823) (fun _ i => n - (intOf i).toNat)
  case atStart => exact ⟨0, 10101 + (n : Int), Nat.zero_le _, rfl, by go_num, by omega, by omega⟩
  case round =>
    obtain ⟨k, x, hk, rfl, rfl, hx0, hx1⟩ := hrel
    by_cases hlt : k < n
    · obtain ⟨b, off, rfl, hbl, hc⟩ := h.vals (by omega)
      have hck := hc k hlt
      have hfb := h.bd k
      clear hc
      by_cases h4 : (k : Int) < 4000
      · go_wp2
        have hb := andBig_in (x * 131 + f k + 7)
        exact ⟨⟨k + 1, _, by omega, by go_num, rfl, hb.1, hb.2⟩, by simp [intOf]; omega⟩
      · go_wp2
        go_returns
        refine ⟨rfl, ⟨_, n, c, 0, x, f, by simp [go_sem], by simp [go_sem], by simp [go_sem], h.keep (by go_grown), hn, Nat.zero_le _, by simp [go_sem], by simp [go_sem], fun _ b' off' e => ?_⟩, by go_grown⟩
        injection e with e; injection e with e _ _; omega
    · go_wp2
      go_returns
      refine ⟨rfl, ⟨A, n, c, 0, x, f, by simp [go_sem], by simp [go_sem], by simp [go_sem], h.keep (by go_grown), hn, Nat.zero_le _, by simp [go_sem], by simp [go_sem], fun h0 b' off' e => ?_⟩, by go_grown⟩
      obtain ⟨b, off, rfl, hbl, hc⟩ := h.vals h0
      injection e with e; injection e with e _ _; omega

set_option maxRecDepth 4000 in
set_option maxHeartbeats 400000 in
theorem l1Byte_any (g : Nat) (w : World) (h : Cur w g) :
    Calls Try.prog 67 #[.pointer (some ⟨g, 0, none⟩)] w fun e w' => ∃ x : Int, e = .returned (.int .i64 x) ∧ 0 ≤ x ∧ x ≤ 255 ∧ Cur w' g ∧ Ch (fun k => k = g) w w' := by
  have hlt := h.lt
  obtain ⟨A, n, c, i, u, f, k0, k1, k2, hcode, hn, hi, f1, f2, hb⟩ := h.ex
  by_cases hin : i < n
  · obtain ⟨b, off, rfl, hbl, hc⟩ := hcode.vals (by omega)
    have hck := hc i hin
    have hfb := hcode.bd i
    have hbg := hb (by omega) b off rfl
    clear hc hcode
    go_enter Try.func67, Try.ntmps67
    go_wp2
    go_quiet (fail)
    go_wp2
    go_quiet (fail)
    go_wp2
    go_quiet (fail)
    go_wp2
    go_returns
    have D : ∀ (W : World) (m : Nat), Ch (fun _ => False) W (W.drewN m) := fun W m => (Ch.refl W).drewN m
    exact ⟨_, rfl, (and255_in _).1, (and255_in _).2, (h.set2.ch (D _ _) (fun _ h => h.elim)).set1 (j := i + 1) ((D _ _).cell (setoff k0 (.inr (by omega))) (fun h => h)) (by omega), ((Ch.one.drewN _).trans Ch.one)⟩
  · go_enter Try.func67, Try.ntmps67
    go_wp2
    go_quiet (fail)
    go_wp2
    go_quiet (fail)
    go_wp2
    go_returns
    exact ⟨_, rfl, (and255_in _).1, (and255_in _).2, h.set2.ch (S := fun _ => False) (((Ch.refl _).drewN _).drewN _) (fun _ hh => False.elim hh), (Ch.one.drewN _).drewN _⟩

theorem l1Below_any (g : Nat) (n : Int) (w : World) (h : Cur w g) (hn : n ≤ 256) :
    Calls Try.prog 59 #[.pointer (some ⟨g, 0, none⟩), .int .i64 n] w fun e w' => ∃ x : Int, e = .returned (.int .i64 x) ∧ 0 ≤ x ∧ (0 < n → x < n) ∧ (n ≤ 0 → x = 0) ∧ Cur w' g ∧ Ch (fun k => k = g) w w' := by
  by_cases h0 : n ≤ 0
  · go_enter Try.func59, Try.ntmps59
    go_wp2
    go_returns
    exact ⟨0, rfl, by omega, fun h => by omega, fun _ => rfl, h, Ch.refl _⟩
  · go_enter Try.func59, Try.ntmps59
    go_wp2_with fail
    refine (l1Byte_any g _ h).mono ?_
    rintro e w1 ⟨x, rfl, hx0, hx1, hc, hch⟩
    go_wp2
    go_returns
    exact ⟨x % n, rfl, Int.emod_nonneg _ (by omega), fun h => Int.emod_lt_of_pos _ h, fun h => by omega, hc, hch⟩

theorem l1Once_any (g : Nat) (n : Int) (w : World) (h : Cur w g) (hn : n ≤ 256) :
    Calls Try.prog 34 #[.pointer (some ⟨g, 0, none⟩), .int .i64 n] w fun e w' => ∃ b : Bool, e = .returned (.bool b) ∧ Cur w' g ∧ Ch (fun k => k = g) w w' := by
  go_enter Try.func34, Try.ntmps34
  go_wp2_with fail
  refine (l1Below_any g _ _ h hn).mono ?_
  rintro e w1 ⟨x, rfl, hx0, hx1, _, hc, hch⟩
  go_wp2
  go_returns
  exact ⟨_, rfl, hc, hch⟩

theorem l1Pick_any (g : Nat) (A : Option Addr) (n c : Nat) (l : List ByteArray) (w : World) (h : Cur w g) (hl : StrsAt w A n l) (h0 : 0 < n) (hn : n ≤ 256) (hg : ∀ b off, A = some ⟨b, off, none⟩ → b ≠ g) :
    Calls Try.prog 49 #[.pointer (some ⟨g, 0, none⟩), .slice A n c] w fun e w' => ∃ i, i < n ∧ e = .returned (.string (sAt l i)) ∧ Cur w' g ∧ Ch (fun k => k = g) w w' := by
  obtain ⟨b, off, rfl, hbl, hcell⟩ := hl.at_ h0
  have hbg := hg b off rfl
  go_enter Try.func49, Try.ntmps49
  go_wp2_with fail
  refine (l1Below_any g _ _ h (by omega)).mono ?_
  rintro e w1 ⟨x, rfl, hx0, hx1, _, hc, hch⟩
  obtain ⟨i, rfl⟩ := Int.eq_ofNat_of_zero_le hx0
  have hi : i < n := by have := hx1 (by omega); omega
  have hci := hch.cell (hcell i hi) hbg
  go_wp2
  go_returns
  exact ⟨i, hi, rfl, hc, hch⟩
end Go.Proofs.Ytbijkdpifnncmaa
