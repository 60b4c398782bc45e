/- Contracts of the laws' marks on []int and []bool: a row is overwritten with marks; marks are read back. -/
import Derived.Test.YtjhkeknbbeckgaaLawBeats
namespace Go.Proofs.Ytjhkeknbbeckgaa
open Go.RowKit

def markI (k : Int) (j : Nat) : Int := k + (j : Int)
def markB (k : Int) (j : Nat) : Bool := (k + (j : Int)) % 3 == 0
def BlockOf (A : Option Addr) (b : Nat) : Prop := A.map Addr.block = some b

theorem own_some {w : World} {base e n c : Nat} {A : Option Addr} {xs : List Value} (h : w.ownsRow base e 1 (.slice A n c) n xs) (hn : 0 < n) : ∃ g, A = some ⟨g, 0, none⟩ := by
  rcases own_form h with ⟨_, h0, _⟩ | ⟨g, hA, _⟩
  · omega
  · exact ⟨g, hA⟩

theorem markInts_any (A : Option Addr) (n c : Nat) (f : Nat → Value) (k0 : Int) (base e : Nat) (w : World) (h : OwnV w base e (.slice A n c) n f) (hn : n ≤ 16777216) (hk0 : 0 ≤ k0) (hk1 : k0 ≤ 4611686018427387904) :
    Calls Try.prog 29 #[.slice A n c, .int .i64 k0] w fun e' w' => e' = .returned (.int .i64 (k0 + n)) ∧ OwnV w' base e (.slice A n c) n (intV (markI k0)) ∧ Ch (BlockOf A) w w' := by
  go_enter Try.func29, Try.ntmps29
  go_wp2
  go_loopw [1, 5] (fun u i wr => ∃ (k : Nat) (xs : List Value), k ≤ n ∧ i = .int .i64 k ∧ u = .int .i64 (k0 + k) ∧ wr.ownsRow base e 1 (.slice A n c) n xs ∧ (∀ j, j < k → xs[j]? = some (intV (markI k0) j)) ∧ Ch (BlockOf A) w wr) (fun _ i _ => n - (intOf i).toNat)
  case atStart =>
    obtain ⟨xs, ho, hx⟩ := h
    exact ⟨0, xs, Nat.zero_le _, rfl, by simp, ho, fun j hj => absurd hj (by omega), Ch.refl _⟩
  case round =>
    obtain ⟨k, xs, hk, rfl, rfl, hown, hx, hb⟩ := hrel
    have HX := Lib.hid hx; clear hx
    by_cases hlt : k < n
    · obtain ⟨g, rfl⟩ := own_some hown (by omega)
      obtain ⟨old, hold⟩ := own_cell hown (j := k) (by omega)
      have hfr := hown.frozenAt k
      go_wp2
      obtain ⟨hown2, hg2⟩ := hown.stored k (.int .i64 (k0 + k))
      exact ⟨⟨k + 1, _, by omega, by go_num, by congr 1; push_cast; omega, hown2, set_upto (n := n) (by simpa using hown.1) hlt HX.out rfl, hb.setCell (p := ⟨g, k, none⟩) rfl _⟩, by simp [intOf]; omega⟩
    · go_wp2
      go_returns
      have : k = n := by omega
      subst this
      exact ⟨rfl, ⟨xs, hown, HX.out⟩, hb⟩

theorem heldInts_any (A : Option Addr) (n c : Nat) (k0 : Int) (w : World) (h : ValsAt w A n (intV (markI k0))) (hn : n ≤ 16777216) (hk0 : 0 ≤ k0) (hk1 : k0 ≤ 4611686018427387904) :
    Calls Try.prog 30 #[.slice A n c, .int .i64 k0] w fun e' w' => e' = .returned (.int .i64 (k0 + n)) ∧ w = w' := by
  go_enter Try.func30, Try.ntmps30
  go_wp2
  go_loop [1, 5] (fun u i => ∃ (k : Nat), k ≤ n ∧ i = .int .i64 k ∧ u = .int .i64 (k0 + k)) (fun _ i => n - (intOf i).toNat)
  case atStart => exact ⟨0, Nat.zero_le _, rfl, by simp⟩
  case round =>
    obtain ⟨k, hk, rfl, rfl⟩ := hrel
    by_cases hlt : k < n
    · obtain ⟨b, off, rfl, hbl, hc⟩ := h (by omega)
      have hck := hc k hlt
      clear hc
      unfold intV markI at hck
      go_wp2
      exact ⟨⟨k + 1, by omega, by go_num, by congr 1; push_cast; omega⟩, by simp [intOf]; omega⟩
    · go_wp2
      go_returns
      have : k = n := by omega
      subst this
      exact ⟨rfl, rfl⟩

theorem markBools_any (A : Option Addr) (n c : Nat) (f : Nat → Value) (k0 : Int) (base e : Nat) (w : World) (h : OwnV w base e (.slice A n c) n f) (hn : n ≤ 16777216) (hk0 : 0 ≤ k0) (hk1 : k0 ≤ 4611686018427387904) :
    Calls Try.prog 47 #[.slice A n c, .int .i64 k0] w fun e' w' => e' = .returned (.int .i64 (k0 + n)) ∧ OwnV w' base e (.slice A n c) n (boolV (markB k0)) ∧ Ch (BlockOf A) w w' := by
  go_enter Try.func47, Try.ntmps47
  go_wp2
  go_loopw [1, 5] (fun u i wr => ∃ (k : Nat) (xs : List Value), k ≤ n ∧ i = .int .i64 k ∧ u = .int .i64 (k0 + k) ∧ wr.ownsRow base e 1 (.slice A n c) n xs ∧ (∀ j, j < k → xs[j]? = some (boolV (markB k0) j)) ∧ Ch (BlockOf A) w wr) (fun _ i _ => n - (intOf i).toNat)
  case atStart =>
    obtain ⟨xs, ho, hx⟩ := h
    exact ⟨0, xs, Nat.zero_le _, rfl, by simp, ho, fun j hj => absurd hj (by omega), Ch.refl _⟩
  case round =>
    obtain ⟨k, xs, hk, rfl, rfl, hown, hx, hb⟩ := hrel
    have HX := Lib.hid hx; clear hx
    by_cases hlt : k < n
    · obtain ⟨g, rfl⟩ := own_some hown (by omega)
      obtain ⟨old, hold⟩ := own_cell hown (j := k) (by omega)
      have hfr := hown.frozenAt k
      go_wp2
      obtain ⟨hown2, hg2⟩ := hown.stored k (.bool (markB k0 k))
      exact ⟨⟨k + 1, _, by omega, by go_num, by congr 1; push_cast; omega, hown2, set_upto (n := n) (by simpa using hown.1) hlt HX.out rfl, hb.setCell (p := ⟨g, k, none⟩) rfl _⟩, by simp [intOf]; omega⟩
    · go_wp2
      go_returns
      have : k = n := by omega
      subst this
      exact ⟨rfl, ⟨xs, hown, HX.out⟩, hb⟩

theorem heldBools_any (A : Option Addr) (n c : Nat) (k0 : Int) (w : World) (h : ValsAt w A n (boolV (markB k0))) (hn : n ≤ 16777216) (hk0 : 0 ≤ k0) (hk1 : k0 ≤ 4611686018427387904) :
    Calls Try.prog 48 #[.slice A n c, .int .i64 k0] w fun e' w' => e' = .returned (.int .i64 (k0 + n)) ∧ w = w' := by
  go_enter Try.func48, Try.ntmps48
  go_wp2
  go_loop [1, 5] (fun u i => ∃ (k : Nat), k ≤ n ∧ i = .int .i64 k ∧ u = .int .i64 (k0 + k)) (fun _ i => n - (intOf i).toNat)
  case atStart => exact ⟨0, Nat.zero_le _, rfl, by simp⟩
  case round =>
    obtain ⟨k, hk, rfl, rfl⟩ := hrel
    by_cases hlt : k < n
    · obtain ⟨b, off, rfl, hbl, hc⟩ := h (by omega)
      have hck := hc k hlt
      clear hc
      unfold boolV markB at hck
      go_wp2
      exact ⟨⟨k + 1, by omega, by go_num, by congr 1; push_cast; omega⟩, by simp [intOf]; omega⟩
    · go_wp2
      go_returns
      have : k = n := by omega
      subst this
      exact ⟨rfl, rfl⟩

theorem OwnV.blk {w : World} {base e n c b : Nat} {A : Option Addr} {f : Nat → Value} (h : OwnV w base e (.slice A n c) n f) (hb : BlockOf A b) : base ≤ b ∧ b < w.heap.size := by
  obtain ⟨xs, ho, hx⟩ := h
  rcases own_form ho with ⟨rfl, _⟩ | ⟨g, rfl, h1, h2⟩
  · simp [BlockOf] at hb
  · simp [BlockOf] at hb; subst hb; exact ⟨h1, h2⟩
theorem own_of3 {w : World} {base e g : Nat} {a b c : Value} {f : Nat → Value} (hb : base ≤ g) (hg : w.heap[g]? = some (.cells #[a, b, c] e)) (h0 : f 0 = a) (h1 : f 1 = b) (h2 : f 2 = c) :
    OwnV w base e (.slice (some ⟨g, 0, none⟩) 3 3) 3 f := by
  refine ⟨[a, b, c], ⟨rfl, .inr ⟨g, 3, #[a, b, c], rfl, hb, hg, Nat.le_refl _, by unfold maxLen; omega, rfl, rfl⟩⟩, fun j hj => ?_⟩
  match j, hj with
  | 0, _ => simp [h0]
  | 1, _ => simp [h1]
  | 2, _ => simp [h2]
theorem own_nil {w : World} {base e : Nat} {f : Nat → Value} : OwnV w base e (.slice none 0 0) 0 f := ⟨[], ⟨rfl, .inl ⟨rfl, rfl⟩⟩, fun j hj => absurd hj (by omega)⟩
theorem BlockOf.eq {g b : Nat} (h : BlockOf (some ⟨g, 0, none⟩) b) : g = b := by simpa [BlockOf] using h

/-- three rows of the call's own, in three blocks: a Beat -/
structure Own3 (w : World) (base : Nat) (A1 A2 A3 : Option Addr) (n : Nat) (f1 f2 : Nat → Int) (f3 : Nat → Bool) : Prop where
  r1 : OwnV w base 3 (.slice A1 n n) n (intV f1)
  r2 : OwnV w base 3 (.slice A2 n n) n (intV f2)
  r3 : OwnV w base 4 (.slice A3 n n) n (boolV f3)
  d12 : ∀ b, BlockOf A1 b → ¬ BlockOf A2 b
  d13 : ∀ b, BlockOf A1 b → ¬ BlockOf A3 b
  d23 : ∀ b, BlockOf A2 b → ¬ BlockOf A3 b
section
variable {w w' : World} {base n : Nat} {A1 A2 A3 : Option Addr} {f1 f2 : Nat → Int} {f3 : Nat → Bool}
theorem Own3.at_ (h : Own3 w base A1 A2 A3 n f1 f2 f3) : BtAt w A1 n f1 A2 n f2 A3 n f3 := ⟨h.r1.vals, h.r2.vals, h.r3.vals⟩
/-- one of the three blocks -/
def Of3 (A1 A2 A3 : Option Addr) (b : Nat) : Prop := BlockOf A1 b ∨ BlockOf A2 b ∨ BlockOf A3 b
theorem Own3.lt {b : Nat} (h : Own3 w base A1 A2 A3 n f1 f2 f3) (hb : Of3 A1 A2 A3 b) : base ≤ b ∧ b < w.heap.size := by
  rcases hb with hb | hb | hb
  · exact h.r1.blk hb
  · exact h.r2.blk hb
  · exact h.r3.blk hb
theorem Own3.ch {S : Nat → Prop} (h : Own3 w base A1 A2 A3 n f1 f2 f3) (hc : Ch S w w') (hS : ∀ b, Of3 A1 A2 A3 b → ¬ S b) : Own3 w' base A1 A2 A3 n f1 f2 f3 :=
  ⟨h.r1.ch hc (fun k hk => hS k (.inl (own_block hk))), h.r2.ch hc (fun k hk => hS k (.inr (.inl (own_block hk)))), h.r3.ch hc (fun k hk => hS k (.inr (.inr (own_block hk)))), h.d12, h.d13, h.d23⟩
where
  own_block {A : Option Addr} {n c k : Nat} (hk : (Value.slice A n c).ownBlock = some k) : BlockOf A k := by
    rcases A with _ | a
    · simp [Value.ownBlock] at hk
    · simpa [Value.ownBlock, BlockOf] using hk
theorem Own3.keep (h : Own3 w base A1 A2 A3 n f1 f2 f3) (hb : Below w.heap.size w w') : Own3 w' base A1 A2 A3 n f1 f2 f3 :=
  h.ch (S := fun _ => False) (Ch.of_below hb) (fun _ _ h => h)
end
end Go.Proofs.Ytjhkeknbbeckgaa
