/- Contracts of the laws' helpers on []int and []bool; rows given by a function of the place. -/
import Derived.Test.YtbehiocdeefpmaaOwn
import Derived.Test.YtbehiocdeefpmaaRows
import Derived.BigQuiet
import Derived.Deep.QuietTactic
import Derived.StillTailTactics
namespace Go.Proofs.Ytbehiocdeefpmaa
open Go.RowKit

/-- n cells lie at A: cell i holds f i -/
def ValsAt (w : World) (A : Option Addr) (n : Nat) (f : Nat → Value) : Prop :=
  0 < n → ∃ b off, A = some ⟨b, off, none⟩ ∧ b < w.heap.size ∧ ∀ i, i < n → w.cell? ⟨b, off + i, none⟩ = some (f i)
section
variable {w w' : World} {A : Option Addr} {n : Nat} {f : Nat → Value}
theorem ValsAt.keep (h : ValsAt w A n f) (hb : Below w.heap.size w w') : ValsAt w' A n f := fun hn => by
  obtain ⟨b, off, rfl, hlt, hc⟩ := h hn
  exact ⟨b, off, rfl, Nat.lt_of_lt_of_le hlt hb.size, fun i hi => keep_cell hb (hc i hi)⟩
theorem ValsAt.of_own {base e c : Nat} {xs : List Value} (h : w.ownsRow base e 1 (.slice A n c) n xs) (hx : ∀ j, j < n → xs[j]? = some (f j)) : ValsAt w A n f := fun hn => by
  obtain ⟨b, off, rfl, hc⟩ := (own_cells h).2 hn
  exact ⟨b, off, rfl, cell_lt (hc 0 _ (hx 0 hn)), fun i hi => hc i _ (hx i hi)⟩
end
def intV (f : Nat → Int) (i : Nat) : Value := .int .i64 (f i)
def boolV (f : Nat → Bool) (i : Nat) : Value := .bool (f i)

theorem infoInt : (Try.prog.info? 3).map (fun i => (i.zero, i.size, i.bytes)) = some (some (.int .i64 0), 1, 8) := by kernel_rfl
theorem infoBool : (Try.prog.info? 4).map (fun i => (i.zero, i.size, i.bytes)) = some (some (.bool false), 1, 1) := by kernel_rfl

theorem szInts_any (A : Option Addr) (n c : Nat) (left : Int) (w : World) (hn : n ≤ 9223372036854775807) (hl0 : 0 ≤ left) (hl1 : left ≤ 4611686018427387904) :
    Calls Try.prog 55 #[.slice A n c, .int .i64 left] w fun e w' => e = .returned (.int .i64 (szR left n)) ∧ w = w' := by
  by_cases h : left - n < 0
  · have HF := Lib.hid (szR_no (left := left) (s := n) (by omega))
    go_enter Try.func55, Try.ntmps55
    go_wp2
    go_returns
    exact ⟨ret_int HF.out.symm, rfl⟩
  · have HF := Lib.hid (szR_yes (left := left) (s := n) (by omega))
    go_enter Try.func55, Try.ntmps55
    go_wp2
    go_returns
    exact ⟨ret_int HF.out.symm, rfl⟩

theorem toInts_any (A : Option Addr) (n c : Nat) (f : Nat → Int) (w : World) (h : ValsAt w A n (intV f)) (hn : n ≤ 16777216) :
    Calls Try.prog 57 #[.slice A n c] w fun e w' => ∃ g xs, e = .returned (.slice (some ⟨g, 0, none⟩) n n) ∧ w'.ownsRow w.heap.size 3 1 (.slice (some ⟨g, 0, none⟩) n n) n xs ∧ (∀ j, j < n → xs[j]? = some (intV f j)) ∧ Below w.heap.size w w' := by
  go_enter Try.func57, Try.ntmps57
  go_wp2_with (refine wpList_mk (P := Try.prog) _ rfl _ _ 58 rfl w.heap.size 3 _ 1 8 Try.underlying58 infoInt _ _ _ _ n rfl rfl rfl rfl (by omega) (by unfold maxLen; omega) (Nat.le_refl _) ?_; intro w1 hown1 hg1 hb1)
  clear hg1
  go_loopw [4] (fun i wr => ∃ (k : Nat) (xs : List Value), k ≤ n ∧ i = .int .i64 k ∧ wr.ownsRow w.heap.size 3 1 (.slice (some ⟨w.heap.size, 0, none⟩) n n) n xs ∧ (∀ j, j < k → xs[j]? = some (intV f j)) ∧ Below w.heap.size w wr) (fun i _ => n - (intOf i).toNat)
  case atStart => exact ⟨0, _, Nat.zero_le _, rfl, hown1, fun j hj => absurd hj (by omega), hb1⟩
  case round =>
    obtain ⟨k, xs, hk, rfl, hown, hx, hb⟩ := hrel
    have HX := Lib.hid hx; clear hx
    by_cases hlt : k < n
    · obtain ⟨b, off, rfl, hbl, hc⟩ := h (by omega)
      have hck := (hb.cell (p := ⟨b, off + k, none⟩) hbl).trans (hc k hlt)
      clear hc
      unfold intV at hck
      obtain ⟨old, hold⟩ := own_cell hown (j := k) (by omega)
      have hfr := hown.frozenAt k
      go_wp2
      obtain ⟨hown2, hg2⟩ := hown.stored k (.int .i64 (f k))
      exact ⟨⟨k + 1, _, by omega, by go_num, hown2, set_upto (n := n) (by simpa using hown.1) hlt HX.out rfl, hb.grown hg2 hb.size (by simp)⟩, by simp [intOf]; omega⟩
    · go_wp2
      go_returns
      have : k = n := by omega
      subst this
      exact ⟨_, xs, rfl, hown, HX.out, hb⟩

theorem eqInts_same (A A' : Option Addr) (n c c' : Nat) (f : Nat → Int) (w : World) (h : ValsAt w A n (intV f)) (h' : ValsAt w A' n (intV f)) (hn : n ≤ 1152921504606846975) :
    Calls Try.prog 49 #[.slice A n c, .slice A' n c'] w fun e w' => e = .returned (.bool true) ∧ Below w.heap.size w w' := by
  go_enter Try.func49, Try.ntmps49
  go_wp2
  go_loopw [5] (fun i wr => ∃ (k : Nat), k ≤ n ∧ i = .int .i64 k ∧ Below w.heap.size w wr) (fun i _ => n - (intOf i).toNat)
  case atStart => exact ⟨0, Nat.zero_le _, rfl, Below.refl _ _⟩
  case round =>
    obtain ⟨k, hk, rfl, hb⟩ := hrel
    by_cases hlt : k < n
    · obtain ⟨b, off, rfl, hbl, hc⟩ := h (by omega)
      have hck := (hb.cell (p := ⟨b, off + k, none⟩) hbl).trans (hc k hlt)
      clear hc
      obtain ⟨b', off', rfl, hbl', hc'⟩ := h' (by omega)
      have hck' := (hb.cell (p := ⟨b', off' + k, none⟩) hbl').trans (hc' k hlt)
      clear hc'
      unfold intV at hck hck'
      go_wp2
      go_quiet (fail)
      go_wp2
      exact ⟨⟨k + 1, by omega, by go_num, below_drewN hb _⟩, by simp [intOf]; omega⟩
    · go_wp2
      go_returns
      exact ⟨rfl, hb⟩
end Go.Proofs.Ytbehiocdeefpmaa
