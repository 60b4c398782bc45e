/- A law's code: bytes; big, at. -/
import Derived.Test.YtjhkeknbbeckgaaLawBeats
namespace Go.Proofs.Ytjhkeknbbeckgaa
open Go.RowKit

/-- a code: n bytes -/
structure CodeAt (w : World) (A : Option Addr) (n : Nat) (f : Nat → Int) : Prop where
  vals : ValsAt w A n (fun j => .int .u8 (f j))
  bd : ∀ j, 0 ≤ f j ∧ f j ≤ 255
theorem CodeAt.keep {w w' : World} {A : Option Addr} {n : Nat} {f : Nat → Int} (h : CodeAt w A n f) (hb : Below w.heap.size w w') : CodeAt w' A n f := ⟨h.vals.keep hb, h.bd⟩

theorem big_any (A : Option Addr) (n c : Nat) (w : World) :
    Calls Try.prog 15 #[.slice A n c] w fun e w' => e = .returned (.bool (decide ((n : Int) > 1048576))) ∧ w = w' := by
  go_enter Try.func15, Try.ntmps15
  go_wp2
  go_returns
  exact ⟨rfl, rfl⟩

theorem at_any (A : Option Addr) (n c : Nat) (f : Nat → Int) (i : Nat) (w : World) (h : CodeAt w A n f) (hn : n ≤ 1048576) (hi : i ≤ 1048576) :
    Calls Try.prog 17 #[.slice A n c, .int .i64 i] w fun e w' => ∃ x : Int, e = .returned (.int .i64 x) ∧ w = w' ∧ 0 ≤ x ∧ x ≤ 255 := by
  by_cases hlt : i < n
  · obtain ⟨b, off, rfl, hbl, hc⟩ := h.vals (by omega)
    have hci := hc i hlt
    have hb := h.bd i
    go_enter Try.func17, Try.ntmps17
    go_wp2
    go_returns

    exact ⟨f i, rfl, rfl, by omega, by omega⟩
  · go_enter Try.func17, Try.ntmps17
    go_wp2
    go_returns

    exact ⟨((i : Int) * 37 + (n : Int) * 11) % 256, rfl, rfl, by omega, by omega⟩

theorem u8_wf {n : Int} (h : (Lit.int .u8 n).wf = true) : 0 ≤ n ∧ n ≤ 255 := by
  simpa [Lit.wf, IntKind.min, IntKind.max, IntKind.signed, IntKind.bits] using h
instance : Inhabited {x : Int // 0 ≤ x ∧ x ≤ 255} := ⟨⟨0, by omega⟩⟩
section
variable {H : Type} {enc : TypeId × Value → H} {w : World} {base : Nat} {spare : Nat → Bool} {held : Bool}
theorem cellsByte : Try.prog.cellsOf 5 = 1 := by kernel_rfl
set_option maxRecDepth 20000 in
theorem open_code {r : Reach} {b0 : Nat} {v : Value} {d : DataW H} {p : List MemPlace}
    (hv : Value.okWide Try.prog w r b0 22 v) (h : DataW.Trod enc Try.prog w base spare held 22 v d p) :
    ∃ (A : Option Addr) (n c : Nat) (f : Nat → Int), v = .slice A n c ∧ CodeAt w A n f ∧ n ≤ 9223372036854775807 := by
  obtain ⟨A, n, c, l, hcs, hr, hn⟩ := open_rows (C := fun _ cs (x : {x : Int // 0 ≤ x ∧ x ≤ 255}) => cs = [.int .u8 x.1]) Try.underlying22 cellsByte (by omega)
    (fun fu cs y h => by obtain ⟨m, hm, _, hw⟩ := DataW.trod_int Try.underlying5 h; exact ⟨⟨m, u8_wf hw⟩, hm⟩) hv h
  exact ⟨A, n, c, fun i => (l.getD i ⟨0, by omega⟩).1, hcs, ⟨ValsAt.of_row (V := fun (x : {x : Int // 0 ≤ x ∧ x ≤ 255}) => .int .u8 x.1) (fun _ _ _ h => h) hr, fun j => (l.getD j ⟨0, by omega⟩).2⟩, hn⟩
end
end Go.Proofs.Ytjhkeknbbeckgaa
