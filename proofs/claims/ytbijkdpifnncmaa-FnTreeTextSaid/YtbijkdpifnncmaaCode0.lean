/- A law's code: bytes; big. -/
import Derived.Test.YtbijkdpifnncmaaInts
import Derived.Test.YtbijkdpifnncmaaFrame
import Derived.Test.YtbijkdpifnncmaaRowAt
namespace Go.Proofs.Ytbijkdpifnncmaa
open Go.RowKit

/-- a code: n bytes -/
structure CodeAt (w : World) (A : Option Addr) (n : Nat) (f : Nat → Int) : Prop where
  vals : ValsAt w A n (fun j => .int .u8 (f j))
  bd : ∀ j, 0 ≤ f j ∧ f j ≤ 255
theorem CodeAt.keep {w w' : World} {A : Option Addr} {n : Nat} {f : Nat → Int} (h : CodeAt w A n f) (hb : Below w.heap.size w w') : CodeAt w' A n f := ⟨h.vals.keep hb, h.bd⟩

theorem big_any (A : Option Addr) (n c : Nat) (w : World) :
    Calls Try.prog 5 #[.slice A n c] w fun e w' => e = .returned (.bool (decide ((n : Int) > 1048576))) ∧ w = w' := by
  go_enter Try.func5, Try.ntmps5
  go_wp2
  go_returns
  exact ⟨rfl, rfl⟩

theorem u8_wf {n : Int} (h : (Lit.int .u8 n).wf = true) : 0 ≤ n ∧ n ≤ 255 := by
  simpa [Lit.wf, IntKind.min, IntKind.max, IntKind.signed, IntKind.bits] using h
instance : Inhabited {x : Int // 0 ≤ x ∧ x ≤ 255} := ⟨⟨0, by omega⟩⟩
section
open Go.ChangeShapes Go.WideShapes Go.ChangeAt Go.Deep Go.Joins
variable {H : Type} {enc : TypeId × Value → H} {w : World} {base : Nat} {spare : Nat → Bool} {held : Bool}
theorem cellsByte : Try.prog.cellsOf 5 = 1 := by kernel_rfl
set_option maxRecDepth 20000 in
theorem open_code {r : Reach} {b0 : Nat} {v : Value} {d : DataW H} {p : List MemPlace}
    (hv : Value.okWide Try.prog w r b0 22 v) (h : DataW.Trod enc Try.prog w base spare held 22 v d p) :
    ∃ (A : Option Addr) (n c : Nat) (f : Nat → Int), v = .slice A n c ∧ CodeAt w A n f ∧ n ≤ 9223372036854775807 := by
  obtain ⟨A, n, c, l, hcs, hr, hn⟩ := open_rows (C := fun _ cs (x : {x : Int // 0 ≤ x ∧ x ≤ 255}) => cs = [.int .u8 x.1]) Try.underlying22 cellsByte (by omega)
    (fun fu cs y h => by obtain ⟨m, hm, _, hw⟩ := DataW.trod_int Try.underlying5 h; exact ⟨⟨m, u8_wf hw⟩, hm⟩) hv h
  refine ⟨A, n, c, fun i => (l.getD i ⟨0, by omega⟩).1, hcs, ⟨fun hn => ?_, fun j => (l.getD j ⟨0, by omega⟩).2⟩, hn⟩
  obtain ⟨b, off, rfl, hlt, hc⟩ := hr.2 hn
  have hl := hr.1
  refine ⟨b, off, rfl, hlt, fun i hi => ?_⟩
  obtain ⟨cs, hx, _, hcell⟩ := hc i (l.getD i ⟨0, by omega⟩) (by simp [show i < l.length by omega])
  subst hx
  simpa using hcell 0 _ rfl
end
end Go.Proofs.Ytbijkdpifnncmaa
