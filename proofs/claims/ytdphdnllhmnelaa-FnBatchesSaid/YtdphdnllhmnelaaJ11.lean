/- Contracts and lemmas: Short. -/
import Derived.Test.YtdphdnllhmnelaaJ10
/- Contract of the reference's Short, apart from the program's. -/
namespace Go.Proofs.Ytdphdnllhmnelaa
open Go.RowKit
theorem short_specS (s : ByteArray) (w : World) (hs : s.size ≤ 1099511627776) :
    Calls Try.prog 168 #[.string s] w fun e w' => e = .returned (.string (shortS s)) ∧ Below w.heap.size w w' := by
  have h32 := shaS_size s
  go_enter Try.func168, Try.ntmps168
  go_wp2_with fail
  refine (sha_spec s w hs).mono ?_
  rintro e w1 ⟨rfl, hb⟩
  go_wp2
  go_returns
  exact ⟨rfl, hb⟩
end Go.Proofs.Ytdphdnllhmnelaa
