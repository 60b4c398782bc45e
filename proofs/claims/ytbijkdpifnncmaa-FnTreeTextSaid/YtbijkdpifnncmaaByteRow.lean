/- Rows of bytes of the call's own, and the text made of one. -/
import Derived.Test.YtbijkdpifnncmaaNumA
import Derived.Test.YtbijkdpifnncmaaMem
import Derived.Laws.Bits128
namespace Go.Proofs.Ytbijkdpifnncmaa
open Go.RowKit
theorem var_byte (n : Nat) (h : n < 256) : ((UInt8.ofNat n).toNat : Int) = n := by simp; omega
def byteV (b : UInt8) : Value := .int .u8 (b.toNat : Int)
theorem byteV_of {n : Nat} (h : n < 256) : byteV (UInt8.ofNat n) = .int .u8 (n : Int) := by unfold byteV; rw [var_byte n h]
theorem infoByteV : (Try.prog.info? 5).map (fun i => (i.zero, i.size, i.bytes)) = some (some (.int .u8 0), 1, 1) := by kernel_rfl
theorem conv_own {w : World} {base n c : Nat} {A : Option Addr} {xs : List UInt8} (h : w.ownsRow base 5 1 (.slice A n c) n (xs.map byteV)) (hn : 0 < n) :
    ∃ g, A = some ⟨g, 0, none⟩ ∧ (convert 22 9 (.slice (some ⟨g, 0, none⟩) n c)).run Try.prog w = .ok (.string ⟨xs.toArray⟩) w := by
  rcases own_form h with ⟨_, h0, _⟩ | ⟨g, rfl, _⟩
  · omega
  · have hl : xs.length = n := by have := h.1; simpa using this
    subst hl
    have hcv := run_convert_bytes_back (P := Try.prog) w 22 9 5 ⟨g, 0, none⟩ c xs Try.underlying22 Try.underlying5 Try.underlying9 (by
      intro t ht
      rw [Addr.add_lit, Nat.zero_add, h.cellAt t (by simpa using ht)]
      simp only [List.getElem?_map, List.getElem?_eq_getElem ht]
      rfl)
    exact ⟨g, rfl, hcv⟩
end Go.Proofs.Ytbijkdpifnncmaa
