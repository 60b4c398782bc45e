/- Contracts of Flat. -/
import Derived.Test.YtjhkeknbbeckgaaIntss
namespace Go.Proofs.Ytjhkeknbbeckgaa
open Go.RowKit

theorem IntsAt.cells {w : World} {A : Option Addr} {n : Nat} {l : List Int} (h : IntsAt w A n l) : CellsAt w A n 1 (l.map (Value.int .i64)) := by
  refine ⟨by simp [h.1], fun hn => ?_⟩
  obtain ⟨b, off, rfl, _, hc⟩ := h.2 hn
  refine ⟨b, off, rfl, fun j u hu => ?_⟩
  have hl := h.1
  have hj : j < l.length := by
    have := (List.getElem?_eq_some_iff.1 hu).1
    simpa using this
  rw [hc j (by omega)]
  simp [hj] at hu
  rw [← hu]; unfold intV; rw [iAt_get hj]
theorem ints_one (l : List Int) : ∀ u ∈ l.map (Value.int .i64), u.oneCell' = true := by
  intro u hu
  obtain ⟨x, _, rfl⟩ := List.mem_map.1 hu
  rfl
attribute [local irreducible] IntsAt

def flatTo (l : List (List Int)) (k : Nat) : List Int := (l.take k).flatten
theorem flatTo_zero (l : List (List Int)) : flatTo l 0 = [] := by simp [flatTo]
theorem flatTo_succ (l : List (List Int)) (k : Nat) (h : k < l.length) : flatTo l (k + 1) = flatTo l k ++ lAt l k := by
  unfold flatTo; rw [take_snoc l k h, lAt_get h, List.flatten_append, List.flatten_cons, List.flatten_nil, List.append_nil]
theorem flatTo_len (l : List (List Int)) (k : Nat) : (flatTo l k).length ≤ intssSz l := by
  have h := sumTo_le intsSz l k
  have e : (flatTo l k).length = sumTo intsSz l k := by
    unfold flatTo sumTo; rw [List.length_flatten]; rfl
  unfold intssSz; omega
theorem flatTo_all (l : List (List Int)) {n : Nat} (h : l.length ≤ n) : flatTo l n = l.flatten := by unfold flatTo; rw [List.take_of_length_le h]
theorem flat_sz (l : List (List Int)) {m : Nat} (h : intssSz l ≤ m) : intsSz l.flatten ≤ m := by
  have := flatTo_len l l.length
  rw [flatTo_all l (Nat.le_refl _)] at this
  unfold intsSz; omega

theorem flat_impl (A0 : Option Addr) (n0 c0 : Nat) (l0 : List (List Int)) (w : World) (h0 : IntssAt w A0 n0 l0) (s0 : intssSz l0 ≤ 1048576) :
    Calls Try.prog 25 #[.slice A0 n0 c0] w (IntsR l0.flatten w) := by
  have HL := Lib.hid h0.1.symm
  have hn := intss_n h0 s0
  have hel := intss_el s0
  go_enter Try.func25, Try.ntmps25
  go_wp2
  go_loopw [3, 9] (fun o i wr => ∃ (k : Nat) (O : Option Addr) (cap : Nat), k ≤ n0 ∧ i = .int .i64 k ∧ o = .slice O (flatTo l0 k).length cap ∧ wr.ownsRow w.heap.size 3 1 (.slice O (flatTo l0 k).length cap) (flatTo l0 k).length ((flatTo l0 k).map (Value.int .i64)) ∧ Below w.heap.size w wr) (fun _ i _ => n0 - (intOf i).toNat)
  case atStart => exact ⟨0, _, _, Nat.zero_le _, rfl, by rw [flatTo_zero]; rfl, by rw [flatTo_zero]; exact own_empty w _ _ (Nat.le_refl _), by go_grown⟩
  case round =>
    obtain ⟨k, O, cap, hk, rfl, rfl, hown, hb⟩ := hrel
    by_cases hlt : k < n0
    · obtain ⟨b, off, rfl, hbl, hc⟩ := h0.at_ (by omega)
      obtain ⟨A1, n1, c1, hc0, hat, hcap, hn1⟩ := hc k hlt
      have hck := (hb.cell (p := ⟨b, off + k, none⟩) hbl).trans hc0
      clear hc hc0
      have hat2 := hat.keep hb
      have hn1 := ints_n hat (hel k)
      have hle := flatTo_len l0 k
      have HS := Lib.hid (flatTo_succ l0 k (by have := HL.out; omega))
      have hcl := hat2.cells
      have HN := Lib.hid (show n1 = (lAt l0 k).length by unfold IntsAt at hat; exact hat.1)
      have HC := Lib.hid hcap
      clear hcap
      go_wp2_with (at_builtin; refine wpList_app (P := Try.prog) wr rfl (.tmp 13) (.tmp 14) 24 rfl w.heap.size 3 _ 1 8 Try.underlying24 infoInt rfl (by omega) (.slice O _ cap) _ _ rfl hown A1 n1 c1 ((lAt l0 k).map (Value.int .i64)) rfl hcl (ints_one _) HC.out (by unfold maxLen; omega) (by omega) hb.size ?_; intro A' c' w1 hown1 hg1 hb1 _)
      refine ⟨⟨k + 1, A', c', by omega, by go_num, ?_⟩, by simp [intOf]; omega⟩
      rw [HS.out]
      have hn2 := HN.out
      subst hn2
      exact ⟨by simp, by simpa using hown1, hb.trans hb1⟩
    · go_wp2
      go_returns
      have e := flatTo_all l0 (n := k) (by have := HL.out; omega)
      rw [e] at hown
      rw [← e]
      rw [e]
      exact ⟨O, _, cap, by first | rfl | rw [e], IntsIn.of_own hown, hb⟩

theorem flat_spec (A0 : Option Addr) (n0 c0 : Nat) (l0 : List (List Int)) (w : World) (h0 : IntssAt w A0 n0 l0) (s0 : intssSz l0 ≤ 1048576) :
    Calls Try.prog 23 #[.slice A0 n0 c0] w (IntsR l0.flatten w) := by
  have HL := Lib.hid h0.1.symm
  have hn := intss_n h0 s0
  have hel := intss_el s0
  go_enter Try.func23, Try.ntmps23
  go_wp2
  go_loopw [3, 4] (fun o i wr => ∃ (k : Nat) (O : Option Addr) (cap : Nat), k ≤ n0 ∧ i = .int .i64 k ∧ o = .slice O (flatTo l0 k).length cap ∧ wr.ownsRow w.heap.size 3 1 (.slice O (flatTo l0 k).length cap) (flatTo l0 k).length ((flatTo l0 k).map (Value.int .i64)) ∧ Below w.heap.size w wr) (fun _ i _ => n0 - (intOf i).toNat)
  case atStart => exact ⟨0, _, _, Nat.zero_le _, rfl, by rw [flatTo_zero]; rfl, by rw [flatTo_zero]; exact own_empty w _ _ (Nat.le_refl _), by go_grown⟩
  case round =>
    obtain ⟨k, O, cap, hk, rfl, rfl, hown, hb⟩ := hrel
    by_cases hlt : k < n0
    · obtain ⟨b, off, rfl, hbl, hc⟩ := h0.at_ (by omega)
      obtain ⟨A1, n1, c1, hc0, hat, hcap, hn1⟩ := hc k hlt
      have hck := (hb.cell (p := ⟨b, off + k, none⟩) hbl).trans hc0
      clear hc hc0
      have hat2 := hat.keep hb
      have hn1 := ints_n hat (hel k)
      have hle := flatTo_len l0 k
      have HS := Lib.hid (flatTo_succ l0 k (by have := HL.out; omega))
      have hcl := hat2.cells
      have HN := Lib.hid (show n1 = (lAt l0 k).length by unfold IntsAt at hat; exact hat.1)
      have HC := Lib.hid hcap
      clear hcap
      go_wp2_with (at_builtin; refine wpList_app (P := Try.prog) wr rfl (.tmp 12) (.tmp 16) 24 rfl w.heap.size 3 _ 1 8 Try.underlying24 infoInt rfl (by omega) (.slice O _ cap) _ _ rfl hown A1 n1 c1 ((lAt l0 k).map (Value.int .i64)) rfl hcl (ints_one _) HC.out (by unfold maxLen; omega) (by omega) hb.size ?_; intro A' c' w1 hown1 hg1 hb1 _)
      refine ⟨⟨k + 1, A', c', by omega, by go_num, ?_⟩, by simp [intOf]; omega⟩
      rw [HS.out]
      have hn2 := HN.out
      subst hn2
      exact ⟨by simp, by simpa using hown1, hb.trans hb1⟩
    · go_wp2
      go_returns
      have e := flatTo_all l0 (n := k) (by have := HL.out; omega)
      rw [e] at hown
      rw [← e]
      rw [e]
      exact ⟨O, _, cap, by first | rfl | rw [e], IntsIn.of_own hown, hb⟩
end Go.Proofs.Ytjhkeknbbeckgaa
