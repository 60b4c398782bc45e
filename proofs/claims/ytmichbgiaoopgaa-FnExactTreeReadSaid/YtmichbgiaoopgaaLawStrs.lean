/- Contracts of the laws' helpers on lists of strings: size, copy, comparison. -/
import Derived.Test.YtmichbgiaoopgaaBase
import Derived.Test.YtmichbgiaoopgaaRows
import Derived.BigQuiet
import Derived.Deep.QuietTactic
namespace Go.Proofs.Ytmichbgiaoopgaa
open Go.RowKit

theorem szStrs_any (A : Option Addr) (n c : Nat) (l : List ByteArray) (left : Int) (w : World) (h : StrsAt w A n l) (hn : n ≤ 9223372036854775807) (hl0 : 0 ≤ left) (hl1 : left ≤ 4611686018427387904)
    (hs : ∀ i, i < n → (sAt l i).size ≤ 9223372036854775807) :
    Calls Try.prog 76 #[.slice A n c, .int .i64 left] w fun e w' => e = .returned (.int .i64 (szR left (strsSz l))) ∧ w = w' := by
  have hL : l.length = n := h.1.symm
  have HL := Lib.hid hL; clear hL
  by_cases h0 : left - n < 0
  · go_enter Try.func76, Try.ntmps76
    go_wp2
    go_returns
    refine ⟨ret_int (szR_no ?_).symm, rfl⟩
    have := HL.out; unfold strsSz; omega
  · go_enter Try.func76, Try.ntmps76
    go_wp2
    have e0 := sumTo_zero ByteArray.size l
    have E0 := Lib.hid e0; clear e0
    go_loop [1, 5] (fun u i => ∃ k : Nat, k ≤ n ∧ i = .int .i64 k ∧ u = .int .i64 (left - n - (sumTo ByteArray.size l k : Nat)) ∧ 0 ≤ left - n - (sumTo ByteArray.size l k : Nat)) (fun _ i => n - (intOf i).toNat)
    case atStart => exact ⟨0, Nat.zero_le _, rfl, by rw [E0.out]; simp, by rw [E0.out]; omega⟩
    case round =>
      obtain ⟨k, hk, rfl, rfl, hge⟩ := hrel
      by_cases hlt : k < n
      · obtain ⟨b, off, rfl, hb, hc⟩ := h.at_ (by omega)
        have hck := hc k hlt
        have hsk := hs k hlt
        clear hc
        have hsu : sumTo ByteArray.size l (k + 1) = sumTo ByteArray.size l k + (sAt l k).size := by
          rw [sumTo_succ _ _ _ (by have := HL.out; omega), sAt_get (by have := HL.out; omega)]
        have HSU := Lib.hid hsu; clear hsu
        have hle := sumTo_le ByteArray.size l (k + 1)
        have HLE := Lib.hid hle; clear hle
        go_wp2
        · go_returns
          refine ⟨ret_int (szR_no ?_).symm, rfl⟩
          have := HL.out; have := HSU.out; have := HLE.out; unfold strsSz; omega
        · refine ⟨⟨k + 1, by omega, by go_num, ?_, ?_⟩, by simp [intOf]; omega⟩
          · rw [HSU.out]; congr 1; push_cast; omega
          · rw [HSU.out]; push_cast; omega
      · go_wp2
        go_returns
        refine ⟨ret_int ?_, rfl⟩
        have h3 := sumTo_all ByteArray.size l k (by have := HL.out; omega)
        have := HL.out
        rw [szR_yes (by unfold strsSz; omega)]; unfold strsSz; push_cast; omega

theorem infoString : (Try.prog.info? 9).map (fun i => (i.zero, i.size, i.bytes)) = some (some (.string ByteArray.empty), 1, 16) := by kernel_rfl

theorem toStrs_any (A : Option Addr) (n c : Nat) (l : List ByteArray) (w : World) (h : StrsAt w A n l) (hn : n ≤ 16777216) :
    Calls Try.prog 77 #[.slice A n c] w fun e w' => ∃ g, e = .returned (.slice (some ⟨g, 0, none⟩) n n) ∧ w'.ownsRow w.heap.size 9 1 (.slice (some ⟨g, 0, none⟩) n n) n (l.map Value.string) ∧ Below w.heap.size w w' := by
  have hL : l.length = n := h.1.symm
  have HL := Lib.hid hL; clear hL
  obtain ⟨i0, hi, hz0, hz1, hz2⟩ := info_parts infoString
  go_enter Try.func77, Try.ntmps77
  go_wp2_with (refine wpList_make_full _ rfl _ _ 36 rfl w.heap.size 9 i0 _ 1 Try.underlying36 hi hz0 hz1 _ _ _ _ n rfl rfl rfl rfl (by rw [hz2]; omega) (by unfold maxLen; omega) (Nat.le_refl _) ?_; intro w1 hown1 hg1)
  have hb1 : Below w.heap.size w w1 := (Below.refl _ _).grown hg1 (Nat.le_refl _) (by simp)
  clear hg1
  go_loopw [4] (fun i wr => ∃ (k : Nat) (xs : List Value), k ≤ n ∧ i = .int .i64 k ∧ wr.ownsRow w.heap.size 9 1 (.slice (some ⟨w.heap.size, 0, none⟩) n n) n xs ∧ (∀ j, j < k → xs[j]? = some (.string (sAt l j))) ∧ Below w.heap.size w wr) (fun i _ => n - (intOf i).toNat)
  case atStart => exact ⟨0, _, Nat.zero_le _, rfl, hown1, fun j hj => absurd hj (by omega), hb1⟩
  case round =>
    obtain ⟨k, xs, hk, rfl, hown, hx, hb⟩ := hrel
    have HX := Lib.hid hx; clear hx
    by_cases hlt : k < n
    · obtain ⟨b, off, rfl, hbl, hc⟩ := h.at_ (by omega)
      have hck := (hb.cell (p := ⟨b, off + k, none⟩) hbl).trans (hc k hlt)
      clear hc
      obtain ⟨old, hold⟩ := own_cell hown (j := k) (by omega)
      have hfr := hown.frozenAt k
      go_wp2
      obtain ⟨hown2, hg2⟩ := hown.stored k (.string (sAt l k))
      refine ⟨⟨k + 1, _, by omega, by go_num, hown2, set_upto (n := n) (by simpa using hown.1) hlt HX.out rfl, hb.grown hg2 hb.size (by simp)⟩, by simp [intOf]; omega⟩
    · go_wp2
      go_returns
      have : k = n := by omega
      subst this
      refine ⟨_, rfl, ?_, hb⟩
      have e := list_of_get (n := k) (by simpa using hown.1) HX.out
      rw [← HL.out, map_sAt] at e
      rw [← e]; exact hown

theorem eqStrs_any (A A' : Option Addr) (n c n' c' : Nat) (l l' : List ByteArray) (w : World) (h : StrsAt w A n l) (h' : StrsAt w A' n' l') (hn : n ≤ 9223372036854775807) (hn' : n' ≤ 9223372036854775807) :
    Calls Try.prog 30 #[.slice A n c, .slice A' n' c'] w fun e w' => e = .returned (.bool (decide (l = l'))) ∧ Below w.heap.size w w' := by
  have hL : l.length = n := h.1.symm
  have HL := Lib.hid hL; clear hL
  have hL' : l'.length = n' := h'.1.symm
  have HL' := Lib.hid hL'; clear hL'
  by_cases hnn : n = n'
  · subst hnn
    go_enter Try.func30, Try.ntmps30
    go_wp2
    go_loopw [5] (fun i wr => ∃ (k : Nat), k ≤ n ∧ i = .int .i64 k ∧ (∀ j, j < k → sAt l j = sAt l' j) ∧ Below w.heap.size w wr) (fun i _ => n - (intOf i).toNat)
    case atStart => exact ⟨0, Nat.zero_le _, rfl, fun j hj => absurd hj (by omega), Below.refl _ _⟩
    case round =>
      obtain ⟨k, hk, rfl, hx, hb⟩ := hrel
      have HX := Lib.hid hx; clear hx
      by_cases hlt : k < n
      · obtain ⟨b, off, rfl, hbl, hc⟩ := h.at_ (by omega)
        have hck := (hb.cell (p := ⟨b, off + k, none⟩) hbl).trans (hc k hlt)
        clear hc
        obtain ⟨b', off', rfl, hbl', hc'⟩ := h'.at_ (by omega)
        have hck' := (hb.cell (p := ⟨b', off' + k, none⟩) hbl').trans (hc' k hlt)
        clear hc'
        go_wp2
        go_quiet (fail)
        go_wp2
        · go_returns
          refine ⟨ret_bool ?_, below_drewN hb _⟩
          have hne := str_beq_no (by assumption : (!(sAt l k).toList == (sAt l' k).toList) = true)
          rw [eq_comm, decide_eq_false_iff_not]
          rintro rfl
          exact hne rfl
        · have he := str_beq_yes (by assumption : (!(sAt l k).toList == (sAt l' k).toList) = false)
          refine ⟨⟨k + 1, by omega, by go_num, ?_, below_drewN hb _⟩, by simp [intOf]; omega⟩
          intro j hj
          by_cases e : j = k
          · rw [e, he]
          · exact HX.out j (by omega)
      · go_wp2
        go_returns
        refine ⟨ret_bool ?_, hb⟩
        rw [eq_comm, decide_eq_true_iff]
        exact sAt_ext (by rw [HL.out, HL'.out]) (fun j hj => HX.out j (by have := HL.out; omega))
  · go_enter Try.func30, Try.ntmps30
    go_wp2
    go_returns
    refine ⟨ret_bool ?_, Below.refl _ _⟩
    rw [eq_comm, decide_eq_false_iff_not]
    rintro rfl
    exact hnn (by rw [← HL.out, HL'.out])
end Go.Proofs.Ytmichbgiaoopgaa
