/- Contracts of Lacks. -/
import Derived.Test.YtfbfomlgjghcmaaDoorStrRow
import Derived.Test.YtfbfomlgjghcmaaDoorSets
import Derived.Test.YtfbfomlgjghcmaaDoorHas
import Derived.StillTailTactics
namespace Go.Proofs.YtfbfomlgjghcmaaDoor
open Go.RowKit
attribute [local irreducible] setOkB

def lackTo (a b : List ByteArray) (k : Nat) : List ByteArray := (b.take k).filter (fun x => !hasS a x)
theorem lackTo_zero (a b : List ByteArray) : lackTo a b 0 = [] := by simp [lackTo]
theorem lackTo_succ (a b : List ByteArray) (k : Nat) (h : k < b.length) : lackTo a b (k + 1) = lackTo a b k ++ (if hasS a (sAt b k) = true then [] else [sAt b k]) := by
  unfold lackTo
  rw [List.take_succ_eq_append_getElem h, List.filter_append, sAt_get h]
  congr 1
  cases hh : hasS a b[k] <;> simp [hh]
theorem lackTo_len (a b : List ByteArray) (k : Nat) : (lackTo a b k).length ≤ k := by
  unfold lackTo
  exact Nat.le_trans (List.length_filter_le ..) (List.length_take_le ..)
def lacks (a b : List ByteArray) : List ByteArray := if setOkB a = true ∧ setOkB b = true then lackTo a b b.length else []
theorem lacks_len (a b : List ByteArray) : (lacks a b).length ≤ b.length := by
  unfold lacks; split
  · exact lackTo_len a b _
  · simp

theorem lacks_sz (a b : List ByteArray) {m : Nat} (h : strsSz b ≤ m) : strsSz (lacks a b) ≤ m := by
  unfold lacks; split
  · unfold lackTo; rw [List.take_length]; exact Nat.le_trans (strsSz_filter _ b) h
  · simp [strsSz]

/-- what slices.Index answers -/
def IdxS (l : List ByteArray) (x : ByteArray) (w : World) (e : Ending) (w' : World) : Prop := ∃ i : Int, e = .returned (.int .i64 i) ∧ decide (0 ≤ i) = hasS l x ∧ w = w'
theorem indexS_any (A : Option Addr) (n c : Nat) (l : List ByteArray) (x : ByteArray) (w : World) (h : StrsAt w A n l) (hn : n ≤ 9223372036854775807) :
    Calls Tryd.prog 52 #[.slice A n c, .string x] w (IdxS l x w) := by
  have HL := Lib.hid h.1.symm
  go_enter Tryd.func52, Tryd.ntmps52
  go_wp2
  go_loop [8] (fun i => ∃ k : Nat, k ≤ n ∧ i = .int .i64 k ∧ ∀ j, j < k → sAt l j ≠ x) (fun i => n - (intOf i).toNat)
  case atStart => exact ⟨0, Nat.zero_le _, rfl, fun j hj => absurd hj (by omega)⟩
  case round =>
    obtain ⟨k, hk, rfl, hx⟩ := hrel
    have HX := Lib.hid hx; clear hx
    by_cases hlt : k < n
    · obtain ⟨b, off, rfl, hbl, hc⟩ := h.at_ (by omega)
      have hck := hc k hlt
      clear hc
      by_cases hxe : x = sAt l k
      · have HE := Lib.hid hxe
        have g1 : (x.toList == (sAt l k).toList) = true := by rw [str_beq]; simpa using hxe
        clear hxe
        go_wp2
        go_returns
        exact ⟨k, rfl, by rw [hasS_yes (k := k) (by have := HL.out; omega) HE.out.symm]; simp, rfl⟩
      · have HE := Lib.hid hxe
        have g1 : (x.toList == (sAt l k).toList) = false := by rw [str_beq]; simpa using hxe
        clear hxe
        go_wp2
        refine ⟨⟨k + 1, by omega, by go_num, ?_⟩, by simp [intOf]; omega⟩
        intro j hj
        by_cases e : j = k
        · subst e; exact fun h => HE.out h.symm
        · exact HX.out j (by omega)
    · go_wp2
      go_returns
      exact ⟨-1, rfl, by rw [hasS_no (fun j hj => HX.out j (by have := HL.out; omega))]; rfl, rfl⟩
theorem containsS_any (A : Option Addr) (n c : Nat) (l : List ByteArray) (x : ByteArray) (w : World) (h : StrsAt w A n l) (hn : n ≤ 9223372036854775807) :
    Calls Tryd.prog 43 #[.slice A n c, .string x] w fun e w' => e = .returned (.bool (hasS l x)) ∧ w = w' := by
  go_enter Tryd.func43, Tryd.ntmps43
  go_wp2_with fail
  refine (indexS_any A n c l x _ h hn).mono ?_
  rintro e w' ⟨i, rfl, hi, rfl⟩
  have HI := Lib.hid hi; clear hi
  go_wp2
  go_returns
  exact ⟨by rw [HI.out]; rfl, rfl⟩

theorem lacks_impl (A : Option Addr) (n c : Nat) (a : List ByteArray) (B : Option Addr) (m d : Nat) (b : List ByteArray) (w : World) (h : StrsAt w A n a) (k : StrsAt w B m b) (hn : n ≤ 16777216) (hm : m ≤ 16777216) :
    Calls Tryd.prog 26 #[.slice A n c, .slice B m d] w (StrsR (lacks a b) w) := by
  have HM := Lib.hid k.1.symm
  obtain ⟨q1, hq1⟩ : ∃ q, setOkB a = q := ⟨_, rfl⟩
  obtain ⟨q2, hq2⟩ : ∃ q, setOkB b = q := ⟨_, rfl⟩
  have Q1 := Lib.hid hq1; have Q2 := Lib.hid hq2
  cases q1
  · have HR := Lib.hid (show lacks a b = [] by simp [lacks, hq1])
    clear hq1 hq2
    rw [HR.out]
    go_enter Tryd.func26, Tryd.ntmps26
    go_wp2_with (go_at_call 28; refine (setOk_impl _ _ _ _ _ h (by omega)).mono ?_; rintro e w' ⟨rfl, rfl⟩; rw [Q1.out])
    go_returns
    exact ⟨none, 0, 0, rfl, StrsIn.nil, Below.refl _ _⟩
  · cases q2
    · have HR := Lib.hid (show lacks a b = [] by simp [lacks, hq2])
      clear hq1 hq2
      rw [HR.out]
      go_enter Tryd.func26, Tryd.ntmps26
      go_wp2_with fail
      refine (setOk_impl _ _ _ _ _ h (by omega)).mono ?_
      rintro e w' ⟨rfl, rfl⟩; rw [Q1.out]
      go_wp2_with fail
      refine (setOk_impl _ _ _ _ _ k (by omega)).mono ?_
      rintro e w' ⟨rfl, rfl⟩; rw [Q2.out]
      go_wp2
      go_returns
      exact ⟨none, 0, 0, rfl, StrsIn.nil, Below.refl _ _⟩
    · have HR := Lib.hid (show lacks a b = lackTo a b b.length by simp [lacks, hq1, hq2])
      clear hq1 hq2
      rw [HR.out]
      go_enter Tryd.func26, Tryd.ntmps26
      go_wp2_with fail
      refine (setOk_impl _ _ _ _ _ h (by omega)).mono ?_
      rintro e w' ⟨rfl, rfl⟩; rw [Q1.out]
      go_wp2_with fail
      refine (setOk_impl _ _ _ _ _ k (by omega)).mono ?_
      rintro e w' ⟨rfl, rfl⟩; rw [Q2.out]
      go_wp2
      go_loopw [5, 19] (fun o i wr => ∃ (j : Nat) (O : Option Addr) (cap : Nat), j ≤ m ∧ i = .int .i64 j ∧ o = .slice O (lackTo a b j).length cap ∧ wr.ownsRow w.heap.size 9 1 (.slice O (lackTo a b j).length cap) (lackTo a b j).length ((lackTo a b j).map Value.string) ∧ Below w.heap.size w wr) (fun _ i _ => m - (intOf i).toNat)
      case atStart => exact ⟨0, _, _, Nat.zero_le _, rfl, by rw [lackTo_zero]; rfl, by rw [lackTo_zero]; exact own_empty w _ _ (Nat.le_refl _), by go_grown⟩
      case round =>
        obtain ⟨j, O, cap, hj, rfl, rfl, hown, hb⟩ := hrel
        by_cases hlt : j < m
        · obtain ⟨b0, off, rfl, hbl, hc⟩ := k.at_ (by omega)
          have hck := (hb.cell (p := ⟨b0, off + j, none⟩) hbl).trans (hc j hlt)
          clear hc
          have hS := lackTo_succ a b j (by have := HM.out; omega)
          have hLL := lackTo_len a b j
          obtain ⟨q, hq⟩ : ∃ q, hasS a (sAt b j) = q := ⟨_, rfl⟩
          rw [hq] at hS
          have HQ := Lib.hid hq; clear hq
          cases q
          · have HS := Lib.hid (show lackTo a b (j + 1) = lackTo a b j ++ [sAt b j] by simpa using hS)
            clear hS
            go_wp2_with fail
            refine (containsS_any _ _ _ _ _ _ (h.keep hb) (by omega)).mono ?_
            rintro e w' ⟨rfl, rfl⟩; rw [HQ.out]
            go_wp2_with (at_builtin; refine wpList_app1 (P := Tryd.prog) wr rfl (.tmp 27) (.tmp 29) 22 rfl w.heap.size 9 _ 1 16 Tryd.underlying22 infoString rfl (by omega) (.slice O _ cap) _ _ rfl hown #[.string (sAt b j)] rfl rfl (by simp [Value.oneCell']) (by unfold maxLen; omega) (by omega) hb.size ?_; intro A' c' w1 hown1 hg1 hb1 _)
            refine ⟨⟨j + 1, A', c', by omega, by go_num, ?_⟩, by simp [intOf]; omega⟩
            rw [HS.out]
            exact ⟨by simp, by simpa using hown1, hb.trans hb1⟩
          · have HS := Lib.hid (show lackTo a b (j + 1) = lackTo a b j by simpa using hS)
            clear hS
            go_wp2_with fail
            refine (containsS_any _ _ _ _ _ _ (h.keep hb) (by omega)).mono ?_
            rintro e w' ⟨rfl, rfl⟩; rw [HQ.out]
            go_wp2
            exact ⟨⟨j + 1, O, cap, by omega, by go_num, by rw [HS.out], by rw [HS.out]; exact hown, hb⟩, by simp [intOf]; omega⟩
        · go_wp2
          go_returns
          have : j = b.length := by have := HM.out; omega
          subst this
          exact ⟨O, _, cap, rfl, StrsIn.of_own hown, hb⟩

theorem lacks_spec (A : Option Addr) (n c : Nat) (a : List ByteArray) (B : Option Addr) (m d : Nat) (b : List ByteArray) (w : World) (h : StrsAt w A n a) (k : StrsAt w B m b) (hn : n ≤ 16777216) (hm : m ≤ 16777216) :
    Calls Tryd.prog 42 #[.slice A n c, .slice B m d] w (StrsR (lacks a b) w) := by
  have HM := Lib.hid k.1.symm
  obtain ⟨q1, hq1⟩ : ∃ q, setOkB a = q := ⟨_, rfl⟩
  obtain ⟨q2, hq2⟩ : ∃ q, setOkB b = q := ⟨_, rfl⟩
  have Q1 := Lib.hid hq1; have Q2 := Lib.hid hq2
  by_cases hqq : (q1 && q2) = true
  · obtain ⟨rfl, rfl⟩ : q1 = true ∧ q2 = true := by simpa using hqq
    have HR := Lib.hid (show lacks a b = lackTo a b b.length by simp [lacks, hq1, hq2])
    clear hq1 hq2 hqq
    rw [HR.out]
    go_enter Tryd.func42, Tryd.ntmps42
    go_wp2
    go_loopw [5, 6] (fun o i wr => ∃ (j : Nat) (O : Option Addr) (cap : Nat), j ≤ m ∧ i = .int .i64 j ∧ o = .slice O (lackTo a b j).length cap ∧ wr.ownsRow w.heap.size 9 1 (.slice O (lackTo a b j).length cap) (lackTo a b j).length ((lackTo a b j).map Value.string) ∧ Below w.heap.size w wr) (fun _ i _ => m - (intOf i).toNat)
    case atStart => exact ⟨0, _, _, Nat.zero_le _, rfl, by rw [lackTo_zero]; rfl, by rw [lackTo_zero]; exact own_empty w _ _ (Nat.le_refl _), by go_grown⟩
    case round =>
      obtain ⟨j, O, cap, hj, rfl, rfl, hown, hb⟩ := hrel
      by_cases hlt : j < m
      · obtain ⟨b0, off, rfl, hbl, hc⟩ := k.at_ (by omega)
        have hS := lackTo_succ a b j (by have := HM.out; omega)
        have hLL := lackTo_len a b j
        obtain ⟨q, hq⟩ : ∃ q, hasS a (sAt b j) = q := ⟨_, rfl⟩
        rw [hq] at hS
        have HQ := Lib.hid hq; clear hq
        go_wp2_with fail
        refine (setOk_spec _ _ _ _ _ (h.keep hb) (by omega)).mono ?_
        rintro e w1 ⟨rfl, hb1⟩; rw [Q1.out]
        have hB1 := bthen hb hb1
        go_wp2_with fail
        refine (setOk_spec _ _ _ _ _ (k.keep hB1) (by omega)).mono ?_
        rintro e w2 ⟨rfl, hb2⟩; rw [Q2.out]
        have hB2 := bthen hB1 hb2
        have hown2 := ((RowIn.of_own hown).keep (bthen hb1 hb2)).own
        have hck := (hB2.cell (p := ⟨b0, off + j, none⟩) hbl).trans (hc j hlt)
        clear hc hown
        have hs2 := hB2.size
        cases q
        · have HS := Lib.hid (show lackTo a b (j + 1) = lackTo a b j ++ [sAt b j] by simpa using hS)
          clear hS
          go_wp2_with fail
          refine (l15In_any _ _ _ _ _ _ (h.keep hB2) (by omega)).mono ?_
          rintro e w' ⟨rfl, rfl⟩; rw [HQ.out]
          go_wp2_with (at_builtin; refine wpList_app1 (P := Tryd.prog) w2 rfl (.tmp 29) (.tmp 34) 22 rfl w.heap.size 9 _ 1 16 Tryd.underlying22 infoString rfl (by omega) (.slice O _ cap) _ _ rfl hown2 #[.string (sAt b j)] rfl rfl (by simp [Value.oneCell']) (by unfold maxLen; omega) (by omega) hs2 ?_; intro A' c' w3 hown3 hg3 hb3 _)
          refine ⟨⟨j + 1, A', c', by omega, by go_num, ?_⟩, by simp [intOf]; omega⟩
          rw [HS.out]
          exact ⟨by simp, by simpa using hown3, hB2.trans hb3⟩
        · have HS := Lib.hid (show lackTo a b (j + 1) = lackTo a b j by simpa using hS)
          clear hS
          go_wp2_with fail
          refine (l15In_any _ _ _ _ _ _ (h.keep hB2) (by omega)).mono ?_
          rintro e w' ⟨rfl, rfl⟩; rw [HQ.out]
          go_wp2
          exact ⟨⟨j + 1, O, cap, by omega, by go_num, by rw [HS.out], by rw [HS.out]; exact hown2, hB2⟩, by simp [intOf]; omega⟩
      · go_wp2
        go_returns
        have : j = b.length := by have := HM.out; omega
        subst this
        exact ⟨O, _, cap, rfl, StrsIn.of_own hown, hb⟩
  · have HR := Lib.hid (show lacks a b = [] by unfold lacks; rw [if_neg (by rw [hq1, hq2]; simpa using hqq)])
    clear hq1 hq2
    rw [HR.out]
    go_enter Tryd.func42, Tryd.ntmps42
    go_wp2
    go_loopw [5, 6] (fun o i wr => i = .int .i64 0 ∧ o = .slice (some ⟨w.heap.size, 0, none⟩) 0 0 ∧ wr.ownsRow w.heap.size 9 1 (.slice (some ⟨w.heap.size, 0, none⟩) 0 0) 0 [] ∧ Below w.heap.size w wr) (fun _ _ _ => 0)
    case atStart => exact ⟨rfl, rfl, own_empty w _ _ (Nat.le_refl _), by go_grown⟩
    case round =>
      obtain ⟨rfl, rfl, hown, hb⟩ := hrel
      by_cases hlt : 0 < m
      · go_wp2_with fail
        refine (setOk_spec _ _ _ _ _ (h.keep hb) (by omega)).mono ?_
        rintro e w1 ⟨rfl, hb1⟩; rw [Q1.out]
        have hB1 := bthen hb hb1
        have hown1 := (StrsIn.of_own (l := []) hown).keep hb1
        cases q1
        · go_wp2
          go_returns
          exact ⟨_, 0, 0, rfl, hown1.wide (Nat.le_refl _) hb1.size, hB1⟩
        · obtain rfl : q2 = false := by simpa using hqq
          go_wp2_with fail
          refine (setOk_spec _ _ _ _ _ (k.keep hB1) (by omega)).mono ?_
          rintro e w2 ⟨rfl, hb2⟩; rw [Q2.out]
          go_wp2
          go_returns
          exact ⟨_, 0, 0, rfl, (hown1.keep hb2).wide (Nat.le_refl _) (Nat.le_trans hb1.size hb2.size), bthen hB1 hb2⟩
      · go_wp2
        go_returns
        exact ⟨_, 0, 0, rfl, StrsIn.of_own (l := []) hown, hb⟩
end Go.Proofs.YtfbfomlgjghcmaaDoor
