/- Contracts of split and of the reference's l30Cut; words; paths. -/
import Derived.Test.YtbijkdpifnncmaaNumA
import Derived.Test.YtbijkdpifnncmaaMem
import Derived.Test.YtbijkdpifnncmaaFrame
import Derived.Test.YtbijkdpifnncmaaLawStrs
namespace Go.Proofs.Ytbijkdpifnncmaa
open Go.RowKit

/-- behind i bytes: where the part begins, and the parts before it -/
def splitTo (s : ByteArray) (c : Nat) : Nat → Nat × List ByteArray
  | 0 => (0, [])
  | i + 1 => if bAt s i = c then (i + 1, (splitTo s c i).2 ++ [s.extract (splitTo s c i).1 i]) else splitTo s c i
def splitS (s : ByteArray) (c : Nat) : List ByteArray := (splitTo s c s.size).2 ++ [s.extract (splitTo s c s.size).1 s.size]
theorem splitTo_le (s : ByteArray) (c i : Nat) : (splitTo s c i).1 ≤ i ∧ (splitTo s c i).2.length ≤ i := by
  induction i with
  | zero => simp [splitTo]
  | succ i ih =>
    rw [splitTo]
    split
    · simp; omega
    · omega
theorem splitS_len (s : ByteArray) (c : Nat) : 1 ≤ (splitS s c).length ∧ (splitS s c).length ≤ s.size + 1 := by
  have := splitTo_le s c s.size
  simp [splitS]; omega

set_option maxHeartbeats 400000 in
theorem split_impl (s : ByteArray) (c : Nat) (w : World) (hs : s.size ≤ 4294967296) :
    Calls Try.prog 52 #[.string s, .int .u8 c] w fun e w' => ∃ A n cap, e = .returned (.slice A n cap) ∧ w'.ownsRow w.heap.size 9 1 (.slice A n cap) n ((splitS s c).map Value.string) ∧ Below w.heap.size w w' := by
  go_enter Try.func52, Try.ntmps52
  go_wp2
  go_loopw [5, 6, 7] (fun o f i wr => ∃ (k : Nat) (A : Option Addr) (cap : Nat), k ≤ s.size ∧ i = .int .i64 k ∧ f = .int .i64 (splitTo s c k).1 ∧ o = .slice A (splitTo s c k).2.length cap ∧
      wr.ownsRow w.heap.size 9 1 (.slice A (splitTo s c k).2.length cap) (splitTo s c k).2.length ((splitTo s c k).2.map Value.string) ∧ Below w.heap.size w wr) (fun _ _ i _ => s.size - (intOf i).toNat)
  case atStart => exact ⟨0, _, _, Nat.zero_le _, rfl, rfl, rfl, own_empty w _ _ (Nat.le_refl _), by go_grown⟩
  case round =>
    obtain ⟨k, A, cap, hk, rfl, rfl, rfl, hown, hb⟩ := hrel
    obtain ⟨hle1, hle2⟩ := splitTo_le s c k
    by_cases hlt : k < s.size
    · have hbt := bAt_get hlt
      have hbl := bAt_lt s k
      by_cases hq : bAt s k = c
      · have hq' : ((bAt s k : Nat) : Int) == (c : Int) := by simp [hq]
        have hsp : splitTo s c (k + 1) = (k + 1, (splitTo s c k).2 ++ [s.extract (splitTo s c k).1 k]) := by rw [splitTo, if_pos hq]
        have HSP := Lib.hid hsp; clear hsp hq
        go_wp2_with (at_builtin; refine wpList_app1 (P := Try.prog) wr rfl (.tmp 20) (.tmp 25) 31 rfl w.heap.size 9 _ 1 16 Try.underlying31 infoString rfl (by omega) (.slice A _ cap) _ _ rfl hown #[.string (s.extract (splitTo s c k).1 k)] rfl rfl (by simp [Value.oneCell']) (by unfold maxLen; omega) (by omega) hb.size ?_; intro A' c' w1 hown1 hg1 hb1 _)
        refine ⟨⟨k + 1, A', c', by omega, by go_num, ?_⟩, by simp [intOf]; omega⟩
        rw [HSP.out]
        exact ⟨by go_num, by simp, by simpa using hown1, hb.trans hb1⟩
      · have hq' : (((bAt s k : Nat) : Int) == (c : Int)) = false := by simp; omega
        have hsp : splitTo s c (k + 1) = splitTo s c k := by rw [splitTo, if_neg hq]
        have HSP := Lib.hid hsp; clear hsp hq
        go_wp2
        refine ⟨⟨k + 1, A, cap, by omega, by go_num, ?_⟩, by simp [intOf]; omega⟩
        rw [HSP.out]
        exact ⟨rfl, rfl, hown, hb⟩
    · obtain rfl : k = s.size := by omega
      go_wp2_with (at_builtin; refine wpList_app1 (P := Try.prog) wr rfl (.tmp 29) (.tmp 33) 31 rfl w.heap.size 9 _ 1 16 Try.underlying31 infoString rfl (by omega) (.slice A _ cap) _ _ rfl hown #[.string (s.extract (splitTo s c s.size).1 s.size)] rfl rfl (by simp [Value.oneCell']) (by unfold maxLen; omega) (by omega) hb.size ?_; intro A' c' w1 hown1 hg1 hb1 _)
      go_returns
      refine ⟨A', _, c', rfl, ?_, hb.trans hb1⟩
      simpa [splitS] using hown1

set_option maxHeartbeats 400000 in
theorem l30Cut_spec (s : ByteArray) (w : World) (hs : s.size ≤ 4294967296) :
    Calls Try.prog 55 #[.string s] w fun e w' => ∃ A n cap, e = .returned (.slice A n cap) ∧ w'.ownsRow w.heap.size 9 1 (.slice A n cap) n ((splitS s 47).map Value.string) ∧ Below w.heap.size w w' := by
  go_enter Try.func55, Try.ntmps55
  go_wp2
  go_loopw [3, 4, 5] (fun o f i wr => ∃ (k : Nat) (A : Option Addr) (cap : Nat), k ≤ s.size ∧ i = .int .i64 k ∧ f = .int .i64 (splitTo s 47 k).1 ∧ o = .slice A (splitTo s 47 k).2.length cap ∧
      wr.ownsRow w.heap.size 9 1 (.slice A (splitTo s 47 k).2.length cap) (splitTo s 47 k).2.length ((splitTo s 47 k).2.map Value.string) ∧ Below w.heap.size w wr) (fun _ _ i _ => s.size - (intOf i).toNat)
  case atStart => exact ⟨0, _, _, Nat.zero_le _, rfl, rfl, rfl, own_empty w _ _ (Nat.le_refl _), by go_grown⟩
  case round =>
    obtain ⟨k, A, cap, hk, rfl, rfl, rfl, hown, hb⟩ := hrel
    obtain ⟨hle1, hle2⟩ := splitTo_le s 47 k
    by_cases hlt : k < s.size
    · have hbt := bAt_get hlt
      have hbl := bAt_lt s k
      by_cases hq : bAt s k = 47
      · have hq' : ((bAt s k : Nat) : Int) == (47 : Int) := by simp [hq]
        have hsp : splitTo s 47 (k + 1) = (k + 1, (splitTo s 47 k).2 ++ [s.extract (splitTo s 47 k).1 k]) := by rw [splitTo, if_pos hq]
        have HSP := Lib.hid hsp; clear hsp hq
        go_wp2_with (at_builtin; refine wpList_app1 (P := Try.prog) wr rfl (.tmp 17) (.tmp 22) 31 rfl w.heap.size 9 _ 1 16 Try.underlying31 infoString rfl (by omega) (.slice A _ cap) _ _ rfl hown #[.string (s.extract (splitTo s 47 k).1 k)] rfl rfl (by simp [Value.oneCell']) (by unfold maxLen; omega) (by omega) hb.size ?_; intro A' c' w1 hown1 hg1 hb1 _)
        refine ⟨⟨k + 1, A', c', by omega, by go_num, ?_⟩, by simp [intOf]; omega⟩
        rw [HSP.out]
        exact ⟨by go_num, by simp, by simpa using hown1, hb.trans hb1⟩
      · have hq' : (((bAt s k : Nat) : Int) == (47 : Int)) = false := by simp; omega
        have hsp : splitTo s 47 (k + 1) = splitTo s 47 k := by rw [splitTo, if_neg hq]
        have HSP := Lib.hid hsp; clear hsp hq
        go_wp2
        refine ⟨⟨k + 1, A, cap, by omega, by go_num, ?_⟩, by simp [intOf]; omega⟩
        rw [HSP.out]
        exact ⟨rfl, rfl, hown, hb⟩
    · obtain rfl : k = s.size := by omega
      go_wp2_with (at_builtin; refine wpList_app1 (P := Try.prog) wr rfl (.tmp 26) (.tmp 30) 31 rfl w.heap.size 9 _ 1 16 Try.underlying31 infoString rfl (by omega) (.slice A _ cap) _ _ rfl hown #[.string (s.extract (splitTo s 47 s.size).1 s.size)] rfl rfl (by simp [Value.oneCell']) (by unfold maxLen; omega) (by omega) hb.size ?_; intro A' c' w1 hown1 hg1 hb1 _)
      go_returns
      refine ⟨A', _, c', rfl, ?_, hb.trans hb1⟩
      simpa [splitS] using hown1

/-- one to eight letters -/
def wordB (s : ByteArray) : Bool := inB s.size 1 8 && (List.range s.size).all (fun i => inB (bAt s i) 97 122)
theorem wordB_no {s : ByteArray} {k : Nat} (hk : k < s.size) (h : inB (bAt s k) 97 122 = false) : wordB s = false := by
  unfold wordB; rw [all_no hk h, Bool.and_false]
theorem wordB_all {s : ByteArray} (h : ∀ j, j < s.size → inB (bAt s j) 97 122 = true) : wordB s = inB s.size 1 8 := by
  unfold wordB; rw [all_yes h, Bool.and_true]
theorem inB_no {x lo hi : Int} (h : x < lo ∨ hi < x) : inB x lo hi = false := by simp [inB]; omega
theorem inB_yes {x lo hi : Int} (h1 : lo ≤ x) (h2 : x ≤ hi) : inB x lo hi = true := by simp [inB, h1, h2]

theorem isWord_impl (s : ByteArray) (w : World) (hs : s.size ≤ 9223372036854775807) :
    Calls Try.prog 57 #[.string s] w fun e w' => e = .returned (.bool (wordB s)) ∧ w = w' := by
  go_enter Try.func57, Try.ntmps57
  go_wp2
  go_loop [3] (fun i => ∃ k : Nat, k ≤ s.size ∧ i = .int .i64 k ∧ ∀ j, j < k → inB (bAt s j) 97 122 = true) (fun i => s.size - (intOf i).toNat)
  case atStart => exact ⟨0, Nat.zero_le _, rfl, fun j hj => absurd hj (by omega)⟩
  case round =>
    obtain ⟨k, hk, rfl, hall⟩ := hrel
    have HA := Lib.hid hall; clear hall
    by_cases hlt : k < s.size
    · have hbt := bAt_get hlt
      have hbl := bAt_lt s k
      by_cases h1 : bAt s k < 97
      · go_wp2
        go_returns
        exact ⟨ret_bool (wordB_no hlt (inB_no (by omega))).symm, rfl⟩
      · by_cases h2 : 122 < bAt s k
        · go_wp2
          go_returns
          exact ⟨ret_bool (wordB_no hlt (inB_no (by omega))).symm, rfl⟩
        · go_wp2
          exact ⟨⟨k + 1, by omega, by go_num, upto_succ HA.out (inB_yes (by omega) (by omega))⟩, by simp [intOf]; omega⟩
    · go_wp2_with (go_at_call 64; refine (within_any _ _ _ _).mono ?_; rintro e w' ⟨rfl, rfl⟩)
      go_returns
      exact ⟨ret_bool (by rw [wordB_all (fun j hj => HA.out j (by omega))]), rfl⟩

theorem l4Word_spec (s : ByteArray) (w : World) (hs : s.size ≤ 9223372036854775807) :
    Calls Try.prog 58 #[.string s] w fun e w' => e = .returned (.bool (wordB s)) ∧ w = w' := by
  by_cases h0 : inB s.size 1 8 = true
  · go_enter Try.func58, Try.ntmps58
    go_wp2_with (first | (go_at_call 69; refine (l1In_any _ _ _ _).mono ?_; rintro e w' ⟨rfl, rfl⟩))
    go_loop [3] (fun i => ∃ k : Nat, k ≤ s.size ∧ i = .int .i64 k ∧ ∀ j, j < k → inB (bAt s j) 97 122 = true) (fun i => s.size - (intOf i).toNat)
    case atStart => exact ⟨0, Nat.zero_le _, rfl, fun j hj => absurd hj (by omega)⟩
    case round =>
      obtain ⟨k, hk, rfl, hall⟩ := hrel
      have HA := Lib.hid hall; clear hall
      by_cases hlt : k < s.size
      · have hbt := bAt_get hlt
        have hbl := bAt_lt s k
        by_cases h1 : bAt s k < 97
        · go_wp2
          go_returns
          exact ⟨ret_bool (wordB_no hlt (inB_no (by omega))).symm, rfl⟩
        · by_cases h2 : 122 < bAt s k
          · go_wp2
            go_returns
            exact ⟨ret_bool (wordB_no hlt (inB_no (by omega))).symm, rfl⟩
          · go_wp2
            exact ⟨⟨k + 1, by omega, by go_num, upto_succ HA.out (inB_yes (by omega) (by omega))⟩, by simp [intOf]; omega⟩
      · go_wp2
        go_returns
        exact ⟨ret_bool (by rw [wordB_all (fun j hj => HA.out j (by omega)), h0]), rfl⟩
  · go_enter Try.func58, Try.ntmps58
    go_wp2_with (first | (go_at_call 69; refine (l1In_any _ _ _ _).mono ?_; rintro e w' ⟨rfl, rfl⟩))
    go_returns
    refine ⟨ret_bool ?_, rfl⟩
    unfold wordB; simp [h0]

def pathOkB (p : ByteArray) : Bool := (List.range (splitS p 47).length).all (fun i => wordB (sAt (splitS p 47) i)) && decide ((splitS p 47).length ≤ 3)
theorem pathOkB_no {p : ByteArray} {k : Nat} (hk : k < (splitS p 47).length) (h : wordB (sAt (splitS p 47) k) = false) : pathOkB p = false := by
  unfold pathOkB; rw [all_no hk h, Bool.false_and]
theorem pathOkB_all {p : ByteArray} (h : ∀ j, j < (splitS p 47).length → wordB (sAt (splitS p 47) j) = true) : pathOkB p = decide ((splitS p 47).length ≤ 3) := by
  unfold pathOkB; rw [all_yes h, Bool.true_and]
theorem sAt_splitS_size (s : ByteArray) (c k : Nat) : (sAt (splitS s c) k).size ≤ s.size := by
  have h : ∀ x ∈ splitS s c, x.size ≤ s.size := by
    have h2 : ∀ i, i ≤ s.size → ∀ x ∈ (splitTo s c i).2, x.size ≤ s.size := by
      intro i
      induction i with
      | zero => simp [splitTo]
      | succ i ih =>
        intro hi x hx
        rw [splitTo] at hx
        split at hx
        · rcases List.mem_append.1 hx with h | h
          · exact ih (by omega) x h
          · simp at h; subst h; simp [ByteArray.size_extract]; omega
        · exact ih (by omega) x hx
    intro x hx
    rcases List.mem_append.1 hx with h | h
    · exact h2 _ (Nat.le_refl _) x h
    · simp at h; subst h; simp [ByteArray.size_extract]
  rcases Nat.lt_or_ge k (splitS s c).length with hk | hk
  · rw [sAt_get hk]; exact h _ (List.getElem_mem hk)
  · simp [sAt, hk]

theorem pathOk_impl (p : ByteArray) (w : World) (hs : p.size ≤ 4294967296) :
    Calls Try.prog 23 #[.string p] w fun e w' => e = .returned (.bool (pathOkB p)) ∧ Below w.heap.size w w' := by
  go_enter Try.func23, Try.ntmps23
  go_wp2_with fail
  refine (split_impl p 47 _ hs).mono ?_
  rintro e w1 ⟨A, n, cap, rfl, hown, hb1⟩
  have hsa := StrsAt.of_own hown
  have hL := hsa.1
  have hLe := (splitS_len p 47).2
  have HL := Lib.hid hL; clear hL
  have hn : n ≤ 4294967297 := by have := HL.out; omega
  clear hown
  go_wp2
  go_loop [10] (fun i => ∃ k : Nat, k ≤ n ∧ i = .int .i64 k ∧ ∀ j, j < k → wordB (sAt (splitS p 47) j) = true) (fun i => n - (intOf i).toNat)
  case atStart => exact ⟨0, Nat.zero_le _, rfl, fun j hj => absurd hj (by omega)⟩
  case round =>
    obtain ⟨k, hk, rfl, hall⟩ := hrel
    have HA := Lib.hid hall; clear hall
    by_cases hlt : k < n
    · obtain ⟨b, off, rfl, hbl, hc⟩ := hsa.at_ (by omega)
      have hck := hc k hlt
      clear hc
      have hsz := sAt_splitS_size p 47 k
      cases hw : wordB (sAt (splitS p 47) k) with
      | true =>
        go_wp2_with (go_at_call 57; refine (isWord_impl _ _ (by omega)).mono ?_; rintro e w' ⟨rfl, rfl⟩)
        exact ⟨⟨k + 1, by omega, by go_num, upto_succ HA.out hw⟩, by simp [intOf]; omega⟩
      | false =>
        go_wp2_with (go_at_call 57; refine (isWord_impl _ _ (by omega)).mono ?_; rintro e w' ⟨rfl, rfl⟩)
        go_returns
        exact ⟨ret_bool (pathOkB_no (by have := HL.out; omega) hw).symm, hb1⟩
    · go_wp2
      go_returns
      refine ⟨ret_bool ?_, hb1⟩
      rw [pathOkB_all (fun j hj => HA.out j (by have := HL.out; omega)), ← HL.out]
      simp; omega

theorem pathOk_spec (p : ByteArray) (w : World) (hs : p.size ≤ 4294967296) :
    Calls Try.prog 24 #[.string p] w fun e w' => e = .returned (.bool (pathOkB p)) ∧ Below w.heap.size w w' := by
  go_enter Try.func24, Try.ntmps24
  go_wp2_with fail
  refine (l30Cut_spec p _ hs).mono ?_
  rintro e w1 ⟨A, n, cap, rfl, hown, hb1⟩
  have hsa := StrsAt.of_own hown
  have hL := hsa.1
  have hLe := (splitS_len p 47).2
  have HL := Lib.hid hL; clear hL
  have hn : n ≤ 4294967297 := by have := HL.out; omega
  clear hown
  go_wp2
  go_loop [4] (fun i => ∃ k : Nat, k ≤ n ∧ i = .int .i64 k ∧ ∀ j, j < k → wordB (sAt (splitS p 47) j) = true) (fun i => n - (intOf i).toNat)
  case atStart => exact ⟨0, Nat.zero_le _, rfl, fun j hj => absurd hj (by omega)⟩
  case round =>
    obtain ⟨k, hk, rfl, hall⟩ := hrel
    have HA := Lib.hid hall; clear hall
    by_cases hlt : k < n
    · obtain ⟨b, off, rfl, hbl, hc⟩ := hsa.at_ (by omega)
      have hck := hc k hlt
      clear hc
      have hsz := sAt_splitS_size p 47 k
      cases hw : wordB (sAt (splitS p 47) k) with
      | true =>
        go_wp2_with (go_at_call 58; refine (l4Word_spec _ _ (by omega)).mono ?_; rintro e w' ⟨rfl, rfl⟩)
        exact ⟨⟨k + 1, by omega, by go_num, upto_succ HA.out hw⟩, by simp [intOf]; omega⟩
      | false =>
        go_wp2_with (go_at_call 58; refine (l4Word_spec _ _ (by omega)).mono ?_; rintro e w' ⟨rfl, rfl⟩)
        go_returns
        exact ⟨ret_bool (pathOkB_no (by have := HL.out; omega) hw).symm, hb1⟩
    · go_wp2
      go_returns
      refine ⟨ret_bool ?_, hb1⟩
      rw [pathOkB_all (fun j hj => HA.out j (by have := HL.out; omega)), ← HL.out]
      simp; omega
end Go.Proofs.Ytbijkdpifnncmaa
