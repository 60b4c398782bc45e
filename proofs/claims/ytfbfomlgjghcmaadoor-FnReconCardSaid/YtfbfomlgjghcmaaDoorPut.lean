/- Contract of the reference's l15Put. -/
import Derived.Test.YtfbfomlgjghcmaaDoorHas
import Derived.Test.YtfbfomlgjghcmaaDoorSortT
namespace Go.Proofs.YtfbfomlgjghcmaaDoor
open Go.RowKit
theorem strsLen {w : World} {A : Option Addr} {n : Nat} {l : List ByteArray} (h : StrsAt w A n l) : n = l.length := h.1
attribute [local irreducible] StrsAt

/-- the put on its way: is x put? what is out? -/
def stStep (x : By) (s : Bool × List By) (y : By) : Bool × List By := if s.1 = false ∧ ltB x y then (true, s.2 ++ [x, y]) else (s.1, s.2 ++ [y])
def stT (x : By) (p : Bool) (l : List By) : Bool × List By := l.foldl (stStep x) (p, [])
def stEnd (x : By) (s : Bool × List By) : List By := if s.1 = true then s.2 else s.2 ++ [x]
theorem stT_nil (x : By) (p : Bool) : stT x p [] = (p, []) := rfl
theorem stT_snoc (x : By) (p : Bool) (l : List By) (y : By) : stT x p (l ++ [y]) = stStep x (stT x p l) y := by simp [stT]
theorem st_true (x : By) (l o : List By) : l.foldl (stStep x) (true, o) = (true, o ++ l) := by
  induction l generalizing o with
  | nil => simp
  | cons y l ih => rw [List.foldl_cons]; unfold stStep; simp only [Bool.true_eq_false, false_and, if_false]; rw [show (fun s y => if s.1 = false ∧ ltB x y then (true, s.2 ++ [x, y]) else (s.1, s.2 ++ [y])) = stStep x from rfl, ih]; simp
theorem st_false (x : By) (l o : List By) : stEnd x (l.foldl (stStep x) (false, o)) = o ++ insB x l := by
  induction l generalizing o with
  | nil => simp [stEnd, insB]
  | cons y l ih =>
    rw [List.foldl_cons, insB]
    by_cases h : ltB x y
    · rw [show stStep x (false, o) y = (true, o ++ [x, y]) by simp [stStep, h], st_true, if_pos h]; simp [stEnd]
    · rw [show stStep x (false, o) y = (false, o ++ [y]) by simp [stStep, h], ih, if_neg h]; simp
theorem st_put (x : By) (l : List By) : stEnd x (stT x (decide (x ∈ l)) l) = putB l x := by
  unfold putB
  by_cases h : x ∈ l
  · rw [if_pos h, show decide (x ∈ l) = true by simpa using h, stT, st_true]; simp [stEnd]
  · rw [if_neg h, show decide (x ∈ l) = false by simpa using h, stT, st_false]; simp
theorem stStep_len (x : By) (s : Bool × List By) (y : By) : (stStep x s y).2.length + (if s.1 = true then 1 else 0) ≤ s.2.length + 1 + (if (stStep x s y).1 = true then 1 else 0) := by
  unfold stStep
  split
  · rename_i h; simp [h.1]
  · simp
theorem stT_len (x : By) (p : Bool) (l : List By) : (stT x p l).2.length ≤ l.length + (if (stT x p l).1 = true then 1 else 0) := by
  have : ∀ (l : List By) (s : Bool × List By), (l.foldl (stStep x) s).2.length + (if s.1 = true then 1 else 0) ≤ s.2.length + l.length + (if (l.foldl (stStep x) s).1 = true then 1 else 0) := by
    intro l
    induction l with
    | nil => intro s; simp only [List.foldl_nil, List.length_nil, Nat.add_zero]; exact Nat.le_refl _
    | cons y l ih => intro s; rw [List.foldl_cons]; have h1 := ih (stStep x s y); have h2 := stStep_len x s y; rw [List.length_cons]; omega
  have := this l (p, [])
  simp only [List.length_nil] at this
  unfold stT; omega

theorem txs_at {bs : List By} {k : Nat} (h : k < bs.length) : sAt (txs bs) k = ofL bs[k] := by simp [sAt, txs, h]
theorem txs_len (bs : List By) : (txs bs).length = bs.length := by simp [txs]
theorem txs_app (a b : List By) : txs (a ++ b) = txs a ++ txs b := by simp [txs]
theorem ofL_list (x : By) : (ofL x).toList = x := by rw [Lib.toList_data]; simp [ofL]
theorem ofL_inj {x y : By} (h : ofL x = ofL y) : x = y := by have := congrArg toL h; rwa [toL_ofL, toL_ofL] at this
theorem hasS_txs (bs : List By) (x : By) : hasS (txs bs) (ofL x) = decide (x ∈ bs) := by
  unfold hasS txs
  rw [Bool.eq_iff_iff, List.any_eq_true, decide_eq_true_eq]
  constructor
  · rintro ⟨y, hy, h⟩
    obtain ⟨z, hz, rfl⟩ := List.mem_map.1 hy
    rw [← ofL_inj (of_decide_eq_true h)]; exact hz
  · intro h
    exact ⟨ofL x, List.mem_map.2 ⟨x, h, rfl⟩, by simp⟩
/-- the reference's comparison: is y greater than x? -/
theorem gtr_iff (x y : By) : (Op.bytesLess (ofL y).toList (ofL x).toList || (ofL y).toList == (ofL x).toList) = !decide (ltB x y) := by
  rw [ofL_list, ofL_list, Bool.eq_iff_iff]
  simp only [Bool.or_eq_true, beq_iff_eq, Bool.not_eq_true', decide_eq_false_iff_not]
  constructor
  · rintro (h | h)
    · exact fun hh => ltB_irr _ (ltB_trans h hh)
    · subst h; exact ltB_irr _
  · intro h
    by_cases h2 : ltB y x
    · exact .inl h2
    · exact .inr (ltB_tri h2 h)

theorem own_str (w : World) {base : Nat} (hb : base ≤ w.heap.size) : (w.alloc (.cells #[] 9)).ownsRow base 9 1 (.slice (some ⟨w.heap.size, 0, none⟩) 0 0) 0 ((txs []).map Value.string) := own_empty w _ _ hb

set_option maxRecDepth 4000 in
set_option maxHeartbeats 1000000 in
theorem l15Put_any (A : Option Addr) (n c : Nat) (bs : List By) (x : By) (w : World) (h : StrsAt w A n (txs bs)) (hn : n ≤ 16777215) :
    Calls Tryd.prog 34 #[.slice A n c, .string (ofL x)] w (StrsR (txs (putB bs x)) w) := by
  have HL := Lib.hid (show n = bs.length by have := strsLen h; rwa [txs_len] at this)
  have al0 := (Below.refl w.heap.size w).alloc (Nat.le_refl _) (.cells #[] 9)
  have HP := Lib.hid (st_put x bs)
  have HS := Lib.hid (hasS_txs bs x)
  obtain ⟨p0, hp0⟩ : ∃ p, decide (x ∈ bs) = p := ⟨_, rfl⟩
  have HP0 := Lib.hid hp0
  clear hp0
  go_enter Tryd.func34, Tryd.ntmps34
  go_wp2_with fail
  refine (l15In_any _ _ _ _ _ _ (h.keep al0) (by omega)).mono ?_
  rintro e w1 ⟨rfl, rfl⟩
  rw [HS.out, HP0.out]
  go_wp2
  go_loopw [5, 6, 7] (fun o q i wr => ∃ (k : Nat) (O : Option Addr) (cap : Nat), k ≤ n ∧ i = .int .i64 k ∧ q = .bool (stT x p0 (bs.take k)).1 ∧ o = .slice O (stT x p0 (bs.take k)).2.length cap ∧
    wr.ownsRow w.heap.size 9 1 (.slice O (stT x p0 (bs.take k)).2.length cap) (stT x p0 (bs.take k)).2.length ((txs (stT x p0 (bs.take k)).2).map Value.string) ∧ Below w.heap.size w wr) (fun _ _ i _ => n - (intOf i).toNat)
  case atStart => exact ⟨0, _, 0, Nat.zero_le _, rfl, rfl, rfl, own_str w (Nat.le_refl _), al0⟩
  case round =>
    obtain ⟨k, O, cap, hk, rfl, rfl, rfl, hown, hb⟩ := hrel
    have hbl := stT_len x p0 (bs.take k)
    have hbl2 : (stT x p0 (bs.take k)).2.length ≤ k + 1 := by rw [List.length_take] at hbl; split at hbl <;> omega
    clear hbl
    by_cases hlt : k < n
    · have hkl : k < bs.length := by have := HL.out; omega
      obtain ⟨b, off, rfl, hbb, hc⟩ := h.at_ (by omega)
      have hck := (hb.cell (p := ⟨b, off + k, none⟩) hbb).trans (hc k hlt)
      rw [txs_at hkl] at hck
      clear hc
      have HT := Lib.hid (show stT x p0 (bs.take (k + 1)) = stStep x (stT x p0 (bs.take k)) bs[k] by rw [List.take_succ_eq_append_getElem hkl, stT_snoc])
      have hG := gtr_iff x bs[k]
      generalize bs[k] = y at *
      generalize hs : stT x p0 (bs.take k) = s at *
      obtain ⟨sp, so⟩ := s
      have hz := hb.size
      clear hs
      simp only at hown hbl2 ⊢
      cases sp
      · by_cases hd : ltB x y
        · rw [show decide (ltB x y) = true by simpa using hd] at hG
          have HE := Lib.hid (show stStep x (false, so) y = (true, so ++ [x] ++ [y]) by simp [stStep, hd])
          clear hd
          go_wp2_with (first | ((at_builtin; refine wpList_app1 (P := Tryd.prog) wr rfl (.tmp 28) (.tmp 30) 22 rfl w.heap.size 9 _ 1 16 Tryd.underlying22 infoString rfl (by omega) (.slice O _ cap) _ _ rfl hown #[.string (ofL x)] rfl rfl (by simp [Value.oneCell']) (by unfold maxLen; omega) (by omega) hz ?_; intro O2 cap2 w3 hown3 hg3 hb3 _); have hck3 := (hb3.cell (p := ⟨b, off + k, none⟩) hbb).trans hck; have hz3 := Nat.le_trans hz hb3.size) | (at_builtin; refine wpList_app1 (P := Tryd.prog) w3 rfl (.tmp 32) (.tmp 37) 22 rfl w.heap.size 9 _ 1 16 Tryd.underlying22 infoString rfl (by omega) (.slice O2 _ cap2) _ _ rfl hown3 #[.string (ofL y)] rfl rfl (by simp [Value.oneCell']) (by unfold maxLen; omega) (by omega) hz3 ?_; intro O4 cap4 w4 hown4 hg4 hb4 _))
          refine ⟨⟨k + 1, O4, cap4, by omega, by go_num, by rw [HT.out, HE.out], by rw [HT.out, HE.out]; simp, ?_, (hb.trans hb3).trans hb4⟩, by simp [intOf]; omega⟩
          rw [HT.out, HE.out]
          simpa [txs_app, txs] using hown4
        · rw [show decide (ltB x y) = false by simpa using hd] at hG
          have HE := Lib.hid (show stStep x (false, so) y = (false, so ++ [y]) by simp [stStep, hd])
          clear hd
          go_wp2_with (at_builtin; refine wpList_app1 (P := Tryd.prog) wr rfl (.tmp 32) (.tmp 37) 22 rfl w.heap.size 9 _ 1 16 Tryd.underlying22 infoString rfl (by omega) (.slice O _ cap) _ _ rfl hown #[.string (ofL y)] rfl rfl (by simp [Value.oneCell']) (by unfold maxLen; omega) (by omega) hz ?_; intro O4 cap4 w4 hown4 hg4 hb4 _)
          refine ⟨⟨k + 1, O4, cap4, by omega, by go_num, by rw [HT.out, HE.out], by rw [HT.out, HE.out]; simp, ?_, hb.trans hb4⟩, by simp [intOf]; omega⟩
          rw [HT.out, HE.out]
          simpa [txs_app, txs] using hown4
      · have HE := Lib.hid (show stStep x (true, so) y = (true, so ++ [y]) by simp [stStep])
        clear hG
        go_wp2_with (at_builtin; refine wpList_app1 (P := Tryd.prog) wr rfl (.tmp 32) (.tmp 37) 22 rfl w.heap.size 9 _ 1 16 Tryd.underlying22 infoString rfl (by omega) (.slice O _ cap) _ _ rfl hown #[.string (ofL y)] rfl rfl (by simp [Value.oneCell']) (by unfold maxLen; omega) (by omega) hz ?_; intro O4 cap4 w4 hown4 hg4 hb4 _)
        refine ⟨⟨k + 1, O4, cap4, by omega, by go_num, by rw [HT.out, HE.out], by rw [HT.out, HE.out]; simp, ?_, hb.trans hb4⟩, by simp [intOf]; omega⟩
        rw [HT.out, HE.out]
        simpa [txs_app, txs] using hown4
    · have ht : bs.take k = bs := List.take_of_length_le (by have := HL.out; omega)
      rw [ht] at hown hbl2 ⊢
      have HP2 := Lib.hid (HP.out)
      rw [HP0.out] at HP2
      generalize stT x p0 bs = s at *
      obtain ⟨sp, so⟩ := s
      have hz := hb.size
      have HE := Lib.hid (show stEnd x (sp, so) = putB bs x from HP2.out)
      clear HP2
      simp only at hown hbl2 ⊢
      cases sp
      · go_wp2_with (at_builtin; refine wpList_app1 (P := Tryd.prog) wr rfl (.tmp 41) (.tmp 43) 22 rfl w.heap.size 9 _ 1 16 Tryd.underlying22 infoString rfl (by omega) (.slice O _ cap) _ _ rfl hown #[.string (ofL x)] rfl rfl (by simp [Value.oneCell']) (by unfold maxLen; omega) (by omega) hz ?_; intro O4 cap4 w4 hown4 hg4 hb4 _)
        go_returns
        refine ⟨O4, _, cap4, rfl, StrsIn.of_own ?_, hb.trans hb4⟩
        rw [← HE.out]
        simpa [stEnd, txs_app, txs] using hown4
      · go_wp2
        go_returns
        refine ⟨O, _, cap, rfl, StrsIn.of_own ?_, hb⟩
        rw [← HE.out]
        simpa [stEnd] using hown
end Go.Proofs.YtfbfomlgjghcmaaDoor
