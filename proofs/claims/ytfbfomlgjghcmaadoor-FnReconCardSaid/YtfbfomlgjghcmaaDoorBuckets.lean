/- Contracts of Short and BucketSums, the program's and the reference's. -/
import Derived.Test.YtfbfomlgjghcmaaDoorShaJ
import Derived.Test.YtfbfomlgjghcmaaDoorShaP
import Derived.Test.YtfbfomlgjghcmaaDoorSets
import Derived.Test.YtfbfomlgjghcmaaDoorStrRow
namespace Go.Proofs.YtfbfomlgjghcmaaDoor
open Go.RowKit

theorem short_impl (s : ByteArray) (w : World) (hs : s.size ≤ 1099511627776) (hk : KeysAt w) :
    Calls Tryd.prog 32 #[.string s] w fun e w' => e = .returned (.string (shortS s)) ∧ Below w.heap.size w w' := by
  have h32 := shaS_size s
  go_enter Tryd.func32, Tryd.ntmps32
  go_wp2_with fail
  refine (sha_impl s w hs hk).mono ?_
  rintro e w1 ⟨rfl, hb⟩
  go_wp2
  go_returns
  exact ⟨rfl, hb⟩
theorem short_spec (s : ByteArray) (w : World) (hs : s.size ≤ 1099511627776) :
    Calls Tryd.prog 30 #[.string s] w fun e w' => e = .returned (.string (shortS s)) ∧ Below w.heap.size w w' := by
  have h32 := shaS_size s
  go_enter Tryd.func30, Tryd.ntmps30
  go_wp2_with fail
  refine (sha_spec s w hs).mono ?_
  rintro e w1 ⟨rfl, hb⟩
  go_wp2
  go_returns
  exact ⟨rfl, hb⟩

/-! ### the texts of the buckets -/
theorem bucketOf_in (s : ByteArray) : 0 ≤ bucketOf s ∧ bucketOf s < 16 := by
  unfold bucketOf
  split <;> omega
/-- the texts in bucket b of the first k, one behind the other -/
def bktTo (l : List ByteArray) (k b : Nat) : ByteArray :=
  match k with
  | 0 => .empty
  | k + 1 => if bucketOf (sAt l k) = (b : Int) then bktTo l k b ++ sAt l k else bktTo l k b
theorem bktTo_size (l : List ByteArray) (b : Nat) : ∀ k, k ≤ l.length → (bktTo l k b).size ≤ ((l.take k).map ByteArray.size).sum
  | 0, _ => by simp [bktTo]
  | k + 1, h => by
    have ih := bktTo_size l b k (by omega)
    have e : sAt l k = l[k]'(by omega) := by simp [sAt, show k < l.length by omega]
    rw [List.take_succ_eq_append_getElem (by omega), List.map_append, List.sum_append]
    simp only [bktTo, List.map_cons, List.map_nil, List.sum_cons, List.sum_nil]
    split
    · rw [ByteArray.size_append, e]; omega
    · omega
theorem take_sum (l : List ByteArray) (k : Nat) : ((l.take k).map ByteArray.size).sum ≤ (l.map ByteArray.size).sum := by
  induction l generalizing k with
  | nil => simp
  | cons x l ih =>
    cases k with
    | zero => simp
    | succ k => simp; have := ih k; simp at this; omega
theorem bktTo_le (l : List ByteArray) (k b : Nat) (h : k ≤ l.length) {m : Nat} (hs : strsSz l ≤ m) : (bktTo l k b).size ≤ m := by
  have h1 := bktTo_size l b k h
  have h2 := take_sum l k
  unfold strsSz at hs
  omega
/-- the sum of a bucket's text -/
def sumT (t : ByteArray) : ByteArray := if t.size = 0 then .empty else shortS t
theorem sumT_size (t : ByteArray) : (sumT t).size ≤ 8 := by
  unfold sumT; split
  · simp
  · rw [shortS_size]; omega
def sumsL (l : List ByteArray) : List ByteArray := if setOkB l = true then (List.range 16).map (fun b => sumT (bktTo l l.length b)) else []
theorem sumsL_sz (l : List ByteArray) : strsSz (sumsL l) ≤ 1048576 := by
  unfold sumsL
  split
  · have h : ∀ f : Nat → ByteArray, (∀ b, (f b).size ≤ 8) → ∀ n, (((List.range n).map f).map ByteArray.size).sum ≤ 8 * n := by
      intro f hf n
      induction n with
      | zero => simp
      | succ n ih => rw [List.range_succ, List.map_append, List.map_append, List.sum_append]; simp at ih ⊢; have := hf n; omega
    have := h (fun b => sumT (bktTo l l.length b)) (fun b => sumT_size _) 16
    unfold strsSz
    simp at this ⊢
    omega
  · simp [strsSz]
theorem set_map {β : Type} {n k : Nat} {f g : Nat → β} {v : β} (hk : k < n) (hv : v = g k) (h : ∀ b, b < n → b ≠ k → f b = g b) : ((List.range n).map f).set k v = (List.range n).map g := by
  apply List.ext_getElem?
  intro i
  rw [List.getElem?_set]
  by_cases e : k = i
  · subst e; simp [hk, hv]
  · rw [if_neg e]
    by_cases hi : i < n
    · simp [hi, h i hi (Ne.symm e)]
    · simp [hi]
theorem map_ext16 {f g : Nat → ByteArray} (h : ∀ b, b < 16 → f b = g b) : (List.range 16).map (fun b => Value.string (f b)) = (List.range 16).map (fun b => Value.string (g b)) :=
  List.map_congr_left (fun b hb => by rw [h b (List.mem_range.1 hb)])
theorem sixteen (z : ByteArray) : (madeCells (Value.string z).cells (16 * 1)).toList = (List.range 16).map (fun _ => Value.string z) := by
  rw [Nat.mul_one]
  exact toList_madeCells_one _ 16

set_option maxRecDepth 8000 in
set_option maxHeartbeats 4000000 in
theorem bucketSums_impl (A : Option Addr) (n c : Nat) (l : List ByteArray) (w : World) (h : StrsAt w A n l) (hsz : strsSz l ≤ 1048576) (hk : KeysAt w) :
    Calls Tryd.prog 10 #[.slice A n c] w (StrsR (sumsL l) w) := by
  have hn : n ≤ 1048576 := strs_n h hsz
  have HM := Lib.hid h.1.symm
  obtain ⟨q1, hq1⟩ : ∃ q, setOkB l = q := ⟨_, rfl⟩
  have Q1 := Lib.hid hq1
  cases q1
  · have HR := Lib.hid (show sumsL l = [] by simp [sumsL, hq1])
    clear hq1
    rw [HR.out]
    go_enter Tryd.func10, Tryd.ntmps10
    go_wp2_with (go_at_call 28; refine (setOk_impl _ _ _ _ _ h (by omega)).mono ?_; rintro e w' ⟨rfl, rfl⟩; rw [Q1.out])
    go_returns
    exact ⟨none, 0, 0, rfl, StrsIn.nil, Below.refl _ _⟩
  · have HR := Lib.hid (show sumsL l = (List.range 16).map (fun b => sumT (bktTo l l.length b)) by simp [sumsL, hq1])
    clear hq1
    go_enter Tryd.func10, Tryd.ntmps10
    go_wp2_with fail
    refine (setOk_impl _ _ _ _ _ h (by omega)).mono ?_
    rintro e w' ⟨rfl, rfl⟩; rw [Q1.out]
    go_wp2_with (refine wpList_mk (P := Tryd.prog) _ rfl _ _ 22 rfl w.heap.size 9 _ 1 16 Tryd.underlying22 infoString _ _ _ _ 16 rfl rfl rfl rfl (by omega) (by unfold maxLen; omega) (Nat.le_refl _) ?_; intro w1 hown1 hg1 hb1)
    rw [sixteen] at hown1
    clear hg1
    go_loopw [15] (fun i wr => ∃ k : Nat, k ≤ n ∧ i = .int .i64 k ∧ wr.ownsRow w.heap.size 9 1 (.slice (some ⟨w.heap.size, 0, none⟩) 16 16) 16 ((List.range 16).map (fun b => Value.string (bktTo l k b))) ∧ Below w.heap.size w wr) (fun i _ => n - (intOf i).toNat)
    case atStart => exact ⟨0, Nat.zero_le _, rfl, hown1, hb1⟩
    case round =>
      obtain ⟨k, hk', rfl, hown, hb⟩ := hrel
      by_cases hlt : k < n
      · obtain ⟨b0, off, rfl, hbl, hc⟩ := h.at_ (by omega)
        have hck := (hb.cell (p := ⟨b0, off + k, none⟩) hbl).trans (hc k hlt)
        clear hc
        obtain ⟨hb0, hb16⟩ := bucketOf_in (sAt l k)
        obtain ⟨q, hq⟩ := Int.eq_ofNat_of_zero_le hb0
        have hq16 : q < 16 := by omega
        have HQ := Lib.hid hq
        clear hb0 hb16 hq
        have hcq := (hown.cellAt q hq16).trans (by rw [List.getElem?_map, List.getElem?_range hq16]; rfl : _ = some (Value.string (bktTo l k q)))
        have hfr := hown.frozenAt q
        have hs1 := bktTo_le l k q (by have := HM.out; omega) hsz
        have hs2 : (sAt l k).size ≤ 1048576 := by
          have := bktTo_le l (k + 1) q (by have := HM.out; omega) hsz
          simp only [bktTo, HQ.out, if_true, ByteArray.size_append] at this
          omega
        have hqi : (q : Int) < 16 := by omega
        go_wp2_with fail
        refine (bucketOf_impl _ _).mono ?_
        rintro e w' ⟨rfl, rfl⟩; rw [HQ.out]
        go_wp2
        obtain ⟨hown2, hg2⟩ := hown.stored q (.string (bktTo l k q ++ sAt l k))
        refine ⟨⟨k + 1, by omega, by go_num, ?_, hb.grown hg2 hb.size (by simp)⟩, by simp [intOf]; omega⟩
        rw [set_map (g := fun b => Value.string (bktTo l (k + 1) b)) hq16 (by simp only [bktTo, HQ.out, if_true]) (fun b _ hne => by simp only [bktTo, HQ.out]; rw [if_neg (by omega)])] at hown2
        exact hown2
      · have hk0 : k = n := by omega
        subst hk0
        rw [show (List.range 16).map (fun b => Value.string (bktTo l k b)) = (List.range 16).map (fun b => Value.string (if b < 0 then sumT (bktTo l k b) else bktTo l k b)) by simp] at hown
        have hbs : ∀ b, (bktTo l k b).size ≤ 1048576 := fun b => bktTo_le l k b (by have := HM.out; omega) hsz
        have HR2 := HR.out
        rw [HM.out] at HR2
        have HR3 := Lib.hid HR2; clear HR2 HR
        generalize bktTo l k = T at *
        go_wp2
        go_loopw [33] (fun i w2 => ∃ j : Nat, j ≤ 16 ∧ i = .int .i64 j ∧ w2.ownsRow w.heap.size 9 1 (.slice (some ⟨w.heap.size, 0, none⟩) 16 16) 16 ((List.range 16).map (fun b => Value.string (if b < j then sumT (T b) else T b))) ∧ Below w.heap.size w w2) (fun i _ => 16 - (intOf i).toNat)
        case atStart => exact ⟨0, Nat.zero_le _, rfl, hown, hb⟩
        case round =>
          clear hown hb
          obtain ⟨j, hj, rfl, hown, hb⟩ := hrel
          by_cases hlt16 : j < 16
          · have hcj := (hown.cellAt j hlt16).trans (by rw [List.getElem?_map, List.getElem?_range hlt16]; rfl : _ = some (Value.string (if j < j then sumT (T j) else T j)))
            rw [if_neg (Nat.lt_irrefl j)] at hcj
            have hji : (j : Int) < 16 := by omega
            have hTj := hbs j
            by_cases h0 : (T j).size = 0
            · have hE : T j = .empty := ByteArray.size_eq_zero_iff.1 h0
              have HE := Lib.hid hE
              rw [hE] at hcj
              clear hE h0
              go_wp2
              refine ⟨⟨j + 1, by omega, by go_num, ?_, hb⟩, by simp [intOf]; omega⟩
              refine cast (congrArg _ (map_ext16 (fun b hb => ?_))) hown
              by_cases e : b = j
              · subst e; rw [if_neg (Nat.lt_irrefl b), if_pos (Nat.lt_succ_self b), HE.out]; rfl
              · by_cases e2 : b < j
                · rw [if_pos e2, if_pos (by omega)]
                · rw [if_neg e2, if_neg (by omega)]
            · have g1 : ((T j).toList == ([] : List UInt8)) = false := by
                have := str_ne (s := T j) (by omega)
                cases hh : (T j).toList with
                | nil => rw [hh] at this; cases this
                | cons a t => rfl
              have H0 := Lib.hid h0
              clear h0
              go_wp2_with fail
              refine (short_impl (T j) wr (by omega) (hk.keep hb)).mono ?_
              rintro e w3 ⟨rfl, hb3⟩
              have hown3 := own_keep hown hb3
              have hB3 := bthen hb hb3
              obtain ⟨old, hold⟩ := own_cell hown3 (j := j) (by omega)
              have hfr := hown3.frozenAt j
              go_wp2
              obtain ⟨hown4, hg4⟩ := hown3.stored j (.string (shortS (T j)))
              refine ⟨⟨j + 1, by omega, by go_num, ?_, hB3.grown hg4 hB3.size (by simp)⟩, by simp [intOf]; omega⟩
              have hv : shortS (T j) = sumT (T j) := by unfold sumT; rw [if_neg H0.out]
              rw [set_map (g := fun b => Value.string (if b < j + 1 then sumT (T b) else T b)) hlt16 (by simp [hv]) (fun b _ hne => by
                by_cases e2 : b < j
                · simp only [if_pos e2, if_pos (show b < j + 1 by omega)]
                · simp only [if_neg e2, if_neg (show ¬ b < j + 1 by omega)])] at hown4
              exact hown4
          · have hj0 : j = 16 := by omega
            subst hj0
            go_wp2
            go_returns
            refine ⟨_, 16, 16, rfl, ?_, hb⟩
            rw [HR3.out]
            refine StrsIn.of_own ?_
            rw [List.map_map]
            refine cast (congrArg _ ?_) hown
            exact map_ext16 (fun b hb => if_pos hb)

set_option maxRecDepth 8000 in
set_option maxHeartbeats 4000000 in
theorem bucketSums_spec (A : Option Addr) (n c : Nat) (l : List ByteArray) (w : World) (h : StrsAt w A n l) (hsz : strsSz l ≤ 1048576) :
    Calls Tryd.prog 8 #[.slice A n c] w (StrsR (sumsL l) w) := by
  have hn : n ≤ 1048576 := strs_n h hsz
  have HM := Lib.hid h.1.symm
  obtain ⟨q1, hq1⟩ : ∃ q, setOkB l = q := ⟨_, rfl⟩
  have Q1 := Lib.hid hq1
  cases q1
  · have HR := Lib.hid (show sumsL l = [] by simp [sumsL, hq1])
    clear hq1
    rw [HR.out]
    go_enter Tryd.func8, Tryd.ntmps8
    go_wp2
    go_loopw [4, 3] (fun i o wr => i = .int .i64 0 ∧ o = .slice (some ⟨w.heap.size, 0, none⟩) 0 0 ∧ wr = w.alloc (.cells #[] 9)) (fun i _ _ => 0)
    case atStart => exact ⟨rfl, rfl, rfl⟩
    case round =>
      obtain ⟨rfl, rfl, rfl⟩ := hrel
      have hal : Below w.heap.size w (w.alloc (.cells #[] 9)) := (Below.refl _ _).alloc (Nat.le_refl _) _
      go_wp2_with fail
      refine (setOk_spec _ _ _ _ _ (h.keep hal) (by omega)).mono ?_
      rintro e w1 ⟨rfl, hb1⟩; rw [Q1.out]
      go_wp2
      go_returns
      exact ⟨_, 0, 0, rfl, (StrsIn.of_own (own_empty w _ _ (Nat.le_refl _))).keep hb1 |>.wide (Nat.le_refl _) hb1.size, bthen hal hb1⟩
  · have HR := Lib.hid (show sumsL l = (List.range 16).map (fun b => sumT (bktTo l l.length b)) by simp [sumsL, hq1])
    clear hq1
    go_enter Tryd.func8, Tryd.ntmps8
    go_wp2
    go_loopw [4, 3] (fun i o wr => ∃ (b : Nat) (O : Option Addr) (cap : Nat), b ≤ 16 ∧ i = .int .i64 b ∧ o = .slice O b cap ∧ RowIn 9 1 w.heap.size wr.heap.size wr O b cap ((List.range b).map (fun b => Value.string (sumT (bktTo l n b)))) ∧ Below w.heap.size w wr) (fun i _ _ => 16 - (intOf i).toNat)
    case atStart => exact ⟨0, _, 0, Nat.zero_le _, rfl, rfl, RowIn.of_own (own_empty w _ _ (Nat.le_refl _)), (Below.refl _ _).alloc (Nat.le_refl _) _⟩
    case round =>
      obtain ⟨b, O, cap, hb16, rfl, rfl, hrow, hb⟩ := hrel
      by_cases hlt16 : b < 16
      · have hbi : (b : Int) < 16 := by omega
        go_wp2_with fail
        refine (setOk_spec _ _ _ _ _ (h.keep hb) (by omega)).mono ?_
        rintro e w1 ⟨rfl, hb1⟩; rw [Q1.out]
        have hrow1 := hrow.keep hb1
        have hB1 := bthen hb hb1
        have hz1 := hb1.size
        clear hrow hb
        go_wp2
        go_loopw [6, 5] (fun i t w2 => ∃ k : Nat, k ≤ n ∧ i = .int .i64 k ∧ t = .string (bktTo l k b) ∧ Below w1.heap.size w1 w2) (fun i _ _ => n - (intOf i).toNat)
        case atStart => exact ⟨0, Nat.zero_le _, rfl, rfl, Below.refl _ _⟩
        case round =>
          obtain ⟨k, hk, rfl, rfl, hb2⟩ := hrel
          by_cases hlt : k < n
          · obtain ⟨b0, off, rfl, hbl, hc⟩ := h.at_ (by omega)
            have hck := keep_cell hb2 ((hB1.cell (p := ⟨b0, off + k, none⟩) hbl).trans (hc k hlt))
            clear hc
            have hs1 := bktTo_le l k b (by have := HM.out; omega) hsz
            by_cases hq : bucketOf (sAt l k) = (b : Int)
            · have hs2 : (sAt l k).size ≤ 1048576 := by
                have := bktTo_le l (k + 1) b (by have := HM.out; omega) hsz
                simp only [bktTo, hq, if_true, ByteArray.size_append] at this
                omega
              have HQ := Lib.hid hq
              clear hq
              go_wp2_with fail
              refine (bucketOf_spec _ _).mono ?_
              rintro e w' ⟨rfl, rfl⟩; rw [HQ.out]
              go_wp2
              exact ⟨⟨k + 1, by omega, by go_num, by simp only [bktTo, HQ.out, if_true], hb2⟩, by simp [intOf]; omega⟩
            · obtain ⟨q, hqq⟩ : ∃ q, bucketOf (sAt l k) = q := ⟨_, rfl⟩
              rw [hqq] at hq
              have HQ := Lib.hid hqq
              have HN := Lib.hid hq
              have hbq : (q == (b : Int)) = false := by simpa using hq
              clear hqq hq
              go_wp2_with fail
              refine (bucketOf_spec _ _).mono ?_
              rintro e w' ⟨rfl, rfl⟩; rw [HQ.out]
              go_wp2
              exact ⟨⟨k + 1, by omega, by go_num, by simp only [bktTo, HQ.out]; rw [if_neg HN.out], hb2⟩, by simp [intOf]; omega⟩
          · have hk0 : k = n := by omega
            subst hk0
            have hrow2 := hrow1.keep hb2
            have hB2 := bthen hB1 hb2
            have hTs := bktTo_le l k b (by have := HM.out; omega) hsz
            have HSN := Lib.hid (range_snoc (fun b => Value.string (sumT (bktTo l k b))) b)
            generalize hT : bktTo l k b = T at *
            have HT := Lib.hid hT
            clear hT hrow1
            have hz2 := hB2.size
            by_cases h0 : T.size = 0
            · have hE : T = .empty := ByteArray.size_eq_zero_iff.1 h0
              subst hE
              have hown2 := hrow2.own
              go_wp2_with (at_builtin; refine wpList_app1g (P := Tryd.prog) wr rfl (.tmp 37) (.tmp 38) 22 rfl w.heap.size 9 _ 1 16 Tryd.underlying22 infoString rfl (by omega) (.slice O b cap) _ _ rfl hown2 _ _ rfl (by simp) rfl (by simp [Value.oneCell']) (by unfold maxLen; omega) (by omega) hz2 ?_; intro A' c' w3 hown3 hg3 hb3 _)
              refine ⟨⟨b + 1, A', c', by omega, by go_num, rfl, RowIn.of_own ?_, hB2.trans hb3⟩, by simp [intOf]; omega⟩
              exact HSN.out ▸ hown3
            · have g1 : (T.toList == ([] : List UInt8)) = false := by
                have := str_ne (s := T) (by omega)
                cases hh : T.toList with
                | nil => rw [hh] at this; cases this
                | cons a t => rfl
              have H0 := Lib.hid h0
              clear h0
              go_wp2_with fail
              refine (short_spec T wr (by omega)).mono ?_
              rintro e w4 ⟨rfl, hb4⟩
              have hown2 := own_keep hrow2.own hb4
              have hB4 := bthen hB2 hb4
              have hz4 := hB4.size
              have hv := Lib.hid (show sumT T = shortS T by unfold sumT; rw [if_neg H0.out])
              go_wp2_with (at_builtin; refine wpList_app1g (P := Tryd.prog) w4 rfl (.tmp 40) (.tmp 43) 22 rfl w.heap.size 9 _ 1 16 Tryd.underlying22 infoString rfl (by omega) (.slice O b cap) _ _ rfl hown2 _ _ rfl (by simp) rfl (by simp [Value.oneCell']) (by unfold maxLen; omega) (by omega) hz4 ?_; intro A' c' w3 hown3 hg3 hb3 _)
              refine ⟨⟨b + 1, A', c', by omega, by go_num, rfl, RowIn.of_own ?_, hB4.trans hb3⟩, by simp [intOf]; omega⟩
              rw [← HSN.out, hv.out]
              exact hown3
      · have hb0 : b = 16 := by omega
        subst hb0
        go_wp2
        go_returns
        refine ⟨O, 16, cap, rfl, ?_, hb⟩
        rw [HR.out, HM.out]
        refine StrsIn.of_own ?_
        rw [List.map_map]
        exact hrow.own
end Go.Proofs.YtfbfomlgjghcmaaDoor
