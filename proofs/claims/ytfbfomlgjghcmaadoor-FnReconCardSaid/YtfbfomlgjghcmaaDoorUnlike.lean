/- Contracts of Unlike, the program's and the reference's. -/
import Derived.Test.YtfbfomlgjghcmaaDoorBuckets
import Derived.Test.YtfbfomlgjghcmaaDoorIntList
namespace Go.Proofs.YtfbfomlgjghcmaaDoor
open Go.RowKit

/-- the places of the first k at which the two lists differ -/
def unlTo (x y : List ByteArray) : Nat → List Int
  | 0 => []
  | k + 1 => if sAt x k = sAt y k then unlTo x y k else unlTo x y k ++ [(k : Int)]
theorem unlTo_len (x y : List ByteArray) (k : Nat) : (unlTo x y k).length ≤ k := by
  induction k with
  | zero => simp [unlTo]
  | succ k ih => unfold unlTo; split <;> (try simp) <;> omega
def unlL (a b : List ByteArray) : List Int := unlTo (sumsL a) (sumsL b) (min (sumsL a).length (sumsL b).length)
theorem sumsL_len (l : List ByteArray) : (sumsL l).length = if setOkB l = true then 16 else 0 := by unfold sumsL; split <;> simp
theorem unlL_sz (a b : List ByteArray) : intsSz (unlL a b) ≤ 1048576 := by
  have h := unlTo_len (sumsL a) (sumsL b) (min (sumsL a).length (sumsL b).length)
  have h1 := sumsL_len a
  have h2 : (sumsL a).length ≤ 16 := by rw [h1]; split <;> omega
  unfold intsSz unlL
  omega
theorem sums_at (l : List ByteArray) (k : Nat) : (sAt (sumsL l) k).size ≤ 8 := by
  unfold sumsL
  split
  · by_cases hk : k < 16
    · simp only [sAt, List.getD_eq_getElem?_getD, List.getElem?_map, List.getElem?_range hk, Option.map_some, Option.getD_some]
      exact sumT_size _
    · simp [sAt, hk]
  · simp [sAt]

theorem strs_grow {lo hi n c p q : Nat} {w w' : World} {A O : Option Addr} {l : List ByteArray} (h : StrsIn lo hi w A n c l) (hg : w.grownBy w' (Value.slice O p q).ownBlock) (ho : ∀ g, BlkOf O g → g < lo ∨ hi ≤ g) : StrsIn lo hi w' A n c l :=
  h.ch (S := fun k => (Value.slice O p q).ownBlock = some k) ⟨hg.os, hg.tape, hg.output, hg.size, fun k hk hn => hg.block k hk (fun e => hn e.symm)⟩ (fun k hk hs => by have := ho k (blk_of hs); unfold Iv at hk; omega)
theorem blk_next {O O' : Option Addr} {p q p' q' m : Nat} (ho : (Value.slice O' p' q').ownBlock = (Value.slice O p q).ownBlock ∨ (Value.slice O' p' q').ownBlock = some m) {g : Nat} (hg : BlkOf O' g) : BlkOf O g ∨ g = m := by
  have e : (Value.slice O' p' q').ownBlock = some g := by
    rcases O' with _ | a
    · exact hg.no.elim
    · simpa [Value.ownBlock, BlkOf] using hg
  rcases ho with ho | ho
  · rw [e] at ho; exact .inl (blk_of ho.symm)
  · rw [e] at ho; injection ho with ho; exact .inr ho
/-- what the loops of Unlike hold in memory -/
structure UnlW (w : World) (s1 s2 s3 : Nat) (X Y O : Option Addr) (n1 c1 n2 c2 k cap : Nat) (x y : List ByteArray) (wr : World) : Prop where
  row : RowIn 3 1 w.heap.size wr.heap.size wr O (unlTo x y k).length cap ((unlTo x y k).map (Value.int .i64))
  off : ∀ g, BlkOf O g → g < s1 ∨ s3 ≤ g
  x : StrsIn s1 s2 wr X n1 c1 x
  y : StrsIn s2 s3 wr Y n2 c2 y
  below : Below w.heap.size w wr
  s12 : s1 ≤ s2
  s23 : s2 ≤ s3
  s3r : s3 ≤ wr.heap.size
section
variable {w wr w' : World} {s1 s2 s3 : Nat} {X Y O : Option Addr} {n1 c1 n2 c2 k cap : Nat} {x y : List ByteArray}
theorem UnlW.drewN (h : UnlW w s1 s2 s3 X Y O n1 c1 n2 c2 k cap x y wr) (q : Nat) : UnlW w s1 s2 s3 X Y O n1 c1 n2 c2 k cap x y (wr.drewN q) := by
  have hb : Below wr.heap.size wr (wr.drewN q) := below_drewN (Below.refl _ _) _
  exact ⟨h.row.keep hb, h.off, h.x.keep hb, h.y.keep hb, below_drewN h.below q, h.s12, h.s23, h.s3r⟩
theorem UnlW.same (h : UnlW w s1 s2 s3 X Y O n1 c1 n2 c2 k cap x y wr) (e : unlTo x y (k + 1) = unlTo x y k) : UnlW w s1 s2 s3 X Y O n1 c1 n2 c2 (k + 1) cap x y wr :=
  ⟨by rw [e]; exact h.row, h.off, h.x, h.y, h.below, h.s12, h.s23, h.s3r⟩
theorem UnlW.more (h : UnlW w s1 s2 s3 X Y O n1 c1 n2 c2 k cap x y wr) (e : unlTo x y (k + 1) = unlTo x y k ++ [(k : Int)]) {O' : Option Addr} {c' : Nat}
    (hown : w'.ownsRow w.heap.size 3 1 (.slice O' ((unlTo x y k).length + 1) c') ((unlTo x y k).length + 1) ((unlTo x y k).map (Value.int .i64) ++ [.int .i64 (k : Int)]))
    (hg : wr.grownBy w' (Value.slice O (unlTo x y k).length cap).ownBlock) (hb : Below w.heap.size wr w')
    (ho : (Value.slice O' ((unlTo x y k).length + 1) c').ownBlock = (Value.slice O (unlTo x y k).length cap).ownBlock ∨ (Value.slice O' ((unlTo x y k).length + 1) c').ownBlock = some (wr.heap.size + 1)) :
    UnlW w s1 s2 s3 X Y O' n1 c1 n2 c2 (k + 1) c' x y w' := by
  refine ⟨?_, fun g hg' => ?_, strs_grow h.x hg (fun g hg' => ?_), strs_grow h.y hg (fun g hg' => ?_), h.below.trans hb, h.s12, h.s23, Nat.le_trans h.s3r hb.size⟩
  · rw [e, List.length_append, List.map_append]
    exact RowIn.of_own hown
  · rcases blk_next ho hg' with h1 | h1
    · exact h.off g h1
    · have := h.s3r; omega
  · have := h.off g hg'; have := h.s23; omega
  · have := h.off g hg'; have := h.s12; omega
end

set_option maxRecDepth 8000 in
set_option maxHeartbeats 4000000 in
theorem unlike_spec (A : Option Addr) (n c : Nat) (a : List ByteArray) (B : Option Addr) (m d : Nat) (b : List ByteArray) (w : World) (h : StrsAt w A n a) (k : StrsAt w B m b) (ha : strsSz a ≤ 1048576) (hb : strsSz b ≤ 1048576) :
    Calls Tryd.prog 14 #[.slice A n c, .slice B m d] w (IntsR (unlL a b) w) := by
  go_enter Tryd.func14, Tryd.ntmps14
  go_wp2_with fail
  have hal : Below w.heap.size w (w.alloc (.cells #[] 3)) := (Below.refl _ _).alloc (Nat.le_refl _) _
  have hown0 := own_empty w 3 1 (Nat.le_refl w.heap.size)
  refine (bucketSums_spec _ _ _ _ _ (h.keep hal) ha).mono ?_
  rintro e w1 ⟨X, n1, c1, rfl, hX, hb1⟩
  have hB1 := bthen hal hb1
  have hown1 := own_keep hown0 hb1
  clear hown0 hal
  go_wp2_with fail
  refine (bucketSums_spec _ _ _ _ _ (k.keep hB1) hb).mono ?_
  rintro e w2 ⟨Y, n2, c2, rfl, hY, hb2⟩
  have hB2 := bthen hB1 hb2
  have hz1 := hb1.size
  have hz2 := hb2.size
  simp only [World.size_alloc] at hz1
  have HW : UnlW w (w.heap.size + 1) w1.heap.size w2.heap.size X Y (some ⟨w.heap.size, 0, none⟩) n1 c1 n2 c2 0 0 (sumsL a) (sumsL b) w2 :=
    ⟨((RowIn.of_own hown1).keep hb2).wide (Nat.le_refl _) hz2, fun g hg => .inl (by have := hg.eq; omega), (hX.keep hb2).wide (by simp) (Nat.le_refl _), hY, hB2, by omega, hz2, Nat.le_refl _⟩
  clear hX hY hown1 hB1
  have HU := Lib.hid (show unlL a b = unlTo (sumsL a) (sumsL b) (min (sumsL a).length (sumsL b).length) from rfl)
  have hn1 := HW.x.at_.1
  have hn2 := HW.y.at_.1
  have hl1 := sumsL_len a
  have hl2 := sumsL_len b
  have hn1b : n1 ≤ 16 := by rw [hn1, hl1]; split <;> omega
  have hn2b : n2 ≤ 16 := by rw [hn2, hl2]; split <;> omega
  generalize sumsL a = x at *
  generalize sumsL b = y at *
  have HN1 := Lib.hid hn1; have HN2 := Lib.hid hn2
  clear hn1 hn2 hl1 hl2 hB2 hb1 hb2
  generalize w1.heap.size = s2 at *
  generalize w2.heap.size = s3 at *
  generalize w.heap.size + 1 = s1 at *
  go_wp2
  go_loopw [8, 5] (fun i o wr => ∃ (k : Nat) (O : Option Addr) (cap : Nat), k ≤ n1 ∧ k ≤ n2 ∧ i = .int .i64 k ∧ o = .slice O (unlTo x y k).length cap ∧ UnlW w s1 s2 s3 X Y O n1 c1 n2 c2 k cap x y wr) (fun i _ _ => n1 - (intOf i).toNat)
  case atStart => exact ⟨0, _, 0, Nat.zero_le _, Nat.zero_le _, rfl, rfl, HW⟩
  case round =>
    clear HW
    obtain ⟨k, O, cap, hk1, hk2, rfl, rfl, HW⟩ := hrel
    have HL := Lib.hid (unlTo_len x y k)
    by_cases hlt1 : k < n1
    · have hi1 : (k : Int) < n1 := by omega
      by_cases hlt2 : k < n2
      · have hi2 : (k : Int) < n2 := by omega
        obtain ⟨bx, ox, rfl, _, hcx⟩ := HW.x.at_.at_ (by omega)
        obtain ⟨by', oy, rfl, _, hcy⟩ := HW.y.at_.at_ (by omega)
        have ex := hcx k hlt1
        have ey := hcy k hlt2
        clear hcx hcy
        have hown := HW.row.own
        have hzr := HW.below.size
        by_cases he : sAt x k = sAt y k
        · have HE := Lib.hid (show unlTo x y (k + 1) = unlTo x y k by simp [unlTo, he])
          rw [← he] at ey
          clear he hown
          generalize sAt x k = t at *
          go_wp2
          go_quiet (fail)
          go_wp2
          exact ⟨⟨k + 1, O, cap, by omega, by omega, by go_num, by rw [HE.out], (HW.drewN _).same HE.out⟩, by simp [intOf]; omega⟩
        · have HE := Lib.hid (show unlTo x y (k + 1) = unlTo x y k ++ [(k : Int)] by simp [unlTo, he])
          have g1 : ((sAt x k).toList == (sAt y k).toList) = false := by rw [str_beq]; simpa using he
          clear he
          have hl := HL.out
          go_wp2
          go_quiet (fail)
          have HW1 := HW.drewN nq
          have hown1 := HW1.row.own
          have hzr1 := HW1.below.size
          clear hown hzr
          go_wp2_with (at_builtin; refine wpList_app1g (P := Tryd.prog) _ rfl (.tmp 35) (.tmp 37) 27 rfl w.heap.size 3 _ 1 8 Tryd.underlying27 infoInt rfl (by omega) (.slice O (unlTo x y k).length cap) _ _ rfl hown1 _ _ rfl (by simp) rfl (by simp [Value.oneCell']) (by unfold maxLen; omega) (by omega) hzr1 ?_; intro O' c' w4 hown4 hg4 hb4 ho4)
          refine ⟨⟨k + 1, O', c', by omega, by omega, by go_num, by rw [HE.out, List.length_append]; rfl, HW1.more HE.out hown4 hg4 hb4 ho4⟩, by simp [intOf]; omega⟩
      · have hk0 : k = n2 := by omega
        have hi2 : ¬ ((k : Int) < n2) := by omega
        have hfin : unlL a b = unlTo x y k := by rw [HU.out, ← HN1.out, ← HN2.out, show min n1 n2 = k by omega]
        rw [← hk0] at HW ⊢
        have HF := Lib.hid hfin
        clear hk0 hfin
        go_wp2
        go_returns
        exact ⟨O, _, cap, rfl, by rw [HF.out]; exact IntsIn.of_own HW.row.own, HW.below⟩
    · have hi1 : ¬ ((k : Int) < n1) := by omega
      have hk0 : k = n1 := by omega
      have hfin : unlL a b = unlTo x y k := by rw [HU.out, ← HN1.out, ← HN2.out, show min n1 n2 = k by omega]
      have HF := Lib.hid hfin
      clear hk0 hfin
      go_wp2
      go_returns
      exact ⟨O, _, cap, rfl, by rw [HF.out]; exact IntsIn.of_own HW.row.own, HW.below⟩

set_option maxRecDepth 8000 in
set_option maxHeartbeats 4000000 in
theorem unlike_impl (A : Option Addr) (n c : Nat) (a : List ByteArray) (B : Option Addr) (m d : Nat) (b : List ByteArray) (w : World) (h : StrsAt w A n a) (k : StrsAt w B m b) (ha : strsSz a ≤ 1048576) (hb : strsSz b ≤ 1048576) (hk : KeysAt w) :
    Calls Tryd.prog 15 #[.slice A n c, .slice B m d] w (IntsR (unlL a b) w) := by
  have hnn := strs_n h ha
  have hmm := strs_n k hb
  obtain ⟨q1, hq1⟩ : ∃ q, setOkB a = q := ⟨_, rfl⟩
  obtain ⟨q2, hq2⟩ : ∃ q, setOkB b = q := ⟨_, rfl⟩
  have Q1 := Lib.hid hq1; have Q2 := Lib.hid hq2
  have hl1 := sumsL_len a
  have hl2 := sumsL_len b
  rw [hq1] at hl1
  rw [hq2] at hl2
  clear hq1 hq2
  cases q1
  · have HR := Lib.hid (show unlL a b = [] by unfold unlL; rw [show (sumsL a).length = 0 by simpa using hl1]; simp [unlTo])
    clear hl1 hl2
    rw [HR.out]
    go_enter Tryd.func15, Tryd.ntmps15
    go_wp2_with fail
    refine (setOk_impl _ _ _ _ _ h (by omega)).mono ?_
    rintro e w' ⟨rfl, rfl⟩; rw [Q1.out]
    go_wp2
    go_returns
    exact ⟨none, 0, 0, rfl, IntsIn.nil, Below.refl _ _⟩
  · cases q2
    · have HR := Lib.hid (show unlL a b = [] by unfold unlL; rw [show (sumsL b).length = 0 by simpa using hl2]; simp [unlTo])
      clear hl1 hl2
      rw [HR.out]
      go_enter Tryd.func15, Tryd.ntmps15
      go_wp2_with fail
      refine (setOk_impl _ _ _ _ _ h (by omega)).mono ?_
      rintro e w' ⟨rfl, rfl⟩; rw [Q1.out]
      go_wp2_with fail
      refine (setOk_impl _ _ _ _ _ k (by omega)).mono ?_
      rintro e w' ⟨rfl, rfl⟩; rw [Q2.out]
      go_wp2
      go_returns
      exact ⟨none, 0, 0, rfl, IntsIn.nil, Below.refl _ _⟩
    · simp only [if_true] at hl1 hl2
      have HU := Lib.hid (show unlL a b = unlTo (sumsL a) (sumsL b) 16 by unfold unlL; rw [hl1, hl2]; rfl)
      go_enter Tryd.func15, Tryd.ntmps15
      go_wp2_with fail
      refine (setOk_impl _ _ _ _ _ h (by omega)).mono ?_
      rintro e w' ⟨rfl, rfl⟩; rw [Q1.out]
      go_wp2_with fail
      refine (setOk_impl _ _ _ _ _ k (by omega)).mono ?_
      rintro e w' ⟨rfl, rfl⟩; rw [Q2.out]
      go_wp2_with fail
      refine (bucketSums_impl _ _ _ _ _ h ha hk).mono ?_
      rintro e w1 ⟨X, n1, c1, rfl, hX, hb1⟩
      go_wp2_with fail
      refine (bucketSums_impl _ _ _ _ _ (k.keep hb1) hb (hk.keep hb1)).mono ?_
      rintro e w2 ⟨Y, n2, c2, rfl, hY, hb2⟩
      have hB2 := bthen hb1 hb2
      have hz1 := hb1.size
      have hz2 := hb2.size
      have hal : Below w2.heap.size w2 (w2.alloc (.cells #[] 3)) := (Below.refl _ _).alloc (Nat.le_refl _) _
      have hown1 := own_empty w2 3 1 (base := w.heap.size) (by omega)
      have HW : UnlW w w.heap.size w1.heap.size w2.heap.size X Y (some ⟨w2.heap.size, 0, none⟩) n1 c1 n2 c2 0 0 (sumsL a) (sumsL b) (w2.alloc (.cells #[] 3)) :=
        ⟨RowIn.of_own hown1, fun g hg => .inr (by have := hg.eq; omega), (hX.keep hb2).keep hal, hY.keep hal, bthen hB2 hal, hz1, hz2, by simp⟩
      have hn1 := HW.x.at_.1
      have hn2 := HW.y.at_.1
      rw [hl1] at hn1
      rw [hl2] at hn2
      subst hn1 hn2
      clear hX hY hown1 hB2 hb1 hb2 hl1 hl2 hal
      generalize sumsL a = x at *
      generalize sumsL b = y at *
      go_wp2
      generalize w1.heap.size = s2 at *
      go_loopw [22, 7] (fun i o wr => ∃ (k : Nat) (O : Option Addr) (cap : Nat), k ≤ 16 ∧ i = .int .i64 k ∧ o = .slice O (unlTo x y k).length cap ∧ UnlW w w.heap.size s2 w2.heap.size X Y O 16 c1 16 c2 k cap x y wr) (fun i _ _ => 16 - (intOf i).toNat)
      case atStart => exact ⟨0, _, 0, Nat.zero_le _, rfl, rfl, HW⟩
      case round =>
        clear HW
        obtain ⟨k, O, cap, hk1, rfl, rfl, HW⟩ := hrel
        have HL := Lib.hid (unlTo_len x y k)
        by_cases hlt : k < 16
        · have hi1 : (k : Int) < 16 := by omega
          obtain ⟨bx, ox, rfl, _, hcx⟩ := HW.x.at_.at_ (by omega)
          obtain ⟨by', oy, rfl, _, hcy⟩ := HW.y.at_.at_ (by omega)
          have ex := hcx k hlt
          have ey := hcy k hlt
          clear hcx hcy
          by_cases he : sAt x k = sAt y k
          · have HE := Lib.hid (show unlTo x y (k + 1) = unlTo x y k by simp [unlTo, he])
            rw [← he] at ey
            clear he
            generalize sAt x k = t at *
            go_wp2
            go_quiet (fail)
            go_wp2
            exact ⟨⟨k + 1, O, cap, by omega, by go_num, by rw [HE.out], (HW.drewN _).same HE.out⟩, by simp [intOf]; omega⟩
          · have HE := Lib.hid (show unlTo x y (k + 1) = unlTo x y k ++ [(k : Int)] by simp [unlTo, he])
            have g1 : ((sAt x k).toList == (sAt y k).toList) = false := by rw [str_beq]; simpa using he
            clear he
            have hl := HL.out
            go_wp2
            go_quiet (fail)
            have HW1 := HW.drewN nq
            have hown1 := HW1.row.own
            have hzr1 := HW1.below.size
            go_wp2_with (at_builtin; refine wpList_app1g (P := Tryd.prog) _ rfl (.tmp 34) (.tmp 36) 27 rfl w.heap.size 3 _ 1 8 Tryd.underlying27 infoInt rfl (by omega) (.slice O (unlTo x y k).length cap) _ _ rfl hown1 _ _ rfl (by simp) rfl (by simp [Value.oneCell']) (by unfold maxLen; omega) (by omega) hzr1 ?_; intro O' c' w4 hown4 hg4 hb4 ho4)
            refine ⟨⟨k + 1, O', c', by omega, by go_num, by rw [HE.out, List.length_append]; rfl, HW1.more HE.out hown4 hg4 hb4 ho4⟩, by simp [intOf]; omega⟩
        · have hk0 : k = 16 := by omega
          subst hk0
          go_wp2
          go_returns
          exact ⟨O, _, cap, rfl, by rw [HU.out]; exact IntsIn.of_own HW.row.own, HW.below⟩
end Go.Proofs.YtfbfomlgjghcmaaDoor
