/- Contracts and lemmas: KindA, NumA, Split, SameCmd. -/
import Derived.Test.YtdphdnllhmnelaaJ1
import Derived.Test.YtdphdnllhmnelaaJ2
import Derived.Test.YtdphdnllhmnelaaRows
import Derived.Test.YtdphdnllhmnelaaJ0
import Derived.WalkKit
import Derived.WalkLawsBesides
import Derived.WalkSpells
import Derived.Lib.Hide
import Derived.Handy
/- Rows that are owned: appending an element, changing an element. -/
namespace Go.Proofs.Ytdphdnllhmnelaa
open Go.RowKit
/-- the walk stands still here -/
def Stop (p : Prop) : Prop := p
theorem stop_of {p : Prop} (h : Stop p) : p := h
theorem IntO.mk' {w : World} {A : Option Addr} {n c : Nat} {l : List Int} (h : w.ownsRow 0 3 1 (.slice A n c) n (l.map (Value.int .i64))) : IntO (blkL A) w A n c l := ⟨rfl, h⟩
theorem IntO.own {fp : List Nat} {w : World} {A : Option Addr} {n c : Nat} {l : List Int} (h : IntO fp w A n c l) : fp = blkL A ∧ w.ownsRow 0 3 1 (.slice A n c) n (l.map (Value.int .i64)) := h
theorem IntR.at_r {w : World} {A : Option Addr} {n c : Nat} {l : List Int} (h : IntR w A n c l) : IntsAt w A n l := h.1
theorem StrO.mk' {w : World} {A : Option Addr} {n c : Nat} {l : List ByteArray} (h : w.ownsRow 0 9 1 (.slice A n c) n (l.map Value.string)) : StrO (blkL A) w A n c l := ⟨rfl, h⟩
theorem StrO.own {fp : List Nat} {w : World} {A : Option Addr} {n c : Nat} {l : List ByteArray} (h : StrO fp w A n c l) : fp = blkL A ∧ w.ownsRow 0 9 1 (.slice A n c) n (l.map Value.string) := h
section
variable {α : Type} {R : World → List Value → α → Prop} {F : List Nat → World → List Value → α → Prop} {e sz n c c' m : Nat} {w w' : World} {fps : List (List Nat)} {css : List (List Value)} {A A' : Option Addr} {l : List α} {cs : List Value} {f : List Nat} {x : α}
/-- one element more behind an append -/
theorem app_els (K : KindOk R F sz) (hE : Els F w css fps l) (hx : F f w cs x) (hN : (blkL A ++ (fps ++ [f]).flatten).Nodup) (hg : w.grownBy w' (Value.slice A n c).ownBlock)
    (hob : (Value.slice A' (n + 1) c').ownBlock = (Value.slice A n c).ownBlock ∨ (Value.slice A' (n + 1) c').ownBlock = some m) (hm : w.heap.size ≤ m) :
    Els F w' (css ++ [cs]) (fps ++ [f]) (l ++ [x]) ∧ (blkL A' ++ (fps ++ [f]).flatten).Nodup ∧ ∀ b ∈ blkL A', b ∈ blkL A ∨ b = m := by
  have hE2 := hE.app (Els.one hx)
  have hN2 := List.nodup_append.1 hN
  have hblk : ∀ b ∈ blkL A', b ∈ blkL A ∨ b = m := fun b hb => by
    have h1 := blk_own (n := n + 1) (c := c') (mem_blkL.1 hb)
    rcases hob with h2 | h2
    · exact .inl (mem_blkL.2 (blk_of (h2.symm.trans h1)))
    · exact .inr (Option.some.inj (h1.symm.trans h2))
  refine ⟨hE2.ch K (Ch.of_grow hg) (fun b hb e => hN2.2.2 b (mem_blkL.2 (blk_of e)) b hb rfl), ?_, hblk⟩
  refine List.nodup_append.2 ⟨by cases A' <;> simp [blkL], hN2.2.1, fun a ha b hb e => ?_⟩
  subst e
  rcases hblk a ha with h1 | h1
  · exact hN2.2.2 a h1 a hb rfl
  · have := hE2.lt K a hb; omega
/-- an element and what it leads to are changed -/
theorem upd_els {c1 c2 : List (List Value)} {f1 f2 : List (List Nat)} {l1 l2 : List α} {g : Nat} {cs' : List Value} {f' : List Nat} {x' : α} {w7 w8 : World} (K : KindOk R F sz)
    (ho : w.ownsRow 0 e sz (.slice (some ⟨g, 0, none⟩) n c) n (c1.flatten ++ (cs ++ c2.flatten))) (hE1 : Els F w c1 f1 l1) (hE2 : Els F w c2 f2 l2) (hcs : cs.length = sz) (hn : n = l1.length + 1 + l2.length)
    (hN : (g :: (f1.flatten ++ (f ++ f2.flatten))).Nodup) (hC : Ch (fun b => b ∈ f) w w7) (hx : F f' w7 cs' x') (hf' : ∀ b ∈ f', b ∈ f ∨ w.heap.size ≤ b) (hf'N : f'.Nodup) (hw8 : w8 = setsW w7 g (l1.length * sz) cs') :
    RowO F e sz (blkL (some ⟨g, 0, none⟩) ++ (f1 ++ f' :: f2).flatten) w8 (some ⟨g, 0, none⟩) n c (l1 ++ x' :: l2) ∧ (g :: (f1.flatten ++ (f' ++ f2.flatten))).Nodup ∧ Ch (fun b => b = g ∨ b ∈ f) w w8 := by
  have hgw : g < w.heap.size := (own_lo ho g (by simp [blkL])).2
  have lt1 := hE1.lt K
  have lt2 := hE2.lt K
  simp only [List.nodup_cons, List.nodup_append, List.mem_append, not_or] at hN
  have hgf : ¬ g ∈ f := by grind
  have d1 : ∀ b ∈ f1.flatten, ¬ b ∈ f := fun b h1 h2 => by grind
  have d2 : ∀ b ∈ f2.flatten, ¬ b ∈ f := fun b h1 h2 => by grind
  have e1 : ∀ b ∈ f1.flatten, ¬ b = g := fun b h1 h2 => by subst h2; grind
  have e2 : ∀ b ∈ f2.flatten, ¬ b = g := fun b h1 h2 => by subst h2; grind
  have e3 : ∀ b ∈ f', ¬ b = g := fun b h1 h2 => by
    subst h2
    rcases hf' b h1 with h | h
    · exact hgf h
    · omega
  have hC8 : Ch (fun b => b = g) w7 w8 := by rw [hw8]; exact ch_setsW _ _ _
  have o7 := own_ch ho hC (fun b hb h2 => hgf (by
    have : b = g := by simpa [Value.ownBlock, eq_comm] using hb
    rw [← this]; exact h2))
  have o8 := own_setsW cs' (l1.length * sz) w7 _ o7
  rw [setsL_at (hE1.flat K) (by rw [hcs, K.rlen (K.fr hx)]), ← hw8] at o8
  have E1 := (hE1.ch K hC d1).ch K hC8 e1
  have E2 := (hE2.ch K hC d2).ch K hC8 e2
  have X := K.fch hx hC8 e3
  refine ⟨RowO.intro (css := c1 ++ cs' :: c2) (by simpa using o8) (by simp; omega) (E1.app ⟨X, E2⟩), ?_, (hC.mono (fun b hb => .inr hb)).trans (hC8.mono (fun b hb => .inl hb))⟩
  simp only [List.nodup_cons, List.nodup_append, List.mem_append, not_or]
  refine ⟨⟨by grind, fun h => e3 g h rfl, by grind⟩, by grind, ⟨hf'N, by grind, fun a ha b hb hab => ?_⟩, fun a ha b hb hab => ?_⟩
  · subst hab
    rcases hf' a ha with h | h
    · exact d2 a hb h
    · have := lt2 a hb; omega
  · subst hab
    rcases hb with hb | hb
    · rcases hf' a hb with h | h
      · exact d1 a ha h
      · have := lt1 a ha; omega
    · grind
end
end Go.Proofs.Ytdphdnllhmnelaa
/- Contracts of small leaf functions: ranges and stamps. -/
namespace Go.Proofs.Ytdphdnllhmnelaa
open Go.RowKit

/-- x lies between lo and hi -/
def inB (x lo hi : Int) : Bool := decide (lo ≤ x) && decide (x ≤ hi)

theorem within_any (x lo hi : Int) (w : World) :
    Calls Try.prog 113 #[.int .i64 x, .int .i64 lo, .int .i64 hi] w fun e w' => e = .returned (.bool (inB x lo hi)) ∧ w = w' := by
  go_enter Try.func113, Try.ntmps113
  go_wp2
  all_goals go_ret
  all_goals exact ⟨ret_bool (beq_bool (by simp [inB]; try omega)), rfl⟩

theorem l1In_any (x lo hi : Int) (w : World) :
    Calls Try.prog 125 #[.int .i64 x, .int .i64 lo, .int .i64 hi] w fun e w' => e = .returned (.bool (inB x lo hi)) ∧ w = w' := by
  go_enter Try.func125, Try.ntmps125
  go_wp2
  all_goals go_ret
  all_goals exact ⟨ret_bool (beq_bool (by simp [inB]; try omega)), rfl⟩
theorem isRep_any (x : Int) (w : World) :
    Calls Try.prog 142 #[.int .i64 x] w fun e w' => e = .returned (.bool (inB x 0 2)) ∧ w = w' := by
  go_enter Try.func142, Try.ntmps142
  go_wp2
  all_goals go_ret
  all_goals exact ⟨ret_bool (beq_bool (by simp [inB]; try omega)), rfl⟩

theorem l9Node_any (x : Int) (w : World) :
    Calls Try.prog 135 #[.int .i64 x] w fun e w' => e = .returned (.bool (inB x 0 2)) ∧ w = w' := by
  go_enter Try.func135, Try.ntmps135
  go_wp2
  all_goals go_ret
  all_goals exact ⟨ret_bool (beq_bool (by simp [inB]; try omega)), rfl⟩

end Go.Proofs.Ytdphdnllhmnelaa
/- Contracts of split and of the reference's l30Cut; words; paths. -/
namespace Go.Proofs.Ytdphdnllhmnelaa
open Go.RowKit

/-- behind i bytes: where the part begins, and the parts before it -/
def splitTo (s : ByteArray) (c : Nat) : Nat → Nat × List ByteArray
  | 0 => (0, [])
  | i + 1 => if bAt s i = c then (i + 1, (splitTo s c i).2 ++ [s.extract (splitTo s c i).1 i]) else splitTo s c i
def splitS (s : ByteArray) (c : Nat) : List ByteArray := (splitTo s c s.size).2 ++ [s.extract (splitTo s c s.size).1 s.size]
theorem splitTo_le (s : ByteArray) (c i : Nat) : (splitTo s c i).1 ≤ i ∧ (splitTo s c i).2.length ≤ i := by
  induction i with
  | zero => simp [splitTo]
  | succ i ih =>
    rw [splitTo]
    split
    · simp; omega
    · omega
theorem splitS_len (s : ByteArray) (c : Nat) : 1 ≤ (splitS s c).length ∧ (splitS s c).length ≤ s.size + 1 := by
  have := splitTo_le s c s.size
  simp [splitS]; omega

/-- one to eight letters -/
def wordB (s : ByteArray) : Bool := inB s.size 1 8 && (List.range s.size).all (fun i => inB (bAt s i) 97 122)
theorem wordB_no {s : ByteArray} {k : Nat} (hk : k < s.size) (h : inB (bAt s k) 97 122 = false) : wordB s = false := by
  unfold wordB; rw [all_no hk h, Bool.and_false]
theorem wordB_all {s : ByteArray} (h : ∀ j, j < s.size → inB (bAt s j) 97 122 = true) : wordB s = inB s.size 1 8 := by
  unfold wordB; rw [all_yes h, Bool.and_true]
theorem inB_no {x lo hi : Int} (h : x < lo ∨ hi < x) : inB x lo hi = false := by simp [inB]; omega
theorem inB_yes {x lo hi : Int} (h1 : lo ≤ x) (h2 : x ≤ hi) : inB x lo hi = true := by simp [inB, h1, h2]

theorem isWord_impl (s : ByteArray) (w : World) (hs : s.size ≤ 9223372036854775807) :
    Calls Try.prog 182 #[.string s] w fun e w' => e = .returned (.bool (wordB s)) ∧ w = w' := by
  go_enter Try.func182, Try.ntmps182
  go_wp2
  go_loop [3] (fun i => ∃ k : Nat, k ≤ s.size ∧ i = .int .i64 k ∧ ∀ j, j < k → inB (bAt s j) 97 122 = true) (fun i => s.size - (intOf i).toNat)
  case atStart => exact ⟨0, Nat.zero_le _, rfl, fun j hj => absurd hj (by omega)⟩
  case round =>
    obtain ⟨k, hk, rfl, hall⟩ := hrel
    have HA := Lib.hid hall; clear hall
    by_cases hlt : k < s.size
    · have hbt := bAt_get hlt
      have hbl := bAt_lt s k
      by_cases h1 : bAt s k < 97
      · go_wp2
        go_returns
        exact ⟨ret_bool (wordB_no hlt (inB_no (by omega))).symm, rfl⟩
      · by_cases h2 : 122 < bAt s k
        · go_wp2
          go_returns
          exact ⟨ret_bool (wordB_no hlt (inB_no (by omega))).symm, rfl⟩
        · go_wp2
          exact ⟨⟨k + 1, by omega, by go_num, upto_succ HA.out (inB_yes (by omega) (by omega))⟩, by simp [intOf]; omega⟩
    · go_wp2_with (go_at_call 113; refine (within_any _ _ _ _).mono ?_; rintro e w' ⟨rfl, rfl⟩)
      go_returns
      exact ⟨ret_bool (by rw [wordB_all (fun j hj => HA.out j (by omega))]), rfl⟩

theorem l4Word_spec (s : ByteArray) (w : World) (hs : s.size ≤ 9223372036854775807) :
    Calls Try.prog 177 #[.string s] w fun e w' => e = .returned (.bool (wordB s)) ∧ w = w' := by
  by_cases h0 : inB s.size 1 8 = true
  · go_enter Try.func177, Try.ntmps177
    go_wp2_with (first | (go_at_call 125; refine (l1In_any _ _ _ _).mono ?_; rintro e w' ⟨rfl, rfl⟩))
    go_loop [3] (fun i => ∃ k : Nat, k ≤ s.size ∧ i = .int .i64 k ∧ ∀ j, j < k → inB (bAt s j) 97 122 = true) (fun i => s.size - (intOf i).toNat)
    case atStart => exact ⟨0, Nat.zero_le _, rfl, fun j hj => absurd hj (by omega)⟩
    case round =>
      obtain ⟨k, hk, rfl, hall⟩ := hrel
      have HA := Lib.hid hall; clear hall
      by_cases hlt : k < s.size
      · have hbt := bAt_get hlt
        have hbl := bAt_lt s k
        by_cases h1 : bAt s k < 97
        · go_wp2
          go_returns
          exact ⟨ret_bool (wordB_no hlt (inB_no (by omega))).symm, rfl⟩
        · by_cases h2 : 122 < bAt s k
          · go_wp2
            go_returns
            exact ⟨ret_bool (wordB_no hlt (inB_no (by omega))).symm, rfl⟩
          · go_wp2
            exact ⟨⟨k + 1, by omega, by go_num, upto_succ HA.out (inB_yes (by omega) (by omega))⟩, by simp [intOf]; omega⟩
      · go_wp2
        go_returns
        exact ⟨ret_bool (by rw [wordB_all (fun j hj => HA.out j (by omega)), h0]), rfl⟩
  · go_enter Try.func177, Try.ntmps177
    go_wp2_with (first | (go_at_call 125; refine (l1In_any _ _ _ _).mono ?_; rintro e w' ⟨rfl, rfl⟩))
    go_returns
    refine ⟨ret_bool ?_, rfl⟩
    unfold wordB; simp [h0]

def pathOkB (p : ByteArray) : Bool := (List.range (splitS p 47).length).all (fun i => wordB (sAt (splitS p 47) i)) && decide ((splitS p 47).length ≤ 3)
theorem pathOkB_no {p : ByteArray} {k : Nat} (hk : k < (splitS p 47).length) (h : wordB (sAt (splitS p 47) k) = false) : pathOkB p = false := by
  unfold pathOkB; rw [all_no hk h, Bool.false_and]
theorem pathOkB_all {p : ByteArray} (h : ∀ j, j < (splitS p 47).length → wordB (sAt (splitS p 47) j) = true) : pathOkB p = decide ((splitS p 47).length ≤ 3) := by
  unfold pathOkB; rw [all_yes h, Bool.true_and]
theorem sAt_splitS_size (s : ByteArray) (c k : Nat) : (sAt (splitS s c) k).size ≤ s.size := by
  have h : ∀ x ∈ splitS s c, x.size ≤ s.size := by
    have h2 : ∀ i, i ≤ s.size → ∀ x ∈ (splitTo s c i).2, x.size ≤ s.size := by
      intro i
      induction i with
      | zero => simp [splitTo]
      | succ i ih =>
        intro hi x hx
        rw [splitTo] at hx
        split at hx
        · rcases List.mem_append.1 hx with h | h
          · exact ih (by omega) x h
          · simp at h; subst h; simp [ByteArray.size_extract]; omega
        · exact ih (by omega) x hx
    intro x hx
    rcases List.mem_append.1 hx with h | h
    · exact h2 _ (Nat.le_refl _) x h
    · simp at h; subst h; simp [ByteArray.size_extract]
  rcases Nat.lt_or_ge k (splitS s c).length with hk | hk
  · rw [sAt_get hk]; exact h _ (List.getElem_mem hk)
  · simp [sAt, hk]

end Go.Proofs.Ytdphdnllhmnelaa
/- Contracts of SameCmd, CmdOk and Clash, of both sides. -/
namespace Go.Proofs.Ytdphdnllhmnelaa
open Go.RowKit
theorem strsLenA {w : World} {A : Option Addr} {n : Nat} {l : List ByteArray} (h : StrsAt w A n l) : n = l.length := h.1
attribute [local irreducible] StrsAt

/-! ### texts -/
def eqS (l l' : List ByteArray) : Bool := decide (l = l')
theorem eq_ext {l l' : List ByteArray} {n : Nat} (h : n = l.length) (h' : n = l'.length) (hj : ∀ j, j < n → sAt l j = sAt l' j) : l = l' := by
  apply List.ext_getElem (by omega)
  intro i h1 h2
  have := hj i (by omega)
  simpa [sAt, h1, h2] using this
theorem slicesEqual_strs (A : Option Addr) (n c : Nat) (A' : Option Addr) (n' c' : Nat) (l l' : List ByteArray) (w : World) (h : StrsAt w A n l) (h' : StrsAt w A' n' l') (hn : n ≤ 9223372036854775807) (hn' : n' ≤ 9223372036854775807) :
    Calls Try.prog 181 #[.slice A n c, .slice A' n' c'] w fun e w' => e = .returned (.bool (eqS l l')) ∧ Below w.heap.size w w' := by
  have HL := Lib.hid (strsLenA h)
  have HL' := Lib.hid (strsLenA h')
  by_cases hne : n = n'
  · subst hne
    go_enter Try.func181, Try.ntmps181
    go_wp2
    go_loopw [5, 13] (fun _ i wr => ∃ (k : Nat), k ≤ n ∧ i = .int .i64 k ∧ (∀ j, j < k → sAt l j = sAt l' j) ∧ Below w.heap.size w wr) (fun _ i _ => n - (intOf i).toNat)
    case atStart => exact ⟨0, Nat.zero_le _, rfl, fun j hj => absurd hj (by omega), Below.refl _ _⟩
    case round =>
      obtain ⟨k, hk, rfl, hj, hb⟩ := hrel
      have HJ := Lib.hid hj; clear hj
      by_cases hlt : k < n
      · obtain ⟨b, off, rfl, hbl, hc⟩ := h.at_ (by omega)
        have hck := (hb.cell (p := ⟨b, off + k, none⟩) hbl).trans (hc k hlt)
        clear hc
        obtain ⟨b', off', rfl, hbl', hc'⟩ := h'.at_ (by omega)
        have hck' := (hb.cell (p := ⟨b', off' + k, none⟩) hbl').trans (hc' k hlt)
        clear hc'
        by_cases hs : sAt l k = sAt l' k
        · have hd : ((sAt l k).toList == (sAt l' k).toList) = true := by rw [str_beq]; simpa using hs
          have HS := Lib.hid hs
          clear hs
          go_wp2
          go_quiet (fail)
          go_wp2
          refine ⟨⟨k + 1, by omega, by go_num, fun j hj => ?_, below_drewN hb _⟩, by simp [intOf]; omega⟩
          rcases Nat.lt_or_ge j k with h1 | h1
          · exact HJ.out j h1
          · have : j = k := by omega
            subst this; exact HS.out
        · have hd : ((sAt l k).toList == (sAt l' k).toList) = false := by rw [str_beq]; simpa using hs
          have HS := Lib.hid hs
          clear hs
          go_wp2
          go_quiet (fail)
          go_wp2
          go_returns
          exact ⟨ret_bool (by unfold eqS; symm; simp only [decide_eq_false_iff_not]; intro e; exact HS.out (by rw [e])), below_drewN hb _⟩
      · go_wp2
        go_returns
        exact ⟨ret_bool (by unfold eqS; symm; simp only [decide_eq_true_eq]; exact eq_ext HL.out HL'.out (fun j hj => HJ.out j (by omega))), hb⟩
  · have hni : ¬ ((n : Int) = (n' : Int)) := by omega
    have HE := Lib.hid (show l ≠ l' from fun e => hne (by rw [HL.out, HL'.out, e]))
    go_enter Try.func181, Try.ntmps181
    go_wp2
    go_returns
    exact ⟨ret_bool (by unfold eqS; simp [HE.out]), Below.refl _ _⟩
theorem l4Texts_spec (A : Option Addr) (n c : Nat) (A' : Option Addr) (n' c' : Nat) (l l' : List ByteArray) (w : World) (h : StrsAt w A n l) (h' : StrsAt w A' n' l') (hn : n ≤ 9223372036854775807) (hn' : n' ≤ 9223372036854775807) :
    Calls Try.prog 180 #[.slice A n c, .slice A' n' c'] w fun e w' => e = .returned (.bool (eqS l l')) ∧ Below w.heap.size w w' := by
  have HL := Lib.hid (strsLenA h)
  have HL' := Lib.hid (strsLenA h')
  by_cases hne : n = n'
  · subst hne
    go_enter Try.func180, Try.ntmps180
    go_wp2
    go_loopw [5] (fun i wr => ∃ (k : Nat), k ≤ n ∧ i = .int .i64 k ∧ (∀ j, j < k → sAt l j = sAt l' j) ∧ Below w.heap.size w wr) (fun i _ => n - (intOf i).toNat)
    case atStart => exact ⟨0, Nat.zero_le _, rfl, fun j hj => absurd hj (by omega), Below.refl _ _⟩
    case round =>
      obtain ⟨k, hk, rfl, hj, hb⟩ := hrel
      have HJ := Lib.hid hj; clear hj
      by_cases hlt : k < n
      · obtain ⟨b, off, rfl, hbl, hc⟩ := h.at_ (by omega)
        have hck := (hb.cell (p := ⟨b, off + k, none⟩) hbl).trans (hc k hlt)
        clear hc
        obtain ⟨b', off', rfl, hbl', hc'⟩ := h'.at_ (by omega)
        have hck' := (hb.cell (p := ⟨b', off' + k, none⟩) hbl').trans (hc' k hlt)
        clear hc'
        by_cases hs : sAt l k = sAt l' k
        · have hd : ((sAt l k).toList == (sAt l' k).toList) = true := by rw [str_beq]; simpa using hs
          have HS := Lib.hid hs
          clear hs
          go_wp2
          go_quiet (fail)
          go_wp2
          refine ⟨⟨k + 1, by omega, by go_num, fun j hj => ?_, below_drewN hb _⟩, by simp [intOf]; omega⟩
          rcases Nat.lt_or_ge j k with h1 | h1
          · exact HJ.out j h1
          · have : j = k := by omega
            subst this; exact HS.out
        · have hd : ((sAt l k).toList == (sAt l' k).toList) = false := by rw [str_beq]; simpa using hs
          have HS := Lib.hid hs
          clear hs
          go_wp2
          go_quiet (fail)
          go_wp2
          go_returns
          exact ⟨ret_bool (by unfold eqS; symm; simp only [decide_eq_false_iff_not]; intro e; exact HS.out (by rw [e])), below_drewN hb _⟩
      · go_wp2
        go_returns
        exact ⟨ret_bool (by unfold eqS; symm; simp only [decide_eq_true_eq]; exact eq_ext HL.out HL'.out (fun j hj => HJ.out j (by omega))), hb⟩
  · have hni : ¬ ((n : Int) = (n' : Int)) := by omega
    have HE := Lib.hid (show l ≠ l' from fun e => hne (by rw [HL.out, HL'.out, e]))
    go_enter Try.func180, Try.ntmps180
    go_wp2
    go_returns
    exact ⟨ret_bool (by unfold eqS; simp [HE.out]), Below.refl _ _⟩

def ok8 (l : List ByteArray) : Bool := (List.range l.length).all (fun i => decide ((sAt l i).size = 8))
theorem ok8_no {l : List ByteArray} {k : Nat} (hk : k < l.length) (h : ¬ (sAt l k).size = 8) : ok8 l = false := all_no hk (by simpa using h)
theorem ok8_yes {l : List ByteArray} (h : ∀ j, j < l.length → (sAt l j).size = 8) : ok8 l = true := all_yes (fun j hj => by simpa using h j hj)
theorem areChunks_ok (A : Option Addr) (n c : Nat) (l : List ByteArray) (w : World) (h : StrsAt w A n l) (hn : n ≤ 9223372036854775807) :
    Calls Try.prog 161 #[.slice A n c] w fun e w' => e = .returned (.bool (ok8 l)) ∧ w = w' := by
  have HL := Lib.hid (strsLenA h)
  go_enter Try.func161, Try.ntmps161
  go_wp2
  go_loop [7] (fun i => ∃ k : Nat, k ≤ n ∧ i = .int .i64 k ∧ ∀ j, j < k → (sAt l j).size = 8) (fun i => n - (intOf i).toNat)
  case atStart => exact ⟨0, Nat.zero_le _, rfl, fun j hj => absurd hj (by omega)⟩
  case round =>
    obtain ⟨k, hk, rfl, hx⟩ := hrel
    have HX := Lib.hid hx; clear hx
    by_cases hlt : k < n
    · obtain ⟨b, off, rfl, hbl, hc⟩ := h.at_ (by omega)
      have hck := hc k hlt
      clear hc
      by_cases h8 : (sAt l k).size = 8
      · have g1 : ((((sAt l k).size : Nat) : Int) != 8) = false := by simp [h8]
        have H8 := Lib.hid h8; clear h8
        go_wp2
        refine ⟨⟨k + 1, by omega, by go_num, ?_⟩, by simp [intOf]; omega⟩
        intro j hj
        by_cases e : j = k
        · subst e; exact H8.out
        · exact HX.out j (by omega)
      · have g1 : ((((sAt l k).size : Nat) : Int) != 8) = true := by simp; omega
        have H8 := Lib.hid h8; clear h8
        go_wp2
        go_returns
        exact ⟨ret_bool (ok8_no (by have := HL.out; omega) H8.out).symm, rfl⟩
    · go_wp2
      go_returns
      exact ⟨ret_bool (ok8_yes (fun j hj => HX.out j (by have := HL.out; omega))).symm, rfl⟩

/-! ### two commands -/
def sameB (x y : Cm) : Bool := decide (x.kd = y.kd) && decide (x.cl = y.cl) && decide (x.no = y.no) && decide (x.s = y.s) && decide (x.nm = y.nm) && decide (x.tg = y.tg) && decide (x.n = y.n) && eqS x.ch y.ch
theorem sbeq (a b : ByteArray) : (a.toList == b.toList) = decide (a = b) := str_beq a b

set_option maxRecDepth 8000 in
set_option maxHeartbeats 1000000 in
theorem sameCmd_impl (x y : Cm) (A1 : Option Addr) (n1 c1 : Nat) (A2 : Option Addr) (n2 c2 : Nat) (w : World) (h1 : StrR w A1 n1 c1 x.ch) (h2 : StrR w A2 n2 c2 y.ch) (hn1 : n1 ≤ 9223372036854775807) (hn2 : n2 ≤ 9223372036854775807) :
    Calls Try.prog 159 #[cmV x (.slice A1 n1 c1), cmV y (.slice A2 n2 c2)] w fun e w' => e = .returned (.bool (sameB x y)) ∧ Below w.heap.size w w' := by
  unfold cmV
  by_cases g0 : x.kd = y.kd
  · skip
    by_cases g1 : x.cl = y.cl
    · skip
      by_cases g2 : x.no = y.no
      · skip
        by_cases g3 : x.s = y.s
        · skip
          by_cases g4 : x.nm = y.nm
          · skip
            by_cases g5 : x.tg = y.tg
            · skip
              by_cases g6 : x.n = y.n
              · skip
                have HS := Lib.hid (show sameB x y = eqS x.ch y.ch by unfold sameB; simp [g0, g1, g2, g3, g4, g5, g6])
                have d0 : (x.kd == y.kd) = true := by simpa using g0
                clear g0
                have d1 : (x.cl == y.cl) = true := by simpa using g1
                clear g1
                have d2 : (x.no == y.no) = true := by simpa using g2
                clear g2
                have d3 : (x.s.toList == y.s.toList) = true := by rw [sbeq]; simpa using g3
                clear g3
                have d4 : (x.nm.toList == y.nm.toList) = true := by rw [sbeq]; simpa using g4
                clear g4
                have d5 : (x.tg.toList == y.tg.toList) = true := by rw [sbeq]; simpa using g5
                clear g5
                have d6 : (x.n == y.n) = true := by simpa using g6
                clear g6
                go_enter Try.func159, Try.ntmps159
                go_wp2_with fail
                refine (slicesEqual_strs _ _ _ _ _ _ x.ch y.ch _ (h1.1.keep (by go_grown)) (h2.1.keep (by go_grown)) hn1 hn2).mono ?_
                rintro e w1 ⟨rfl, hb1⟩
                go_wp2
                go_returns
                exact ⟨ret_bool (by rw [HS.out]), bthen (by go_grown) hb1⟩
              · have HS := Lib.hid (show sameB x y = false by unfold sameB; simp [g6])
                have d0 : (x.kd == y.kd) = true := by simpa using g0
                clear g0
                have d1 : (x.cl == y.cl) = true := by simpa using g1
                clear g1
                have d2 : (x.no == y.no) = true := by simpa using g2
                clear g2
                have d3 : (x.s.toList == y.s.toList) = true := by rw [sbeq]; simpa using g3
                clear g3
                have d4 : (x.nm.toList == y.nm.toList) = true := by rw [sbeq]; simpa using g4
                clear g4
                have d5 : (x.tg.toList == y.tg.toList) = true := by rw [sbeq]; simpa using g5
                clear g5
                have d6 : (x.n == y.n) = false := by simpa using g6
                clear g6
                go_enter Try.func159, Try.ntmps159
                go_wp2
                go_returns
                exact ⟨ret_bool (by rw [HS.out]), by go_grown⟩
            · have HS := Lib.hid (show sameB x y = false by unfold sameB; simp [g5])
              have d0 : (x.kd == y.kd) = true := by simpa using g0
              clear g0
              have d1 : (x.cl == y.cl) = true := by simpa using g1
              clear g1
              have d2 : (x.no == y.no) = true := by simpa using g2
              clear g2
              have d3 : (x.s.toList == y.s.toList) = true := by rw [sbeq]; simpa using g3
              clear g3
              have d4 : (x.nm.toList == y.nm.toList) = true := by rw [sbeq]; simpa using g4
              clear g4
              have d5 : (x.tg.toList == y.tg.toList) = false := by rw [sbeq]; simpa using g5
              clear g5
              go_enter Try.func159, Try.ntmps159
              go_wp2
              go_returns
              exact ⟨ret_bool (by rw [HS.out]), by go_grown⟩
          · have HS := Lib.hid (show sameB x y = false by unfold sameB; simp [g4])
            have d0 : (x.kd == y.kd) = true := by simpa using g0
            clear g0
            have d1 : (x.cl == y.cl) = true := by simpa using g1
            clear g1
            have d2 : (x.no == y.no) = true := by simpa using g2
            clear g2
            have d3 : (x.s.toList == y.s.toList) = true := by rw [sbeq]; simpa using g3
            clear g3
            have d4 : (x.nm.toList == y.nm.toList) = false := by rw [sbeq]; simpa using g4
            clear g4
            go_enter Try.func159, Try.ntmps159
            go_wp2
            go_returns
            exact ⟨ret_bool (by rw [HS.out]), by go_grown⟩
        · have HS := Lib.hid (show sameB x y = false by unfold sameB; simp [g3])
          have d0 : (x.kd == y.kd) = true := by simpa using g0
          clear g0
          have d1 : (x.cl == y.cl) = true := by simpa using g1
          clear g1
          have d2 : (x.no == y.no) = true := by simpa using g2
          clear g2
          have d3 : (x.s.toList == y.s.toList) = false := by rw [sbeq]; simpa using g3
          clear g3
          go_enter Try.func159, Try.ntmps159
          go_wp2
          go_returns
          exact ⟨ret_bool (by rw [HS.out]), by go_grown⟩
      · have HS := Lib.hid (show sameB x y = false by unfold sameB; simp [g2])
        have d0 : (x.kd == y.kd) = true := by simpa using g0
        clear g0
        have d1 : (x.cl == y.cl) = true := by simpa using g1
        clear g1
        have d2 : (x.no == y.no) = false := by simpa using g2
        clear g2
        go_enter Try.func159, Try.ntmps159
        go_wp2
        go_returns
        exact ⟨ret_bool (by rw [HS.out]), by go_grown⟩
    · have HS := Lib.hid (show sameB x y = false by unfold sameB; simp [g1])
      have d0 : (x.kd == y.kd) = true := by simpa using g0
      clear g0
      have d1 : (x.cl == y.cl) = false := by simpa using g1
      clear g1
      go_enter Try.func159, Try.ntmps159
      go_wp2
      go_returns
      exact ⟨ret_bool (by rw [HS.out]), by go_grown⟩
  · have HS := Lib.hid (show sameB x y = false by unfold sameB; simp [g0])
    have d0 : (x.kd == y.kd) = false := by simpa using g0
    clear g0
    go_enter Try.func159, Try.ntmps159
    go_wp2
    go_returns
    exact ⟨ret_bool (by rw [HS.out]), by go_grown⟩
set_option maxRecDepth 8000 in
set_option maxHeartbeats 1000000 in
theorem sameCmd_spec (x y : Cm) (A1 : Option Addr) (n1 c1 : Nat) (A2 : Option Addr) (n2 c2 : Nat) (w : World) (h1 : StrR w A1 n1 c1 x.ch) (h2 : StrR w A2 n2 c2 y.ch) (hn1 : n1 ≤ 9223372036854775807) (hn2 : n2 ≤ 9223372036854775807) :
    Calls Try.prog 157 #[cmV x (.slice A1 n1 c1), cmV y (.slice A2 n2 c2)] w fun e w' => e = .returned (.bool (sameB x y)) ∧ Below w.heap.size w w' := by
  unfold cmV
  by_cases g0 : x.kd = y.kd
  · skip
    by_cases g1 : x.cl = y.cl
    · skip
      by_cases g2 : x.no = y.no
      · skip
        by_cases g3 : x.s = y.s
        · skip
          by_cases g4 : x.nm = y.nm
          · skip
            by_cases g5 : x.tg = y.tg
            · skip
              by_cases g6 : x.n = y.n
              · skip
                have HS := Lib.hid (show sameB x y = eqS x.ch y.ch by unfold sameB; simp [g0, g1, g2, g3, g4, g5, g6])
                have d0 : (x.kd == y.kd) = true := by simpa using g0
                clear g0
                have d1 : (x.cl == y.cl) = true := by simpa using g1
                clear g1
                have d2 : (x.no == y.no) = true := by simpa using g2
                clear g2
                have d3 : (x.s.toList == y.s.toList) = true := by rw [sbeq]; simpa using g3
                clear g3
                have d4 : (x.nm.toList == y.nm.toList) = true := by rw [sbeq]; simpa using g4
                clear g4
                have d5 : (x.tg.toList == y.tg.toList) = true := by rw [sbeq]; simpa using g5
                clear g5
                have d6 : (x.n == y.n) = true := by simpa using g6
                clear g6
                go_enter Try.func157, Try.ntmps157
                go_wp2_with fail
                refine (l4Texts_spec _ _ _ _ _ _ x.ch y.ch _ (h1.1.keep (by go_grown)) (h2.1.keep (by go_grown)) hn1 hn2).mono ?_
                rintro e w1 ⟨rfl, hb1⟩
                go_wp2
                go_returns
                exact ⟨ret_bool (by rw [HS.out]), bthen (by go_grown) hb1⟩
              · have HS := Lib.hid (show sameB x y = false by unfold sameB; simp [g6])
                have d0 : (x.kd == y.kd) = true := by simpa using g0
                clear g0
                have d1 : (x.cl == y.cl) = true := by simpa using g1
                clear g1
                have d2 : (x.no == y.no) = true := by simpa using g2
                clear g2
                have d3 : (x.s.toList == y.s.toList) = true := by rw [sbeq]; simpa using g3
                clear g3
                have d4 : (x.nm.toList == y.nm.toList) = true := by rw [sbeq]; simpa using g4
                clear g4
                have d5 : (x.tg.toList == y.tg.toList) = true := by rw [sbeq]; simpa using g5
                clear g5
                have d6 : (x.n == y.n) = false := by simpa using g6
                clear g6
                go_enter Try.func157, Try.ntmps157
                go_wp2
                go_returns
                exact ⟨ret_bool (by rw [HS.out]), by go_grown⟩
            · have HS := Lib.hid (show sameB x y = false by unfold sameB; simp [g5])
              have d0 : (x.kd == y.kd) = true := by simpa using g0
              clear g0
              have d1 : (x.cl == y.cl) = true := by simpa using g1
              clear g1
              have d2 : (x.no == y.no) = true := by simpa using g2
              clear g2
              have d3 : (x.s.toList == y.s.toList) = true := by rw [sbeq]; simpa using g3
              clear g3
              have d4 : (x.nm.toList == y.nm.toList) = true := by rw [sbeq]; simpa using g4
              clear g4
              have d5 : (x.tg.toList == y.tg.toList) = false := by rw [sbeq]; simpa using g5
              clear g5
              go_enter Try.func157, Try.ntmps157
              go_wp2
              go_returns
              exact ⟨ret_bool (by rw [HS.out]), by go_grown⟩
          · have HS := Lib.hid (show sameB x y = false by unfold sameB; simp [g4])
            have d0 : (x.kd == y.kd) = true := by simpa using g0
            clear g0
            have d1 : (x.cl == y.cl) = true := by simpa using g1
            clear g1
            have d2 : (x.no == y.no) = true := by simpa using g2
            clear g2
            have d3 : (x.s.toList == y.s.toList) = true := by rw [sbeq]; simpa using g3
            clear g3
            have d4 : (x.nm.toList == y.nm.toList) = false := by rw [sbeq]; simpa using g4
            clear g4
            go_enter Try.func157, Try.ntmps157
            go_wp2
            go_returns
            exact ⟨ret_bool (by rw [HS.out]), by go_grown⟩
        · have HS := Lib.hid (show sameB x y = false by unfold sameB; simp [g3])
          have d0 : (x.kd == y.kd) = true := by simpa using g0
          clear g0
          have d1 : (x.cl == y.cl) = true := by simpa using g1
          clear g1
          have d2 : (x.no == y.no) = true := by simpa using g2
          clear g2
          have d3 : (x.s.toList == y.s.toList) = false := by rw [sbeq]; simpa using g3
          clear g3
          go_enter Try.func157, Try.ntmps157
          go_wp2
          go_returns
          exact ⟨ret_bool (by rw [HS.out]), by go_grown⟩
      · have HS := Lib.hid (show sameB x y = false by unfold sameB; simp [g2])
        have d0 : (x.kd == y.kd) = true := by simpa using g0
        clear g0
        have d1 : (x.cl == y.cl) = true := by simpa using g1
        clear g1
        have d2 : (x.no == y.no) = false := by simpa using g2
        clear g2
        go_enter Try.func157, Try.ntmps157
        go_wp2
        go_returns
        exact ⟨ret_bool (by rw [HS.out]), by go_grown⟩
    · have HS := Lib.hid (show sameB x y = false by unfold sameB; simp [g1])
      have d0 : (x.kd == y.kd) = true := by simpa using g0
      clear g0
      have d1 : (x.cl == y.cl) = false := by simpa using g1
      clear g1
      go_enter Try.func157, Try.ntmps157
      go_wp2
      go_returns
      exact ⟨ret_bool (by rw [HS.out]), by go_grown⟩
  · have HS := Lib.hid (show sameB x y = false by unfold sameB; simp [g0])
    have d0 : (x.kd == y.kd) = false := by simpa using g0
    clear g0
    go_enter Try.func157, Try.ntmps157
    go_wp2
    go_returns
    exact ⟨ret_bool (by rw [HS.out]), by go_grown⟩

def wifB (s : ByteArray) (b : Bool) : Bool := if b then wordB s else decide (s = ByteArray.empty)
theorem ebeq (s : ByteArray) : s.toList.isEmpty = decide (s = ByteArray.empty) := by
  have h0 : ByteArray.empty.toList = [] := by rw [Lib.toList_data]; rfl
  by_cases h : s = ByteArray.empty
  · rw [decide_eq_true h, h, h0]; rfl
  · rw [decide_eq_false h]
    cases hl : s.toList with
    | nil => exact absurd (by apply str_ext; rw [hl, h0]) h
    | cons a b => rfl

theorem wordIf_impl (s : ByteArray) (b : Bool) (w : World) (hs : s.size ≤ 9223372036854775807) :
    Calls Try.prog 160 #[.string s, .bool b] w fun e w' => e = .returned (.bool (wifB s b)) ∧ w = w' := by
  cases b
  · have HE := Lib.hid (ebeq s)
    go_enter Try.func160, Try.ntmps160
    go_wp2
    go_returns
    exact ⟨ret_bool (by rw [HE.out]; rfl), rfl⟩
  · go_enter Try.func160, Try.ntmps160
    go_wp2_with (go_at_call 182; refine (isWord_impl s _ hs).mono ?_; rintro e w1 ⟨rfl, rfl⟩)
    go_returns
    exact ⟨ret_bool (by unfold wifB; rfl), rfl⟩
theorem l4May_spec (s : ByteArray) (b : Bool) (w : World) (hs : s.size ≤ 9223372036854775807) :
    Calls Try.prog 158 #[.string s, .bool b] w fun e w' => e = .returned (.bool (wifB s b)) ∧ w = w' := by
  cases b
  · have HE := Lib.hid (ebeq s)
    go_enter Try.func158, Try.ntmps158
    go_wp2
    go_returns
    exact ⟨ret_bool (by rw [HE.out]; rfl), rfl⟩
  · go_enter Try.func158, Try.ntmps158
    go_wp2_with (go_at_call 177; refine (l4Word_spec s _ hs).mono ?_; rintro e w1 ⟨rfl, rfl⟩)
    go_returns
    exact ⟨ret_bool (by unfold wifB; rfl), rfl⟩

/-- a command as it must be -/
def cmOkB (x : Cm) : Bool := if x.kd = 0 then sameB x cmNil else
  inB x.kd 1 7 && inB x.cl 1 9 && inB x.no 1 1000 && wifB x.s (decide (x.kd ≠ 7)) && wifB x.nm (decide (x.kd = 3) || decide (x.kd = 4)) && wifB x.tg (decide (x.kd = 4)) && (decide (x.n = 0) || (decide (x.kd = 5) && inB x.n 0 9)) &&
  (if x.kd = 3 then inB (x.ch.length : Int) 1 4 && ok8 x.ch else decide (x.ch.length = 0))
theorem cmNil_R (w : World) : StrR w none 0 0 cmNil.ch := StrO.nil.at_
/-- a general contract, its answer told -/
theorem told {P : Program} {f : FuncId} {args : Array Value} {w : World} {x y : Bool} (hx : x = y) (h : Calls P f args w fun e w' => e = .returned (.bool x) ∧ w = w') : Calls P f args w fun e w' => e = .returned (.bool y) ∧ w = w' := by
  subst hx; exact h
attribute [local irreducible] wifB ok8 inB

end Go.Proofs.Ytdphdnllhmnelaa
