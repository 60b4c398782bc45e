/- Contracts of Joined, sized, l4Piece, TreeText. -/
import Derived.Test.YtbijkdpifnncmaaTreeOkS
import Derived.Test.YtbijkdpifnncmaaVar
namespace Go.Proofs.Ytbijkdpifnncmaa
open Go.RowKit
attribute [local go_sem] Grow.cell Grow.frozen

def joinTo (l : List ByteArray) : Nat → ByteArray
  | 0 => ByteArray.empty
  | k + 1 => joinTo l k ++ sAt l k
def joinS (l : List ByteArray) : ByteArray := joinTo l l.length
theorem joinTo_size (l : List ByteArray) : ∀ k, k ≤ l.length → (joinTo l k).size ≤ sumTo ByteArray.size l k
  | 0, _ => by simp [joinTo]
  | k + 1, h => by
    have ih := joinTo_size l k (by omega)
    have h1 := sumTo_succ ByteArray.size l k h
    have h2 : sAt l k = l[k] := by simp [sAt, show k < l.length from h]
    unfold joinTo
    rw [ByteArray.size_append, h2]
    omega
theorem joinTo_le {l : List ByteArray} {k m : Nat} (hk : k ≤ l.length) (hs : strsSz l ≤ m) : (joinTo l k).size ≤ m := by
  have := joinTo_size l k hk
  have := sumTo_le ByteArray.size l k
  unfold strsSz at hs; omega
theorem strs_el {l : List ByteArray} {m : Nat} (hs : strsSz l ≤ m) (i : Nat) : (sAt l i).size ≤ m := by
  rcases Nat.lt_or_ge i l.length with h | h
  · have e : sAt l i = l[i] := by simp [sAt, h]
    rw [e]
    have h1 := sumTo_succ ByteArray.size l i h
    have h2 := sumTo_le ByteArray.size l (i + 1)
    unfold strsSz at hs; omega
  · simp [sAt, h]
theorem varL_len (n : Nat) : (varL n).length ≤ n + 1 := by
  induction n using Nat.strongRecOn with
  | _ n ih =>
    by_cases h : n < 128
    · rw [varL_small h]; simp
    · rw [varL_big h]
      have := ih (n / 128) (by omega)
      simp; omega
theorem varS_size (n : Nat) : (varS n).size ≤ n + 1 := varL_len n

theorem joined_impl (A : Option Addr) (n c : Nat) (l : List ByteArray) (w : World) (h : StrsAt w A n l) (hs : strsSz l ≤ 1048704) :
    Calls Try.prog 30 #[.slice A n c] w fun e w' => e = .returned (.string (joinS l)) ∧ w = w' := by
  have HL := Lib.hid h.1
  have hn := strs_n h hs
  go_enter Try.func30, Try.ntmps30
  go_wp2
  go_loop [3, 8] (fun o i => ∃ k : Nat, k ≤ n ∧ i = .int .i64 k ∧ o = .string (joinTo l k)) (fun _ i => n - (intOf i).toNat)
  case atStart => exact ⟨0, Nat.zero_le _, rfl, rfl⟩
  case round =>
    obtain ⟨k, hk, rfl, rfl⟩ := hrel
    have HS := Lib.hid (show joinTo l (k + 1) = joinTo l k ++ sAt l k from rfl)
    have hz1 := joinTo_le (k := k) (by have := HL.out; omega) hs
    have hz2 := strs_el hs k
    by_cases hlt : k < n
    · obtain ⟨b, off, rfl, hbl, hc⟩ := h.2 (by omega)
      have hck := hc k hlt
      clear hc
      go_wp2
      exact ⟨⟨k + 1, by omega, by go_num, by rw [HS.out]⟩, by simp [intOf]; omega⟩
    · have : k = n := by omega
      subst this
      go_wp2
      go_returns
      exact ⟨by unfold joinS; rw [← HL.out]; rfl, rfl⟩

theorem joined_spec (A : Option Addr) (n c : Nat) (l : List ByteArray) (w : World) (h : StrsAt w A n l) (hs : strsSz l ≤ 1048704) :
    Calls Try.prog 40 #[.slice A n c] w fun e w' => e = .returned (.string (joinS l)) ∧ w = w' := by
  have HL := Lib.hid h.1
  have hn := strs_n h hs
  go_enter Try.func40, Try.ntmps40
  go_wp2
  go_loop [3, 4] (fun o i => ∃ k : Nat, k ≤ n ∧ i = .int .i64 k ∧ o = .string (joinTo l k)) (fun _ i => n - (intOf i).toNat)
  case atStart => exact ⟨0, Nat.zero_le _, rfl, rfl⟩
  case round =>
    obtain ⟨k, hk, rfl, rfl⟩ := hrel
    have HS := Lib.hid (show joinTo l (k + 1) = joinTo l k ++ sAt l k from rfl)
    have hz1 := joinTo_le (k := k) (by have := HL.out; omega) hs
    have hz2 := strs_el hs k
    by_cases hlt : k < n
    · obtain ⟨b, off, rfl, hbl, hc⟩ := h.2 (by omega)
      have hck := hc k hlt
      clear hc
      go_wp2
      exact ⟨⟨k + 1, by omega, by go_num, by rw [HS.out]⟩, by simp [intOf]; omega⟩
    · have : k = n := by omega
      subst this
      go_wp2
      go_returns
      exact ⟨by unfold joinS; rw [← HL.out]; rfl, rfl⟩

theorem sized_impl (s : ByteArray) (w : World) (hs : s.size ≤ 16777216) :
    Calls Try.prog 28 #[.string s] w fun e w' => e = .returned (.string (varS s.size ++ s)) ∧ Below w.heap.size w w' := by
  have hv := varS_size s.size
  go_enter Try.func28, Try.ntmps28
  go_wp2_with fail
  refine (var_impl _ _ (by omega)).mono ?_
  rintro e w1 ⟨rfl, hb⟩
  go_wp2
  go_returns
  exact ⟨rfl, hb⟩
theorem l4Piece_spec (s : ByteArray) (w : World) (hs : s.size ≤ 16777216) :
    Calls Try.prog 38 #[.string s] w fun e w' => e = .returned (.string (varS s.size ++ s)) ∧ Below w.heap.size w w' := by
  have hv := varS_size s.size
  go_enter Try.func38, Try.ntmps38
  go_wp2_with fail
  refine (var_spec _ _ (by omega)).mono ?_
  rintro e w1 ⟨rfl, hb⟩
  go_wp2
  go_returns
  exact ⟨rfl, hb⟩

attribute [local irreducible] StrsAt varS

def textTo (l : List Ent) : Nat → ByteArray
  | 0 => ByteArray.empty
  | k + 1 => textTo l k ++ (varS (enAt l k).p.size ++ (enAt l k).p) ++ varS (enAt l k).ch.length ++ joinS (enAt l k).ch
theorem textTo_size {l : List Ent} (hel : ∀ i, entSz (enAt l i) ≤ 1048704) : ∀ k, (textTo l k).size ≤ k * 4194820
  | 0 => by simp [textTo]
  | k + 1 => by
    have ih := textTo_size hel k
    have he := hel k
    have h1 := varS_size (enAt l k).p.size
    have h2 := varS_size (enAt l k).ch.length
    have h3 : (joinS (enAt l k).ch).size ≤ 1048704 := joinTo_le (Nat.le_refl _) (by unfold entSz at he; omega)
    have h4 : (enAt l k).ch.length ≤ 1048704 := by unfold entSz strsSz at he; omega
    unfold entSz at he
    unfold textTo
    simp only [ByteArray.size_append]
    omega
def treeText (l : List Ent) : ByteArray := if treeOkB l = true then textTo l l.length else ByteArray.empty

theorem treeText_impl2 (A : Option Addr) (n c : Nat) (l : List Ent) (w : World) (h : EntsAt w A n l) (hs : entsSz l ≤ 1048704) :
    Calls Try.prog 7 #[.slice A n c] w fun e w' => e = .returned (.string (treeText l)) ∧ Below w.heap.size w w' := by
  have HL := Lib.hid h.1
  have hn := ents_n h hs
  have hel := ents_el hs
  obtain ⟨q, hq⟩ : ∃ q, treeOkB l = q := ⟨_, rfl⟩
  have HQ := Lib.hid hq
  cases q
  · have HT := Lib.hid (show treeText l = ByteArray.empty by simp [treeText, hq])
    rw [HT.out]
    clear hq
    go_enter Try.func7, Try.ntmps7
    go_wp2_with fail
    refine (treeOk_impl2 _ _ _ _ _ h hs).mono ?_
    rintro e w1 ⟨rfl, hb1⟩
    rw [HQ.out]
    go_wp2
    go_returns
    exact ⟨rfl, hb1⟩
  · have HT := Lib.hid (show treeText l = textTo l l.length by simp [treeText, hq])
    rw [HT.out]
    clear hq
    go_enter Try.func7, Try.ntmps7
    go_wp2_with fail
    refine (treeOk_impl2 _ _ _ _ _ h hs).mono ?_
    rintro e w1 ⟨rfl, hb1⟩
    rw [HQ.out]
    go_wp2
    go_loopw [3, 11] (fun o i wr => ∃ k : Nat, k ≤ n ∧ i = .int .i64 k ∧ o = .string (textTo l k) ∧ Below w.heap.size w wr) (fun _ i _ => n - (intOf i).toNat)
    case atStart => exact ⟨0, Nat.zero_le _, rfl, rfl, hb1⟩
    case round =>
      obtain ⟨k, hk, rfl, rfl, hb⟩ := hrel
      have HS := Lib.hid (show textTo l (k + 1) = textTo l k ++ (varS (enAt l k).p.size ++ (enAt l k).p) ++ varS (enAt l k).ch.length ++ joinS (enAt l k).ch from rfl)
      by_cases hlt : k < n
      · obtain ⟨b, off, rfl, hbl, hc⟩ := h.at_ (by omega)
        obtain ⟨hp0, A', n', c', hc0, hat, _⟩ := hc k hlt
        have hpk := (hb.cell (p := ⟨b, off + k * 2, none⟩) hbl).trans hp0
        have hck := (hb.cell (p := ⟨b, off + k * 2 + 1, none⟩) hbl).trans hc0
        clear hc hc0 hp0
        have hek := hel k
        unfold entSz at hek
        have hzt := textTo_size hel k
        have hzp := varS_size (enAt l k).p.size
        have hzc := varS_size n'
        have hzj : (joinS (enAt l k).ch).size ≤ 1048704 := joinTo_le (Nat.le_refl _) (by omega)
        have al := (Below.refl wr.heap.size wr).alloc (Nat.le_refl _) (.cells #[.string (enAt l k).p, .slice A' n' c'] 33)
        have hatl := hat.keep (bthen hb al)
        have hBl := bthen hb al
        have HN := Lib.hid hat.nn
        have hn4 : n' ≤ 1048704 := by have := HN.out; unfold strsSz at hek; omega
        have hbr1 : wr.heap.size < wr.heap.size + 1 := by omega
        go_wp2
        refine wp_region_grow (by kernel_rfl) (by kernel_rfl) ?_
        repeat (go_big_quiet_step (first | (go_at_call 28; exact grow_of (sized_impl _ _ (by omega))) | (go_at_call 29; exact grow_of (var_impl _ _ (by omega))) | (go_at_call 30; exact grow_same (joined_impl _ _ _ _ _ (hatl.keep (Grow.below _)) (by omega)))))
        refine wpQuiet_nil ?_
        intro _ hw'
        obtain ⟨⟨w2, hb2⟩, hw''⟩ := hw'
        change _ = w2 at hw''
        subst hw''
        go_wp2
        exact ⟨⟨k + 1, by omega, by go_num, by rw [HS.out, HN.out], bthen hBl hb2⟩, by simp [intOf]; omega⟩
      · go_wp2
        go_returns
        have : k = l.length := by have := HL.out; omega
        subst this
        exact ⟨rfl, hb⟩

theorem treeText_spec2 (A : Option Addr) (n c : Nat) (l : List Ent) (w : World) (h : EntsAt w A n l) (hs : entsSz l ≤ 1048704) :
    Calls Try.prog 11 #[.slice A n c] w fun e w' => e = .returned (.string (treeText l)) ∧ Below w.heap.size w w' := by
  have HL := Lib.hid h.1
  have hn := ents_n h hs
  have hel := ents_el hs
  obtain ⟨q, hq⟩ : ∃ q, treeOkB l = q := ⟨_, rfl⟩
  have HQ := Lib.hid hq
  cases q
  · have HT := Lib.hid (show treeText l = ByteArray.empty by simp [treeText, hq])
    rw [HT.out]
    clear hq
    go_enter Try.func11, Try.ntmps11
    go_wp2_with fail
    refine (treeOk_spec2 _ _ _ _ _ h hs).mono ?_
    rintro e w1 ⟨rfl, hb1⟩
    rw [HQ.out]
    go_wp2
    go_returns
    exact ⟨rfl, hb1⟩
  · have HT := Lib.hid (show treeText l = textTo l l.length by simp [treeText, hq])
    rw [HT.out]
    clear hq
    go_enter Try.func11, Try.ntmps11
    go_wp2_with fail
    refine (treeOk_spec2 _ _ _ _ _ h hs).mono ?_
    rintro e w1 ⟨rfl, hb1⟩
    rw [HQ.out]
    go_wp2
    go_loopw [3, 4] (fun o i wr => ∃ k : Nat, k ≤ n ∧ i = .int .i64 k ∧ o = .string (textTo l k) ∧ Below w.heap.size w wr) (fun _ i _ => n - (intOf i).toNat)
    case atStart => exact ⟨0, Nat.zero_le _, rfl, rfl, hb1⟩
    case round =>
      obtain ⟨k, hk, rfl, rfl, hb⟩ := hrel
      have HS := Lib.hid (show textTo l (k + 1) = textTo l k ++ (varS (enAt l k).p.size ++ (enAt l k).p) ++ varS (enAt l k).ch.length ++ joinS (enAt l k).ch from rfl)
      by_cases hlt : k < n
      · obtain ⟨b, off, rfl, hbl, hc⟩ := h.at_ (by omega)
        obtain ⟨hp0, A', n', c', hc0, hat, _⟩ := hc k hlt
        have hpk := (hb.cell (p := ⟨b, off + k * 2, none⟩) hbl).trans hp0
        have hck := (hb.cell (p := ⟨b, off + k * 2 + 1, none⟩) hbl).trans hc0
        have hbr : b < wr.heap.size := Nat.lt_of_lt_of_le hbl hb.size
        clear hc hc0 hp0
        have hek := hel k
        unfold entSz at hek
        have hzt := textTo_size hel k
        have hzp := varS_size (enAt l k).p.size
        have hzc := varS_size n'
        have hzj : (joinS (enAt l k).ch).size ≤ 1048704 := joinTo_le (Nat.le_refl _) (by omega)
        have hatl := hat.keep hb
        have HN := Lib.hid hat.nn
        have hn4 : n' ≤ 1048704 := by have := HN.out; unfold strsSz at hek; omega
        go_wp2
        refine wp_region_grow (by kernel_rfl) (by kernel_rfl) ?_
        repeat (go_big_quiet_step (first | (go_at_call 38; exact grow_of (l4Piece_spec _ _ (by omega))) | (go_at_call 39; exact grow_of (var_spec _ _ (by omega))) | (go_at_call 40; exact grow_same (joined_spec _ _ _ _ _ (hatl.keep (Grow.below _)) (by omega)))))
        refine wpQuiet_nil ?_
        intro _ hw'
        obtain ⟨⟨w2, hb2⟩, hw''⟩ := hw'
        change _ = w2 at hw''
        subst hw''
        go_wp2
        exact ⟨⟨k + 1, by omega, by go_num, by rw [HS.out, HN.out], bthen hb hb2⟩, by simp [intOf]; omega⟩
      · go_wp2
        go_returns
        have : k = l.length := by have := HL.out; omega
        subst this
        exact ⟨rfl, hb⟩
theorem treeText_impl (A : Option Addr) (n c : Nat) (l : List Ent) (w : World) (h : EntsAt w A n l) (hs : entsSz l ≤ 1048576) :
    Calls Try.prog 7 #[.slice A n c] w fun e w' => e = .returned (.string (treeText l)) ∧ Below w.heap.size w w' := treeText_impl2 A n c l w h (by omega)
theorem treeText_spec (A : Option Addr) (n c : Nat) (l : List Ent) (w : World) (h : EntsAt w A n l) (hs : entsSz l ≤ 1048576) :
    Calls Try.prog 11 #[.slice A n c] w fun e w' => e = .returned (.string (treeText l)) ∧ Below w.heap.size w w' := treeText_spec2 A n c l w h (by omega)
end Go.Proofs.Ytbijkdpifnncmaa
