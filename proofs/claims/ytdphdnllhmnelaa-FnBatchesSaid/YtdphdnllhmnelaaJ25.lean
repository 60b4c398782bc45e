/- Contracts and lemmas: Spaced. -/
import Derived.Test.YtdphdnllhmnelaaJ23
import Derived.Test.YtdphdnllhmnelaaJ24
import Derived.Test.YtdphdnllhmnelaaJ1
/- Texts with spaces between; what the program tells of a set, of a catalog; the reference's l15Read. -/
namespace Go.Proofs.Ytdphdnllhmnelaa
open Go.RowKit
attribute [local go_sem] Grow.cell Grow.frozen
def spT : ByteArray := ⟨#[32]⟩
def clT : ByteArray := ⟨#[58]⟩
def spTo (l : List ByteArray) : Nat → ByteArray
  | 0 => ByteArray.empty
  | k + 1 => (if k = 0 then spTo l k else spTo l k ++ spT) ++ sAt l k
theorem spTo_size {l : List ByteArray} (h : ∀ j, (sAt l j).size ≤ 100) : ∀ k, (spTo l k).size ≤ 101 * k
  | 0 => by unfold spTo; exact Nat.zero_le _
  | k + 1 => by
    have h1 := spTo_size h k
    have h2 := h k
    have h3 : spT.size = 1 := rfl
    unfold spTo
    split
    · rw [ByteArray.size_append]; omega
    · rw [ByteArray.size_append, ByteArray.size_append]; omega
theorem spTo_one (l : List ByteArray) : spTo l 1 = ByteArray.empty ++ sAt l 0 := by unfold spTo; rw [if_pos rfl, spTo]
theorem spTo_more (l : List ByteArray) (k : Nat) : spTo l (k + 1 + 1) = (spTo l (k + 1) ++ spT) ++ sAt l (k + 1) := by rw [spTo, if_neg (by omega)]
attribute [local irreducible] spTo RowR StrR StrsAt
set_option maxRecDepth 8000 in
theorem spaced_impl (A : Option Addr) (n c : Nat) (l : List ByteArray) (w : World) (h : StrsAt w A n l) (hn : n ≤ 1000) (hs : ∀ j, (sAt l j).size ≤ 100) :
    Calls Try.prog 201 #[.slice A n c] w fun e w' => e = .returned (.string (spTo l l.length)) ∧ w = w' := by
  have HL := Lib.hid (strsLenA h)
  go_enter Try.func201, Try.ntmps201
  go_wp2
  go_loop [3, 8] (fun o i => ∃ k : Nat, k ≤ n ∧ i = .int .i64 k ∧ o = .string (spTo l k)) (fun _ i => n - (intOf i).toNat)
  case atStart => exact ⟨0, Nat.zero_le _, rfl, by unfold spTo; rfl⟩
  case round =>
    obtain ⟨k, hk, rfl, rfl⟩ := hrel
    by_cases hlt : k < n
    · obtain ⟨b, off, rfl, hbl, hc⟩ := h.at_ (by omega)
      have hck := hc k hlt
      clear hc
      have hsz := spTo_size hs k
      have hsk := hs k
      have h1 : spT.size = 1 := rfl
      by_cases hk0 : k = 0
      · subst hk0
        have HS := Lib.hid (spTo_one l)
        simp only [Nat.add_zero] at hck
        have he : spTo l 0 = ByteArray.empty := by unfold spTo; rfl
        rw [he]
        go_wp2
        refine ⟨⟨1, by omega, by simp, by rw [HS.out]; try rfl⟩, by simp [intOf]; omega⟩
      · obtain ⟨k', rfl⟩ : ∃ k', k = k' + 1 := ⟨k - 1, by omega⟩
        have gd0 : decide (((k' + 1 : Nat) : Int) > 0) = true := by rw [decide_eq_true_eq]; omega
        have HS := Lib.hid (spTo_more l k')
        clear hk0
        go_wp2
        refine ⟨⟨k' + 1 + 1, by omega, by go_num, by rw [HS.out]; try rfl⟩, by simp [intOf]; omega⟩
    · have hkn : k = l.length := by have := HL.out; omega
      have HK := Lib.hid hkn; clear hkn
      go_wp2
      go_returns
      exact ⟨by rw [← HK.out]; rfl, rfl⟩
/-- what is told of a snapshot -/
def tdT (p : Snp) : ByteArray := p.nm ++ clT ++ p.tg
theorem tdT_size {p : Snp} (h1 : p.nm.size ≤ 40) (h2 : p.tg.size ≤ 40) : (tdT p).size ≤ 100 := by
  have h3 : clT.size = 1 := rfl
  unfold tdT
  rw [ByteArray.size_append, ByteArray.size_append]; omega
theorem sAt_map {α : Type} {l : List α} (f : α → ByteArray) {k : Nat} {x : α} (h : l[k]? = some x) : sAt (l.map f) k = f x := by
  simp [sAt, h]
theorem sAt_size {α : Type} {l : List α} {f : α → ByteArray} {m : Nat} (h : ∀ x ∈ l, (f x).size ≤ m) (j : Nat) : (sAt (l.map f) j).size ≤ m := by
  by_cases hj : j < l.length
  · rw [sAt_map f (List.getElem?_eq_getElem hj)]; exact h _ (List.getElem_mem hj)
  · have e : sAt (l.map f) j = ByteArray.empty := by simp [sAt, hj]
    rw [e]; exact Nat.zero_le _
theorem take_map {α : Type} {l : List α} (f : α → ByteArray) {k : Nat} {x : α} (h : l[k]? = some x) : (l.map f).take (k + 1) = (l.map f).take k ++ [f x] := take_more (by simp [h])
set_option maxRecDepth 8000 in
theorem told_impl (x : Cst) (A : Option Addr) (n c : Nat) (B o : Nat) (w : World) (h : RowR snpR 3 w A n c x.snaps) (hB : w.cell? ⟨B, o + 1, none⟩ = some (.slice A n c)) (hn : n ≤ 1000) (hs : ∀ p ∈ x.snaps, p.nm.size ≤ 40 ∧ p.tg.size ≤ 40) :
    Calls Try.prog 193 #[.pointer (some ⟨B, o, none⟩)] w fun e w' => e = .returned (.string (spTo (x.snaps.map tdT) x.snaps.length)) ∧ Below w.heap.size w w' := by
  have HL := Lib.hid h.len.symm
  have al := (Below.refl w.heap.size w).alloc (Nat.le_refl _) (.cells #[] 9)
  have hO := own_empty w 9 1 (Nat.le_refl w.heap.size)
  have hBl := cell_lt hB
  go_enter Try.func193, Try.ntmps193
  go_wp2
  go_loopw [3, 12] (fun o i wr => ∃ (k : Nat) (O : Option Addr) (cap : Nat), k ≤ n ∧ i = .int .i64 k ∧ o = .slice O k cap ∧ wr.ownsRow w.heap.size 9 1 (.slice O k cap) k (((x.snaps.map tdT).take k).map Value.string) ∧ Below w.heap.size w wr) (fun _ i _ => n - (intOf i).toNat)
  case atStart => exact ⟨0, _, _, Nat.zero_le _, rfl, rfl, by simpa using hO, al⟩
  case round =>
    clear hO al
    obtain ⟨k, O, cap, hk, rfl, rfl, own, hb⟩ := hrel
    by_cases hlt : k < n
    · have k1 := h.keep snpK hb
      obtain ⟨b, off, rfl⟩ := k1.head (by omega)
      obtain ⟨bl, y, cs, hy, ⟨A1, n1, c1, rfl, _⟩, hcell⟩ := k1.elem_at hlt
      have f0 : wr.cell? ⟨b, off + k * 3, none⟩ = some (.string y.nm) := hcell 0 _ rfl
      have f1 : wr.cell? ⟨b, off + k * 3 + 1, none⟩ = some (.string y.tg) := hcell 1 _ rfl
      have f2 : wr.cell? ⟨b, off + k * 3 + 2, none⟩ = some (.slice A1 n1 c1) := hcell 2 _ rfl
      have HT := Lib.hid (take_map tdT hy)
      have hsy := bounds_el hs hy
      have hsy1 := hsy.1
      have hsy2 := hsy.2
      have hcl : clT.size = 1 := rfl
      have hadd : (y.nm ++ clT).size ≤ 41 := by rw [ByteArray.size_append]; omega
      clear hcell hy hsy
      have hz := hb.size
      have own2 := own_chL own (Ch.of_below (S := fun _ => False) ((Below.refl wr.heap.size wr).alloc (Nat.le_refl _) (.cells #[.string y.nm, .string y.tg, .slice A1 n1 c1] 150))) (fun _ _ h => h)
      have hz2 : w.heap.size ≤ (wr.alloc (.cells #[.string y.nm, .string y.tg, .slice A1 n1 c1] 150)).heap.size := by simp; omega
      have hb2' := hb.alloc hz (.cells #[.string y.nm, .string y.tg, .slice A1 n1 c1] 150)
      go_wp2_with (first | (at_builtin; refine wpList_app1g (P := Try.prog) _ rfl (.tmp 16) (.tmp 23) 38 rfl w.heap.size 9 _ 1 16 Try.underlying38 infoString rfl (by omega) (.slice O k cap) _ _ rfl own2 #[.string (y.nm ++ clT ++ y.tg)] _ rfl (by simp) rfl (by simp [Value.oneCell']) (by unfold maxLen; omega) (by omega) hz2 ?_; intro A' c' w2 own3 hg2 hb2 _; refine stop_of ?_) | fail)
      unfold Stop
      go_wp2
      refine ⟨⟨k + 1, A', c', by omega, by go_num, rfl, by rw [HT.out, List.map_append]; exact own3, hb2'.trans hb2⟩, by simp [intOf]; omega⟩
    · have hkn : k = n := by omega
      have HK := Lib.hid (show (x.snaps.map tdT).take k = x.snaps.map tdT from List.take_of_length_le (by rw [List.length_map]; have := HL.out; omega))
      rw [HK.out] at own
      have hst : StrsAt wr O k (x.snaps.map tdT) := (StrsIn.of_own own).at_
      have hsz : ∀ j, (sAt (x.snaps.map tdT) j).size ≤ 100 := sAt_size (fun p hp => tdT_size (hs p hp).1 (hs p hp).2)
      have hk1000 : k ≤ 1000 := by omega
      have HS := Lib.hid hsz
      clear hkn hsz
      go_wp2_with fail
      refine (spaced_impl O k cap (x.snaps.map tdT) _ hst hk1000 HS.out).mono ?_
      rintro e w' ⟨rfl, rfl⟩
      go_wp2
      go_returns
      exact ⟨rfl, hb⟩
set_option maxRecDepth 8000 in
theorem list_impl (x : Ctl) (A : Option Addr) (n c : Nat) (B : Nat) (w : World) (h : RowR cstR 2 w A n c x.sets) (hB : w.cell? ⟨B, 0, none⟩ = some (.slice A n c)) (hn : n ≤ 1000) (hs : ∀ p ∈ x.sets, p.nm.size ≤ 100) :
    Calls Try.prog 187 #[.pointer (some ⟨B, 0, none⟩)] w fun e w' => e = .returned (.string (spTo (x.sets.map Cst.nm) x.sets.length)) ∧ Below w.heap.size w w' := by
  have HL := Lib.hid h.len.symm
  have al := (Below.refl w.heap.size w).alloc (Nat.le_refl _) (.cells #[] 9)
  have hO := own_empty w 9 1 (Nat.le_refl w.heap.size)
  have hBl := cell_lt hB
  go_enter Try.func187, Try.ntmps187
  go_wp2
  go_loopw [3, 12] (fun o i wr => ∃ (k : Nat) (O : Option Addr) (cap : Nat), k ≤ n ∧ i = .int .i64 k ∧ o = .slice O k cap ∧ wr.ownsRow w.heap.size 9 1 (.slice O k cap) k (((x.sets.map Cst.nm).take k).map Value.string) ∧ Below w.heap.size w wr) (fun _ i _ => n - (intOf i).toNat)
  case atStart => exact ⟨0, _, _, Nat.zero_le _, rfl, rfl, by simpa using hO, al⟩
  case round =>
    clear hO al
    obtain ⟨k, O, cap, hk, rfl, rfl, own, hb⟩ := hrel
    by_cases hlt : k < n
    · have k1 := h.keep cstK hb
      obtain ⟨b, off, rfl⟩ := k1.head (by omega)
      obtain ⟨bl, y, cs, hy, ⟨A1, n1, c1, rfl, _⟩, hcell⟩ := k1.elem_at hlt
      have f0 : wr.cell? ⟨b, off + k * 2, none⟩ = some (.string y.nm) := hcell 0 _ rfl
      have f1 : wr.cell? ⟨b, off + k * 2 + 1, none⟩ = some (.slice A1 n1 c1) := hcell 1 _ rfl
      have HT := Lib.hid (take_map Cst.nm hy)
      have hsy := bounds_el hs hy
      clear hcell hy
      have hz := hb.size
      have own2 := own_chL own (Ch.of_below (S := fun _ => False) ((Below.refl wr.heap.size wr).alloc (Nat.le_refl _) (.cells #[.string y.nm, .slice A1 n1 c1] 148))) (fun _ _ h => h)
      have hz2 : w.heap.size ≤ (wr.alloc (.cells #[.string y.nm, .slice A1 n1 c1] 148)).heap.size := by simp; omega
      have hb2' := hb.alloc hz (.cells #[.string y.nm, .slice A1 n1 c1] 148)
      go_wp2_with (first | (at_builtin; refine wpList_app1g (P := Try.prog) _ rfl (.tmp 16) (.tmp 19) 38 rfl w.heap.size 9 _ 1 16 Try.underlying38 infoString rfl (by omega) (.slice O k cap) _ _ rfl own2 #[.string y.nm] _ rfl (by simp) rfl (by simp [Value.oneCell']) (by unfold maxLen; omega) (by omega) hz2 ?_; intro A' c' w2 own3 hg2 hb2 _; refine stop_of ?_) | fail)
      unfold Stop
      go_wp2
      refine ⟨⟨k + 1, A', c', by omega, by go_num, rfl, by rw [HT.out, List.map_append]; exact own3, hb2'.trans hb2⟩, by simp [intOf]; omega⟩
    · have hkn : k = n := by omega
      have HK := Lib.hid (show (x.sets.map Cst.nm).take k = x.sets.map Cst.nm from List.take_of_length_le (by rw [List.length_map]; have := HL.out; omega))
      rw [HK.out] at own
      have hst : StrsAt wr O k (x.sets.map Cst.nm) := (StrsIn.of_own own).at_
      have hsz : ∀ j, (sAt (x.sets.map Cst.nm) j).size ≤ 100 := sAt_size hs
      have hk1000 : k ≤ 1000 := by omega
      have HS := Lib.hid hsz
      clear hkn hsz
      go_wp2_with fail
      refine (spaced_impl O k cap (x.sets.map Cst.nm) _ hst hk1000 HS.out).mono ?_
      rintro e w' ⟨rfl, rfl⟩
      go_wp2
      go_returns
      exact ⟨rfl, hb⟩
end Go.Proofs.Ytdphdnllhmnelaa
