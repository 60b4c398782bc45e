/- Contracts and lemmas: SetRow. -/
import Derived.Test.YtdphdnllhmnelaaJ32
/- What the program makes of a set in a row of its own: commit, tag, prune upon the row. -/
namespace Go.Proofs.Ytdphdnllhmnelaa
open Go.RowKit
/-- what a call upon the set at k leaves -/
def SetRow (l : List Cst) (m : Cm) (k qb n c : Nat) (fp : List Nat) (w : World) (e : Ending) (w' : World) : Prop :=
  ∃ fp', e = .returned (.string (setDo (cstAt l k) m).2) ∧ RowO cstF 148 2 fp' w' (some ⟨qb, 0, none⟩) n c (l.set k (setDo (cstAt l k) m).1) ∧ fp'.Nodup ∧ (∀ t ∈ fp', t ∈ fp ∨ w.heap.size ≤ t) ∧ Ch (fun t => t ∈ fp) w w'
structure SetCut (l : List Cst) (k qb n c : Nat) (fp : List Nat) (w : World) (x : Cst) (Q : Option Addr) (qn qc : Nat) (f : List Nat) (d1 d2 : List (List Value)) (f1 f2 : List (List Nat)) : Prop where
  hx : l[k]? = some x
  hfp : fp = blkL (some ⟨qb, 0, none⟩) ++ (f1 ++ f :: f2).flatten
  own : w.ownsRow 0 148 2 (.slice (some ⟨qb, 0, none⟩) n c) n (d1.flatten ++ ([.string x.nm, .slice Q qn qc] ++ d2.flatten))
  hl : n = l.length
  E1 : Els cstF w d1 f1 (l.take k)
  E2 : Els cstF w d2 f2 (l.drop (k + 1))
  S : RowO snpF 150 3 f w Q qn qc x.snaps
  c0 : w.cell? ⟨qb, k * 2, none⟩ = some (.string x.nm)
  c1 : w.cell? ⟨qb, k * 2 + 1, none⟩ = some (.slice Q qn qc)
  fz : w.frozen? ⟨qb, k * 2 + 1, none⟩ = false
  hN : (qb :: (f1.flatten ++ (f ++ f2.flatten))).Nodup
  Nf : f.Nodup
  hqf : qb ∉ f
  inn : ∀ t ∈ f, t ∈ fp
  qin : qb ∈ fp
  len : (l.take k).length = k
theorem set_cut {l : List Cst} {k qb n c : Nat} {fp : List Nat} {w : World} (hR : RowO cstF 148 2 fp w (some ⟨qb, 0, none⟩) n c l) (hN : fp.Nodup) (hk : k < n) :
    ∃ x Q qn qc f d1 d2 f1 f2, SetCut l k qb n c fp w x Q qn qc f d1 d2 f1 f2 := by
  obtain ⟨css, fps, rfl, own, hl, E⟩ := hR.ex
  obtain ⟨x, hx⟩ : ∃ x, l[k]? = some x := ⟨_, List.getElem?_eq_getElem (by omega)⟩
  obtain ⟨d1, d2, f1, f2, cs, f, rfl, rfl, E1, hF, E2⟩ := els_cut E hx
  obtain ⟨Q, qn, qc, fx, rfl, rfl, S⟩ := hF
  have own2 : w.ownsRow 0 148 2 (.slice (some ⟨qb, 0, none⟩) n c) n (d1.flatten ++ ([.string x.nm, .slice Q qn qc] ++ d2.flatten)) := by simpa [cstL] using own
  have hlen : (l.take k).length = k := by rw [List.length_take]; omega
  have hd1 : d1.flatten.length = k * 2 := by rw [E1.flat cstK, hlen]
  have hN' : (qb :: (f1.flatten ++ (f ++ f2.flatten))).Nodup := by simpa [blkL] using hN
  have hN2 := hN'
  simp only [List.nodup_cons, List.nodup_append, List.mem_append, not_or] at hN2
  exact ⟨x, Q, qn, qc, f, d1, d2, f1, f2, hx, rfl, own2, hl, E1, E2, S, by simpa using own_mid (r := 0) own2 hd1 rfl, own_mid (r := 1) own2 hd1 rfl, own.frozenAt _, hN', hN2.2.2.1.1, hN2.1.2.1,
    fun t ht => by simp [ht], by simp [blkL], hlen⟩
theorem SetCut.same {l : List Cst} {m : Cm} {k qb n c : Nat} {fp : List Nat} {w w' : World} {x : Cst} {Q : Option Addr} {qn qc : Nat} {f : List Nat} {d1 d2 : List (List Value)} {f1 f2 : List (List Nat)} (C : SetCut l k qb n c fp w x Q qn qc f d1 d2 f1 f2) (hR : RowO cstF 148 2 fp w (some ⟨qb, 0, none⟩) n c l) (hN : fp.Nodup)
    {t : ByteArray} (hs : setDo x m = (x, t)) (hb : Below w.heap.size w w') : SetRow l m k qb n c fp w (.returned (.string t)) w' := by
  unfold SetRow
  rw [cstAt_of C.hx, hs]
  have e1 : l.set k x = l := by rw [set_split C.hx, ← drop_one C.hx, List.take_append_drop]
  rw [e1]
  exact ⟨fp, rfl, hR.keep cstK hb, hN, fun t ht => .inl ht, Ch.of_below hb⟩
theorem SetCut.put {l : List Cst} {m : Cm} {k qb n c : Nat} {fp : List Nat} {w w1 w2 : World} {x x' : Cst} {Q Q' : Option Addr} {qn qc qn' qc' : Nat} {f f' : List Nat} {d1 d2 : List (List Value)} {f1 f2 : List (List Nat)} (C : SetCut l k qb n c fp w x Q qn qc f d1 d2 f1 f2)
    {t : ByteArray} (hs : setDo x m = (x', t)) (hx' : x'.nm = x.nm) (hc : Ch (fun b => b ∈ f) w w1) (hS : RowO snpF 150 3 f' w1 Q' qn' qc' x'.snaps) (hf : ∀ b ∈ f', b ∈ f ∨ w.heap.size ≤ b) (hfN : f'.Nodup) (hk : k < n)
    (hb : Below (w1.setCell ⟨qb, k * 2 + 1, none⟩ (.slice Q' qn' qc')).heap.size (w1.setCell ⟨qb, k * 2 + 1, none⟩ (.slice Q' qn' qc')) w2) : SetRow l m k qb n c fp w (.returned (.string t)) w2 := by
  have hl := C.hl
  obtain ⟨hR, hN, hC⟩ := upd_els1 (j := 1) (v := .slice Q' qn' qc') (x' := x') (w8 := w1.setCell ⟨qb, k * 2 + 1, none⟩ (.slice Q' qn' qc')) cstK C.own C.E1 C.E2 rfl (by omega) (by rw [C.len, List.length_drop]; omega) C.hN hc
    ⟨Q', qn', qc', f', by rw [cstL, hx']; rfl, rfl, hS⟩ hf hfN (by rw [C.len])
  unfold SetRow
  rw [cstAt_of C.hx, hs, set_split C.hx]
  refine ⟨_, rfl, hR.keep cstK hb, by simpa [blkL] using hN, fun t ht => ?_, (hC.mono (fun b hb => ?_)).trans (Ch.of_below hb)⟩
  · rw [C.hfp]
    simp only [blkL, List.flatten_append, List.flatten_cons, List.mem_append, Option.map_some, Option.toList_some, List.mem_singleton] at ht ⊢
    rcases ht with h | h | h | h
    · exact .inl (.inl h)
    · exact .inl (.inr (.inl h))
    · rcases hf t h with h2 | h2
      · exact .inl (.inr (.inr (.inl h2)))
      · exact .inr h2
    · exact .inl (.inr (.inr (.inr h)))
  · rcases hb with h | h
    · rw [h]; exact C.qin
    · exact C.inn b h
theorem SetCut.tagged {l : List Cst} {m : Cm} {k qb n c : Nat} {fp : List Nat} {w w1 : World} {x x' : Cst} {Q : Option Addr} {qn qc : Nat} {f : List Nat} {q1 q2 : List (List Value)} {f1 f2 : List (List Nat)} (C : SetCut l k qb n c fp w x Q qn qc f q1 q2 f1 f2) (hN : fp.Nodup)
    {t : ByteArray} (hs : setDo x m = (x', t)) (hx' : x'.nm = x.nm) (hc : Ch (fun b => b ∈ f) w w1) (hS : RowO snpF 150 3 f w1 Q qn qc x'.snaps) (hk : k < n) : SetRow l m k qb n c fp w (.returned (.string t)) w1 := by
  have hl := C.hl
  have hN2 := C.hN
  simp only [List.nodup_cons, List.nodup_append, List.mem_append, not_or] at hN2
  have d1 : ∀ b ∈ f1.flatten, ¬ b ∈ f := fun b h1 h2 => by grind
  have d2 : ∀ b ∈ f2.flatten, ¬ b ∈ f := fun b h1 h2 => by grind
  have o1 := own_chL C.own hc (fun b hb h2 => C.hqf (by
    have : b = qb := by simpa [blkL] using hb
    rw [← this]; exact h2))
  have E1 := C.E1.ch cstK hc d1
  have E2 := C.E2.ch cstK hc d2
  unfold SetRow
  rw [cstAt_of C.hx, hs, set_split C.hx]
  refine ⟨fp, rfl, ?_, hN, fun t ht => .inl ht, hc.mono (fun b hb => C.inn b hb)⟩
  have hX : cstF f w1 [.string x.nm, .slice Q qn qc] x' := ⟨Q, qn, qc, f, by rw [cstL, hx'], rfl, hS⟩
  have := RowO.intro (F := cstF) (e := 148) (sz := 2) (A := some ⟨qb, 0, none⟩) (n := n) (c := c) (l := l.take k ++ x' :: l.drop (k + 1)) (css := q1 ++ [.string x.nm, .slice Q qn qc] :: q2) (by simpa using o1) (by simp [C.len]; omega) (E1.app (l' := x' :: l.drop (k + 1)) (css' := [.string x.nm, .slice Q qn qc] :: q2) (fps' := f :: f2) (show _ ∧ _ from ⟨hX, E2⟩))
  rw [C.hfp]
  simp only []
  exact this
attribute [local irreducible] StrsAt StrR StrO RowR RowO snpFnd bareTo pruL dgT
set_option maxRecDepth 8000 in
theorem commit_row (l : List Cst) (m : Cm) (hkd : m.kd = 3) (k qb n c : Nat) (fp : List Nat) (A1 : Option Addr) (n1 c1 : Nat) (w : World) (hR : RowO cstF 148 2 fp w (some ⟨qb, 0, none⟩) n c l) (hN : fp.Nodup) (hk : k < n) (hm : StrR w A1 n1 c1 m.ch) (hn1 : n1 ≤ 1000) (hbd : ∀ s ∈ l, s.snaps.length ≤ 9) :
    Calls Try.prog 190 #[.pointer (some ⟨qb, k * 2, none⟩), cmV m (.slice A1 n1 c1)] w (SetRow l m k qb n c fp w) := by
  obtain ⟨x, Q, qn, qc, f, d1, d2, f1, f2, C⟩ := set_cut hR hN hk
  have hql := C.S.len
  have hq9 := hbd x (List.mem_of_getElem? C.hx)
  refine (commit_impl x m qb (k * 2) Q qn qc f A1 n1 c1 w C.c0 C.c1 C.fz C.S C.Nf C.hqf hm hn1 (by omega)).mono ?_
  rintro e w' (⟨rfl, hf, hb⟩ | ⟨rfl, hf, h5, hb⟩ | ⟨rfl, hf, h5, w1, Q', c', fq', rfl, hC, hS, hN', hF⟩)
  · exact C.same hR hN (by unfold setDo; rw [if_pos hkd, if_pos hf]) hb
  · exact C.same hR hN (by unfold setDo; rw [if_pos hkd, if_neg (by omega), if_pos (by omega)]) hb
  · exact C.put (x' := comS x m) (by unfold setDo; rw [if_pos hkd, if_neg (by omega), if_neg (by omega)]) rfl hC hS hF hN' hk (Below.refl _ _)
set_option maxRecDepth 8000 in
theorem tag_row (l : List Cst) (m : Cm) (hkd : m.kd = 4) (k qb n c : Nat) (fp : List Nat) (A1 : Option Addr) (n1 c1 : Nat) (w : World) (hR : RowO cstF 148 2 fp w (some ⟨qb, 0, none⟩) n c l) (hN : fp.Nodup) (hk : k < n) (hbd : ∀ s ∈ l, s.snaps.length ≤ 9) :
    Calls Try.prog 191 #[.pointer (some ⟨qb, k * 2, none⟩), cmV m (.slice A1 n1 c1)] w (SetRow l m k qb n c fp w) := by
  obtain ⟨x, Q, qn, qc, f, d1, d2, f1, f2, C⟩ := set_cut hR hN hk
  have hql := C.S.len
  have hq9 := hbd x (List.mem_of_getElem? C.hx)
  refine (tag_impl x m qb (k * 2) Q qn qc f A1 n1 c1 w C.c0 C.c1 C.S C.Nf C.hqf (by omega)).mono ?_
  rintro e w' (⟨rfl, hf, hb⟩ | ⟨rfl, j, hf, hj, hS, hC⟩)
  · exact C.same hR hN (by unfold setDo; rw [if_neg (by omega), if_pos hkd, if_pos hf]) hb
  · exact C.tagged hN (x' := tagS x m j) (by unfold setDo; rw [if_neg (by omega), if_pos hkd, if_neg (by omega), hf, Int.toNat_natCast]) rfl hC hS hk
set_option maxRecDepth 8000 in
theorem prune_row (l : List Cst) (m : Cm) (hkd : m.kd = 5) (h0 : 0 ≤ m.n) (h9 : m.n ≤ 9) (k qb n c : Nat) (fp : List Nat) (w : World) (hR : RowO cstF 148 2 fp w (some ⟨qb, 0, none⟩) n c l) (hN : fp.Nodup) (hk : k < n) (hbd : ∀ s ∈ l, s.snaps.length ≤ 9) :
    Calls Try.prog 192 #[.pointer (some ⟨qb, k * 2, none⟩), .int .i64 m.n] w (SetRow l m k qb n c fp w) := by
  obtain ⟨x, Q, qn, qc, f, d1, d2, f1, f2, C⟩ := set_cut hR hN hk
  have hql := C.S.len
  have hq9 := hbd x (List.mem_of_getElem? C.hx)
  have em : m.n = ((m.n.toNat : Nat) : Int) := by omega
  have := prune_impl x m.n.toNat qb (k * 2) Q qn qc f w C.c1 C.fz C.S C.Nf C.hqf (by omega) (by omega)
  rw [← em] at this
  refine this.mono ?_
  rintro e w' ⟨rfl, w1, Q', n', c', fq', hb, hb1, hS, hN', hF⟩
  exact C.put (x' := ⟨x.nm, pruL x.snaps (goneN x.snaps m.n.toNat)⟩) (by unfold setDo; rw [if_neg (by omega), if_neg (by omega), if_pos hkd]) rfl (Ch.of_below hb1) hS hF hN' hk hb
end Go.Proofs.Ytdphdnllhmnelaa
