/- Contracts and lemmas: SetS. -/
import Derived.Test.YtdphdnllhmnelaaGreatJ30
import Derived.Test.YtdphdnllhmnelaaGreatJ23
/- The reference's l15Set: what a command makes of a set of a catalog of its own. -/
namespace Go.Proofs.YtdphdnllhmnelaaGreat
open Go.RowKit
attribute [local go_sem] Grow.cell Grow.frozen
def seL (l : List Cst) (k : Nat) (m : Cm) : List Cst := if m.kd = 2 then l.take k ++ l.drop (k + 1) else l.set k (setDo (cstAt l k) m).1
def seT (l : List Cst) (k : Nat) (m : Cm) : ByteArray := if m.kd = 2 then okT else (setDo (cstAt l k) m).2
theorem se_del {l : List Cst} {k : Nat} {m : Cm} (h : m.kd = 2) : seL l k m = l.take k ++ l.drop (k + 1) ∧ seT l k m = okT := by unfold seL seT; rw [if_pos h, if_pos h]; exact ⟨rfl, rfl⟩
theorem se_not {l : List Cst} {k : Nat} {m : Cm} (h : ¬ m.kd = 2) : seL l k m = l.set k (setDo (cstAt l k) m).1 ∧ seT l k m = (setDo (cstAt l k) m).2 := by unfold seL seT; rw [if_neg h, if_neg h]; exact ⟨rfl, rfl⟩
theorem cat_done {l : List Cst} {m : Cm} {k qb n c B p : Nat} {fq : List Nat} {w w1 w2 w3 : World} {t : ByteArray} (hs : SetRow l m k qb n c fq w1 (.returned (.string t)) w2) (hb : Below w.heap.size w w1) (hnq : ∀ t ∈ fq, t < w.heap.size) (hFB : ∀ t ∈ fq, B ≤ t) (hBw : B ≤ w.heap.size)
    (hp : w.heap.size ≤ p) (hp1 : p < w1.heap.size) (hc : Ch (fun b => b = p) w2 w3) (hk : ¬ m.kd = 2) : CatOut (seL l k m) (seT l k m) B w (.returned (.tuple #[.agg #[.slice (some ⟨qb, 0, none⟩) n c], .string t])) w3 := by
  obtain ⟨fp', he, R, N, F, C⟩ := hs
  have he' : t = (setDo (cstAt l k) m).2 := by injection he with h1; injection h1
  obtain ⟨r1, r2⟩ := se_not (l := l) (k := k) hk
  rw [r1, r2, he']
  have hz := hb.size
  have hz2 := C.size
  have hF : ∀ t ∈ fp', B ≤ t ∧ t ≠ p := fun t ht => by rcases F t ht with h | h; (have := hFB t h; have := hnq t h; omega); (omega)
  exact CatOut.mk' (R.ch cstK hc (fun b hb => (hF b hb).2)) N (fun t ht => (hF t ht).1) (hc.belowB (C.belowB (hb.mono hBw) (by omega) hFB) (by omega) (fun b hb => by have hb : b = p := hb; omega))
theorem SetRow.far' {l : List Cst} {m : Cm} {k qb n c : Nat} {fp : List Nat} {w0 w w' : World} {e : Ending} (hb : Below w0.heap.size w0 w) (h : SetRow l m k qb n c fp w e w') : SetRow l m k qb n c fp w0 e w' := by
  obtain ⟨fp', h1, h2, h3, h4, h5⟩ := h
  exact ⟨fp', h1, h2, h3, fun t ht => by rcases h4 t ht with h | h; (exact .inl h); (exact .inr (Nat.le_trans hb.size h)), (Ch.of_below hb).trans h5⟩
theorem blk_at2' {A : Option Addr} {n c m g : Nat} (h : (Value.slice A n c).ownBlock = (Value.slice (some ⟨g, 0, none⟩) 0 0).ownBlock ∨ (Value.slice A n c).ownBlock = some m) : ∀ b ∈ blkL A, b = g ∨ b = m := fun b hb => by
  have h1 := blk_own (n := n) (c := c) (mem_blkL.1 hb)
  rcases h with h | h
  · rw [h] at h1; exact .inl (by have h1 : some g = some b := h1; exact (Option.some.inj h1).symm)
  · rw [h] at h1; exact .inr (Option.some.inj h1).symm
theorem snp_tag (tg : ByteArray) {l : List Snp} {sb n c j : Nat} {f : List Nat} {w : World} (h : RowO snpF 195 3 f w (some ⟨sb, 0, none⟩) n c l) (hN : f.Nodup) (hj : j < n) :
    w.cell? ⟨sb, j * 3 + 1, none⟩ = some (.string (snpAt l j).tg) ∧ w.frozen? ⟨sb, j * 3 + 1, none⟩ = false ∧ sb ∈ f ∧ RowO snpF 195 3 f (w.setCell ⟨sb, j * 3 + 1, none⟩ (.string tg)) (some ⟨sb, 0, none⟩) n c (l.set j ⟨(snpAt l j).nm, tg, (snpAt l j).ch⟩) ∧ Ch (fun b => b ∈ f) w (w.setCell ⟨sb, j * 3 + 1, none⟩ (.string tg)) := by
  obtain ⟨css, fps, rfl, own, hl, E⟩ := h.ex
  obtain ⟨x, hx⟩ : ∃ x, l[j]? = some x := ⟨_, List.getElem?_eq_getElem (by omega)⟩
  obtain ⟨d1, d2, f1, f2, cs, f, rfl, rfl, E1, hF, E2⟩ := els_cut E hx
  have hF' := hF
  obtain ⟨X1, xn, xc, fx, rfl, rfl, hSx⟩ := hF'
  have hlen : (l.take j).length = j := by rw [List.length_take]; omega
  have own2 : w.ownsRow 0 195 3 (.slice (some ⟨sb, 0, none⟩) n c) n (d1.flatten ++ (snpL x (.slice X1 xn xc) ++ d2.flatten)) := by simpa using own
  have hd1 : d1.flatten.length = j * 3 := by rw [E1.flat snpK, hlen]
  have hax := snpAt_of hx
  obtain ⟨hR, _, hCC⟩ := upd_els1 (j := 1) (v := .string tg) (f' := f) (x' := (⟨x.nm, tg, x.ch⟩ : Snp)) (w7 := w) (w8 := w.setCell ⟨sb, j * 3 + 1, none⟩ (.string tg)) snpK own2 E1 E2 (by simp [snpL]) (by omega) (by rw [hlen, List.length_drop]; omega) (by simpa [blkL] using hN) (Ch.refl _) ⟨X1, xn, xc, f, rfl, rfl, hSx⟩ (fun b hb => .inl hb)
    (by have h1 := List.nodup_append.1 hN; have h2 := List.nodup_append.1 (by simpa using h1.2.1 : (f1.flatten ++ (f ++ f2.flatten)).Nodup); exact (List.nodup_append.1 h2.2.1).1) (by rw [hlen])
  rw [hax, set_split hx]
  exact ⟨own_mid (r := 1) own2 hd1 rfl, own.frozenAt _, by simp [blkL], hR, hCC.mono (fun b hb => by rcases hb with h | h; (rw [h]; simp [blkL]); (simp [h]))⟩
theorem SetCut.keep {l : List Cst} {k qb n c : Nat} {fp : List Nat} {w w' : World} {x : Cst} {Q : Option Addr} {qn qc : Nat} {f : List Nat} {d1 d2 : List (List Value)} {f1 f2 : List (List Nat)} (C : SetCut l k qb n c fp w x Q qn qc f d1 d2 f1 f2) (hb : Below w.heap.size w w') : SetCut l k qb n c fp w' x Q qn qc f d1 d2 f1 f2 :=
  ⟨C.hx, C.hfp, own_chL C.own (Ch.of_below (S := fun _ => False) hb) (fun _ _ h => h), C.hl, C.E1.keep cstK hb, C.E2.keep cstK hb, C.S.keep snpK hb, keep_cell hb C.c0, keep_cell hb C.c1, (hb.frozen (p := ⟨qb, k * 2 + 1, none⟩) (cell_lt C.c1)).trans C.fz, C.hN, C.Nf, C.hqf, C.inn, C.qin, C.len⟩
theorem del_end {l : List Cst} {k qb n c B : Nat} {fp : List Nat} {w w1 w' : World} {x : Cst} {Q P : Option Addr} {qn qc cp : Nat} {f : List Nat} {d1 d2 : List (List Value)} {f1 f2 : List (List Nat)} (C : SetCut l k qb n c fp w1 x Q qn qc f d1 d2 f1 f2) (hnq : ∀ t ∈ fp, t < w.heap.size) (hFB : ∀ t ∈ fp, B ≤ t) (hBw : B ≤ w.heap.size)
    (own : w'.ownsRow 0 165 2 (.slice P (k + (n - (k + 1))) cp) (k + (n - (k + 1))) (d1.flatten ++ d2.flatten)) (hP : ∀ b ∈ blkL P, w.heap.size ≤ b) (_ : Below w.heap.size w w1) (hb : Below w.heap.size w w') (hch : Ch (fun b => w.heap.size ≤ b) w1 w') :
    RowO cstF 165 2 (blkL P ++ (f1 ++ f2).flatten) w' P (k + (n - (k + 1))) cp (l.take k ++ l.drop (k + 1)) ∧ (blkL P ++ (f1 ++ f2).flatten).Nodup ∧ (∀ t ∈ blkL P ++ (f1 ++ f2).flatten, B ≤ t) ∧ Below B w w' := by
  have hin : ∀ b ∈ (f1 ++ f2).flatten, b ∈ fp := fun b hb => by
    rw [C.hfp]
    simp only [List.flatten_append, List.flatten_cons, List.mem_append] at hb ⊢
    rcases hb with h | h
    · exact .inr (.inl h)
    · exact .inr (.inr (.inr h))
  have hlt1 : ∀ b ∈ (f1 ++ f2).flatten, b < w.heap.size := fun b hb => hnq b (hin b hb)
  have hE : Els cstF w1 (d1 ++ d2) (f1 ++ f2) (l.take k ++ l.drop (k + 1)) := C.E1.app C.E2
  have hE2 := hE.ch cstK hch (fun b hb h => by have := hlt1 b hb; omega)
  have hN2 := C.hN
  have hNf : (f1 ++ f2).flatten.Nodup := by
    have h5 : (f1.flatten ++ (f ++ f2.flatten)).Nodup := (List.nodup_cons.1 hN2).2
    rw [List.flatten_append]
    exact h5.sublist (List.Sublist.append (List.Sublist.refl _) (List.sublist_append_right _ _))
  have hl := C.hl
  refine ⟨RowO.intro (by rw [List.flatten_append]; exact own) (by rw [List.length_append, C.len, List.length_drop]; omega) hE2, List.nodup_append.2 ⟨by cases P <;> simp [blkL], hNf, fun a ha b hb e => by have := hP a ha; have := hlt1 b hb; omega⟩, fun t ht => ?_, hb.mono hBw⟩
  rcases List.mem_append.1 ht with h | h
  · exact Nat.le_trans hBw (hP t h)
  · exact hFB t (hin t h)
attribute [local irreducible] StrsAt StrR StrO RowR RowO snpFnd seL seT CatOut SetRow
set_option maxRecDepth 8000 in
set_option maxHeartbeats 16000000 in
theorem set_spec (x : Ctl) (m : Cm) (k : Nat) (A : Option Addr) (n c : Nat) (fq : List Nat) (A1 : Option Addr) (n1 c1 : Nat) (w : World) (hA : RowO cstF 165 2 fq w A n c x.sets) (hN : fq.Nodup) (hk : k < n) (hm : StrR w A1 n1 c1 m.ch) (hn1 : n1 ≤ 1000)
    (hcb : ∀ s ∈ x.sets, s.snaps.length ≤ 5 ∧ ∀ p ∈ s.snaps, p.nm.size ≤ 40 ∧ p.tg.size ≤ 40) (hnn : n ≤ 1000) (h0 : 0 ≤ m.n) (h9 : m.n ≤ 9) (B : Nat) (hBw : B ≤ w.heap.size) (hFB : ∀ t ∈ fq, B ≤ t) :
    Calls Tryz.prog 167 #[ctlV x (.slice A n c), .int .i64 (k : Int), cmV m (.slice A1 n1 c1)] w (CatOut (seL x.sets k m) (seT x.sets k m) B w) := by
  have HL := Lib.hid hA.len
  have hnq := hA.lt cstK
  obtain ⟨qb, rfl⟩ : ∃ qb, A = some ⟨qb, 0, none⟩ := by
    obtain ⟨css, fps, _, own, _, _⟩ := hA.ex
    rcases own_form own with ⟨_, h0, _⟩ | ⟨g, rfl, _⟩
    · omega
    · exact ⟨g, rfl⟩
  obtain ⟨y, Q, qn, qc, f, d1, d2, f1, f2, C0⟩ := set_cut hA hN hk
  have hyb := hcb y (List.mem_of_getElem? C0.hx)
  have hqn : qn ≤ 5 := by have := C0.S.len; omega
  have hqbw := cell_lt C0.c0
  have c0 := C0.c0
  have c1' := C0.c1
  have hki : (k : Int) < (n : Int) := by omega
  have al1 := (Below.refl w.heap.size w).alloc (Nat.le_refl _) (.cells #[.slice (some ⟨qb, 0, none⟩) n c] 27)
  have al2 := al1.alloc al1.size (.cells #[.int .i64 m.kd, .int .i64 m.cl, .int .i64 m.no, .string m.s, .string m.nm, .string m.tg, .int .i64 m.n, .slice A1 n1 c1] 48)
  have al3 := al2.alloc al2.size (.cells #[.slice none 0 0] 27)
  have al4 := al3.alloc al3.size (.cells #[.string y.nm, .slice Q qn qc] 165)
  have hz1 : (w.alloc (.cells #[.slice (some ⟨qb, 0, none⟩) n c] 27)).heap.size = w.heap.size + 1 := Array.size_push _
  have hz2 : ((w.alloc (.cells #[.slice (some ⟨qb, 0, none⟩) n c] 27)).alloc (.cells #[.int .i64 m.kd, .int .i64 m.cl, .int .i64 m.no, .string m.s, .string m.nm, .string m.tg, .int .i64 m.n, .slice A1 n1 c1] 48)).heap.size = w.heap.size + 2 := (Array.size_push _).trans (by rw [hz1])
  have hz3 : (((w.alloc (.cells #[.slice (some ⟨qb, 0, none⟩) n c] 27)).alloc (.cells #[.int .i64 m.kd, .int .i64 m.cl, .int .i64 m.no, .string m.s, .string m.nm, .string m.tg, .int .i64 m.n, .slice A1 n1 c1] 48)).alloc (.cells #[.slice none 0 0] 27)).heap.size = w.heap.size + 3 := (Array.size_push _).trans (by rw [hz2])
  have BX := (((BoxL.new w [.slice (some ⟨qb, 0, none⟩) n c] 27).keep ((Below.refl _ _).alloc (Nat.le_refl _) (.cells #[.int .i64 m.kd, .int .i64 m.cl, .int .i64 m.no, .string m.s, .string m.nm, .string m.tg, .int .i64 m.n, .slice A1 n1 c1] 48))).keep ((Below.refl _ _).alloc (Nat.le_refl _) (.cells #[.slice none 0 0] 27))).keep ((Below.refl _ _).alloc (Nat.le_refl _) (.cells #[.string y.nm, .slice Q qn qc] 165))
  have BM := ((BoxL.new (w.alloc (.cells #[.slice (some ⟨qb, 0, none⟩) n c] 27)) [.int .i64 m.kd, .int .i64 m.cl, .int .i64 m.no, .string m.s, .string m.nm, .string m.tg, .int .i64 m.n, .slice A1 n1 c1] 48).keep ((Below.refl _ _).alloc (Nat.le_refl _) (.cells #[.slice none 0 0] 27))).keep ((Below.refl _ _).alloc (Nat.le_refl _) (.cells #[.string y.nm, .slice Q qn qc] 165))
  have BO := (BoxL.new ((w.alloc (.cells #[.slice (some ⟨qb, 0, none⟩) n c] 27)).alloc (.cells #[.int .i64 m.kd, .int .i64 m.cl, .int .i64 m.no, .string m.s, .string m.nm, .string m.tg, .int .i64 m.n, .slice A1 n1 c1] 48)) [.slice none 0 0] 27).keep ((Below.refl _ _).alloc (Nat.le_refl _) (.cells #[.string y.nm, .slice Q qn qc] 165))
  have BY := BoxL.new (((w.alloc (.cells #[.slice (some ⟨qb, 0, none⟩) n c] 27)).alloc (.cells #[.int .i64 m.kd, .int .i64 m.cl, .int .i64 m.no, .string m.s, .string m.nm, .string m.tg, .int .i64 m.n, .slice A1 n1 c1] 48)).alloc (.cells #[.slice none 0 0] 27)) [.string y.nm, .slice Q qn qc] 165
  unfold ctlV cmV
  have hcr : World.rangeAt (((w.alloc (.cells #[.slice (some ⟨qb, 0, none⟩) n c] 27)).alloc (.cells #[.int .i64 m.kd, .int .i64 m.cl, .int .i64 m.no, .string m.s, .string m.nm, .string m.tg, .int .i64 m.n, .slice A1 n1 c1] 48)).alloc (.cells #[.slice none 0 0] 27)) qb (k * 2) [.string y.nm, .slice Q qn qc] := fun j v hv => by
    rcases j with _ | _ | j
    · obtain rfl := Option.some.inj hv; exact keep_cell al3 c0
    · obtain rfl := Option.some.inj hv; exact keep_cell al3 c1'
    · simp at hv
  go_enter Tryz.func167, Tryz.ntmps167
  repeat (first | ((with_reducible refine wpList_load_o 165 (.tmp 17) qb (k * 2) _ _ hcr Tryz.underlying165 sizeCSet0 ?_ ?_ ?_ ?_ ?_ ?_); (rfl); (rfl); (rfl); (rfl); (rfl)) | go_values | go_skip | go_guarded | go_step | go_upon | (simp only []; go_at_K))
  obtain ⟨W, hWW⟩ : ∃ W, W = ((((w.alloc (.cells #[.slice (some ⟨qb, 0, none⟩) n c] 27)).alloc (.cells #[.int .i64 m.kd, .int .i64 m.cl, .int .i64 m.no, .string m.s, .string m.nm, .string m.tg, .int .i64 m.n, .slice A1 n1 c1] 48)).alloc (.cells #[.slice none 0 0] 27)).alloc (.cells #[.string y.nm, .slice Q qn qc] 165)) := ⟨_, rfl⟩
  obtain ⟨g, hg⟩ : ∃ g, w.heap.size = g := ⟨_, rfl⟩
  have HNQ := Lib.hid hnq; have HBW := Lib.hid hBw
  rw [hz1] at BM
  rw [hz2] at BO
  rw [hz3] at BY
  have HG := Lib.hid hg
  rw [← hWW] at al4 BX BM BO BY ⊢
  simp only [hg] at BX BM BO BY hqbw hnq hBw ⊢
  clear hWW hg al1 al2 al3 hz1 hz2 hz3 c0 c1' hcr
  have hfo := snpFnd_spec y m.nm Q qn qc W ((C0.S.keep snpK al4).at_ snpK (by omega)) (by omega)
  unfold cstV at hfo
  refine hfo.mono ?_
  rintro e w1 ⟨rfl, hb1⟩
  clear hfo
  have hB1 := bthen al4 hb1
  have BX1 := BX.keep hb1; have BM1 := BM.keep hb1; have BO1 := BO.keep hb1; have BY1 := BY.keep hb1
  have A1' := hA.keep cstK hB1
  have m1 := hm.keep hB1
  have C := C0.keep hB1
  clear BX BM BO BY al4 hb1 hm C0 hA
  obtain ⟨t, ht⟩ : ∃ t, snpFnd y.snaps 0 m.nm = t := ⟨_, rfl⟩
  have T := Lib.hid ht
  simp only [ht]
  clear ht
  have fqw : ∀ t ∈ f, t ∈ fq := C.inn
  have hqq := C.qin
  have hqg : qb < g := hnq qb hqq
  have x0 := BX1.cell 0 _ rfl; have xf := BX1.fz 0 (by simp)
  have o0 := BO1.cell 0 _ rfl; have of := BO1.fz 0 (by simp)
  have u0 := BM1.cell 0 _ rfl; have u6 := BM1.cell 6 _ rfl
  have z0 := BY1.cell 0 _ rfl; have z1 := BY1.cell 1 _ rfl
  have l0 := BX1.lt; have l1 := BM1.lt; have l2 := BO1.lt; have l3 := BY1.lt
  have HCX := Lib.hid C.hx
  have lw1 : g + 2 < w1.heap.size := l2
  by_cases k2 : m.kd = 2
  · have g2 : (m.kd == (2 : Int)) = true := beq_iff_eq.2 k2
    have K2 := Lib.hid k2; clear k2
    have hC := C
    have hd1 : d1.flatten.length = k * 2 := by rw [C.E1.flat cstK, C.len]
    have hd2 : d2.flatten.length = (n - (k + 1)) * 2 := by rw [C.E2.flat cstK, List.length_drop]; have := C.hl; congr 1; omega
    have hnc := (own_le C.own)
    have own0 := own_empty w1 165 2 (base := 0) (Nat.zero_le _)
    have alq := (Below.refl w1.heap.size w1).alloc (Nat.le_refl _) (.cells #[] 165)
    have hs1 : CellsAt w1 (some ⟨qb, 0, none⟩) k 2 d1.flatten := ⟨hd1, fun _ => ⟨qb, 0, rfl, fun j u hu => by
      have hj : j < d1.flatten.length := (List.getElem?_eq_some_iff.1 hu).1
      have h5 := hC.own.cells (g := qb) rfl j u (by rw [List.getElem?_append_left hj]; exact hu)
      rw [Addr.add_lit] at h5
      exact h5⟩⟩
    have hs2 : CellsAt w1 (some ⟨qb, (k + 1) * 2, none⟩) (n - (k + 1)) 2 d2.flatten := ⟨hd2, fun _ => ⟨qb, (k + 1) * 2, rfl, fun j u hu => by
      have h5 := hC.own.cells (g := qb) rfl ((k + 1) * 2 + j) u (by
        rw [List.getElem?_append_right (by omega), List.getElem?_append_right (by simp only [List.length_cons, List.length_nil]; omega)]
        have e5 : (k + 1) * 2 + j - d1.flatten.length - [Value.string y.nm, Value.slice Q qn qc].length = j := by simp only [List.length_cons, List.length_nil]; omega
        rw [e5]; exact hu)
      rw [Addr.add_lit] at h5
      simpa using h5⟩⟩
    have ho1 := C.E1.ones cstK
    have ho2 := C.E2.ones cstK
    have hkc : (k : Int) ≤ (c : Int) := by omega
    have hw1k : IntKind.i64.wrap ((k : Int) + 1) = (k : Int) + 1 := by rw [IntKind.wrap_i64]; omega
    have hk1n : ((k : Int) + 1) ≤ (n : Int) := by omega
    have hnc2 : (n : Int) ≤ (c : Int) := by omega
    have HC := Lib.hid C; clear hC C
    go_wp2_with (first | (at_builtin; refine wpList_app (P := Tryz.prog) _ rfl (.tmp 27) (.tmp 31) 25 rfl 0 165 _ 2 40 Tryz.underlying25 cstInfo rfl (by omega) (.slice (some ⟨w1.heap.size, 0, none⟩) 0 0) _ _ rfl own0 (some ⟨qb, 0, none⟩) k c d1.flatten rfl (hs1.keep alq) ho1 (fun h => by cases h) (by unfold maxLen; omega) (by omega) (Nat.zero_le _) ?_; intro P cp V own2 hg2 hbp hob2; refine stop_of ?_) | fail)
    unfold Stop
    simp only [Nat.zero_add, List.nil_append] at own2 hob2 ⊢
    have C2a : Ch (fun b => b = w1.heap.size) (w1.alloc (.cells #[] 165)) V := (Ch.of_grow hg2).mono (fun b hb => by simpa [Value.ownBlock, eq_comm] using hb)
    have hbV : Below w1.heap.size w1 V := C2a.belowB alq alq.size (fun b hb => by have hb : b = w1.heap.size := hb; omega)
    have hPb : ∀ b ∈ blkL P, w1.heap.size ≤ b ∧ b < V.heap.size := fun b hb => by
      have h6 := (own_lo own2 b hb).2
      rcases blk_at2' hob2 b hb with h8 | h8
      · omega
      · have := alq.size; omega
    have BX2 := BX1.keep hbV; have BO2 := BO1.keep hbV
    have hzV := hbV.size
    have x02 := BX2.cell 0 _ rfl; have xf2 := BX2.fz 0 (by simp); have l02 := BX2.lt
    clear x0 xf o0 of u0 u6 z0 z1 l0 l1 l2 l3 own0 alq hg2 hbp hob2 C2a
    by_cases hck : c = k + 1
    · have gck : (c : Int) - ((k : Int) + 1) = 0 := by omega
      have hs3 : CellsAt w1 (some ⟨qb, 0, none⟩) (n - (k + 1)) 2 d2.flatten := ⟨hd2, fun h => absurd h (by omega)⟩
      go_wp2_with (first | (at_builtin; refine wpList_app (P := Tryz.prog) _ rfl (.tmp 33) (.tmp 38) 25 rfl 0 165 _ 2 40 Tryz.underlying25 cstInfo rfl (by omega) (.slice P k cp) _ _ rfl own2 (some ⟨qb, 0, none⟩) (n - (k + 1)) 0 d2.flatten rfl (hs3.keep hbV) ho2 (fun h => by cases h) (by unfold maxLen; omega) (by omega) (Nat.zero_le _) ?_; intro P3 cp3 U own3 hg3 hb3 hob3; refine stop_of ?_) | fail)
      unfold Stop
      have C3 : Ch (fun b => b ∈ blkL P) V U := (Ch.of_grow hg3).mono (fun b hb => mem_blkL.2 (blk_of hb))
      have hbU : Below w1.heap.size w1 U := C3.belowB hbV hzV (fun b hb => (hPb b hb).1)
      have hP3 : ∀ b ∈ blkL P3, w1.heap.size ≤ b := fun b hb => by rcases blk_or' hob3 b hb with h | h; (exact (hPb b h).1); (omega)
      have HD := Lib.hid (And.intro own3 hP3)
      have BX3 := BX1.keep hbU; have BO3 := BO1.keep hbU
      have hzU := hbU.size
      have cA := Ch.set (w := U) (g := g) (o := 0) (v := .slice P3 (k + (n - (k + 1))) cp3)
      have BX4 := BX3.set (j := 0) (v := .slice P3 (k + (n - (k + 1))) cp3) (by simp)
      simp only [List.set_cons_zero] at BX4
      have BO4 := BO3.ch cA (ne_blk (by omega))
      have hWr := (BO4.set (v := .slice P3 (k + (n - (k + 1))) cp3) (j := 0) (by simp)).range
      simp only [List.set_cons_zero] at hWr
      have HWR := Lib.hid hWr
      have x03 := BX3.cell 0 _ rfl; have xf3 := BX3.fz 0 (by simp); have l03 := BX3.lt; have o03 := BO3.cell 0 _ rfl; have of3 := BO3.fz 0 (by simp); have l23 := BO3.lt
      have HCA := Lib.hid cA
      clear x02 xf2 l02 own3 hP3 hWr cA BX4 BO4 BX3 BO3 hg3 hb3 hob3 C3
      go_wp2
      refine bodyPost_ret (results_cell_tmp Tryz.results167 rfl HWR.out Tryz.underlying27 rfl sizeCat0) rfl ?_
      obtain ⟨r1, r2⟩ := se_del (l := x.sets) (k := k) K2.out
      rw [r1, r2]
      have hBw1 := bthen hB1 hbU
      have hBw2 := HCA.out.belowB hBw1 hBw1.size (fun b hb => by have hb : b = g := hb; have := HG.out; omega)
      have cB := Ch.set (w := U.setCell ⟨g, 0, none⟩ (.slice P3 (k + (n - (k + 1))) cp3)) (g := g + 2) (o := 0) (v := .slice P3 (k + (n - (k + 1))) cp3)
      have hBw3 := cB.belowB hBw2 hBw2.size (fun b hb => by have hb : b = g + 2 := hb; have := HG.out; omega)
      have hne : ∀ b ∈ blkL P3, ¬ b = g ∧ ¬ b = g + 2 := fun b hb => by have := HD.out.2 b hb; omega
      have own5 := own_chL (own_chL HD.out.1 HCA.out (fun b hb => (hne b hb).1)) cB (fun b hb => (hne b hb).2)
      have hfin := del_end HC.out HNQ.out hFB HBW.out own5 (fun b hb => by have := HD.out.2 b hb; have := hB1.size; omega) hB1 hBw3 (((Ch.of_below (S := fun b => w.heap.size ≤ b) hbU).trans (HCA.out.mono (fun b hb => by have hb : b = g := hb; have := HG.out; omega))).trans (cB.mono (fun b hb => by have hb : b = g + 2 := hb; have := HG.out; omega)))
      exact CatOut.mk' hfin.1 hfin.2.1 hfin.2.2.1 hfin.2.2.2
    · skip
      go_wp2_with (first | (at_builtin; refine wpList_app (P := Tryz.prog) _ rfl (.tmp 33) (.tmp 38) 25 rfl 0 165 _ 2 40 Tryz.underlying25 cstInfo rfl (by omega) (.slice P k cp) _ _ rfl own2 (some ⟨qb, (k + 1) * 2, none⟩) (n - (k + 1)) (c - (k + 1)) d2.flatten rfl (hs2.keep hbV) ho2 (fun h => by cases h) (by unfold maxLen; omega) (by omega) (Nat.zero_le _) ?_; intro P3 cp3 U own3 hg3 hb3 hob3; refine stop_of ?_) | fail)
      unfold Stop
      have C3 : Ch (fun b => b ∈ blkL P) V U := (Ch.of_grow hg3).mono (fun b hb => mem_blkL.2 (blk_of hb))
      have hbU : Below w1.heap.size w1 U := C3.belowB hbV hzV (fun b hb => (hPb b hb).1)
      have hP3 : ∀ b ∈ blkL P3, w1.heap.size ≤ b := fun b hb => by rcases blk_or' hob3 b hb with h | h; (exact (hPb b h).1); (omega)
      have HD := Lib.hid (And.intro own3 hP3)
      have BX3 := BX1.keep hbU; have BO3 := BO1.keep hbU
      have hzU := hbU.size
      have cA := Ch.set (w := U) (g := g) (o := 0) (v := .slice P3 (k + (n - (k + 1))) cp3)
      have BX4 := BX3.set (j := 0) (v := .slice P3 (k + (n - (k + 1))) cp3) (by simp)
      simp only [List.set_cons_zero] at BX4
      have BO4 := BO3.ch cA (ne_blk (by omega))
      have hWr := (BO4.set (v := .slice P3 (k + (n - (k + 1))) cp3) (j := 0) (by simp)).range
      simp only [List.set_cons_zero] at hWr
      have HWR := Lib.hid hWr
      have x03 := BX3.cell 0 _ rfl; have xf3 := BX3.fz 0 (by simp); have l03 := BX3.lt; have o03 := BO3.cell 0 _ rfl; have of3 := BO3.fz 0 (by simp); have l23 := BO3.lt
      have HCA := Lib.hid cA
      clear x02 xf2 l02 own3 hP3 hWr cA BX4 BO4 BX3 BO3 hg3 hb3 hob3 C3
      go_wp2
      refine bodyPost_ret (results_cell_tmp Tryz.results167 rfl HWR.out Tryz.underlying27 rfl sizeCat0) rfl ?_
      obtain ⟨r1, r2⟩ := se_del (l := x.sets) (k := k) K2.out
      rw [r1, r2]
      have hBw1 := bthen hB1 hbU
      have hBw2 := HCA.out.belowB hBw1 hBw1.size (fun b hb => by have hb : b = g := hb; have := HG.out; omega)
      have cB := Ch.set (w := U.setCell ⟨g, 0, none⟩ (.slice P3 (k + (n - (k + 1))) cp3)) (g := g + 2) (o := 0) (v := .slice P3 (k + (n - (k + 1))) cp3)
      have hBw3 := cB.belowB hBw2 hBw2.size (fun b hb => by have hb : b = g + 2 := hb; have := HG.out; omega)
      have hne : ∀ b ∈ blkL P3, ¬ b = g ∧ ¬ b = g + 2 := fun b hb => by have := HD.out.2 b hb; omega
      have own5 := own_chL (own_chL HD.out.1 HCA.out (fun b hb => (hne b hb).1)) cB (fun b hb => (hne b hb).2)
      have hfin := del_end HC.out HNQ.out hFB HBW.out own5 (fun b hb => by have := HD.out.2 b hb; have := hB1.size; omega) hB1 hBw3 (((Ch.of_below (S := fun b => w.heap.size ≤ b) hbU).trans (HCA.out.mono (fun b hb => by have hb : b = g := hb; have := HG.out; omega))).trans (cB.mono (fun b hb => by have hb : b = g + 2 := hb; have := HG.out; omega)))
      exact CatOut.mk' hfin.1 hfin.2.1 hfin.2.2.1 hfin.2.2.2
  have g2 : (m.kd == (2 : Int)) = false := beq_eq_false_iff_ne.2 k2
  have K2 := Lib.hid k2; clear k2
  by_cases k3 : m.kd = 3
  · have g3 : (m.kd == (3 : Int)) = true := beq_iff_eq.2 k3
    have K3 := Lib.hid k3; clear k3
    by_cases ht0 : 0 ≤ t
    · have gd : decide (t ≥ 0) = true := decide_eq_true ht0
      have SR := C.same (m := m) A1' hN (show setDo y m = (y, exT) by unfold setDo; rw [if_pos K3.out, if_pos (by rw [T.out]; exact ht0)]) (Below.refl _ w1)
      clear ht0
      have hWr := (BO1.set (v := .slice (some ⟨qb, 0, none⟩) n c) (j := 0) (by simp)).range
      simp only [List.set_cons_zero] at hWr
      go_wp2
      refine bodyPost_ret (results_cell_tmp Tryz.results167 rfl hWr Tryz.underlying27 rfl sizeCat0) rfl ?_
      exact cat_done (t := exT) SR hB1 HNQ.out hFB HBW.out (p := g + 2) (by have := HG.out; omega) (by omega) Ch.set K2.out
    have gd : decide (t ≥ 0) = false := decide_eq_false ht0
    by_cases h5 : qn = 5
    · have g5 : decide ((qn : Int) ≥ 5) = true := decide_eq_true (by omega)
      have SR := C.same (m := m) A1' hN (show setDo y m = (y, fuT) by unfold setDo; rw [if_pos K3.out, if_neg (by rw [T.out]; exact ht0), if_pos (by have := C.S.len; omega)]) (Below.refl _ w1)
      clear ht0 h5
      have hWr := (BO1.set (v := .slice (some ⟨qb, 0, none⟩) n c) (j := 0) (by simp)).range
      simp only [List.set_cons_zero] at hWr
      go_wp2
      refine bodyPost_ret (results_cell_tmp Tryz.results167 rfl hWr Tryz.underlying27 rfl sizeCat0) rfl ?_
      exact cat_done (t := fuT) SR hB1 HNQ.out hFB HBW.out (p := g + 2) (by have := HG.out; omega) (by omega) Ch.set K2.out
    have g5 : decide ((qn : Int) ≥ 5) = false := decide_eq_false (by omega)
    have H5 := Lib.hid h5; have HT0 := Lib.hid ht0; clear h5 ht0
    obtain ⟨css, fps, hf, ownQ, hlQ, EQ⟩ := C.S.ex
    have HF := Lib.hid hf; have HLQ := Lib.hid hlQ; clear hf hlQ
    have own0 := own_empty w1 195 3 (base := 0) (Nat.zero_le _)
    have alq := (Below.refl w1.heap.size w1).alloc (Nat.le_refl _) (.cells #[] 195)
    have hsrc := (own_cells ownQ).keep alq
    have hnil := own_none ownQ
    go_wp2_with (first | (at_builtin; refine wpList_app (P := Tryz.prog) _ rfl (.tmp 52) (.tmp 54) 163 rfl 0 195 _ 3 56 Tryz.underlying163 snpInfo rfl (by omega) (.slice (some ⟨w1.heap.size, 0, none⟩) 0 0) _ _ rfl own0 Q qn qc css.flatten rfl hsrc (EQ.ones snpK) hnil (by unfold maxLen; omega) (by omega) (Nat.zero_le _) ?_; intro P cp V own2 hg2 hbp hob2; refine stop_of ?_) | fail)
    unfold Stop
    simp only [Nat.zero_add, List.nil_append] at own2 hob2 ⊢
    have C2a : Ch (fun b => b = w1.heap.size) (w1.alloc (.cells #[] 195)) V := (Ch.of_grow hg2).mono (fun b hb => by simpa [Value.ownBlock, eq_comm] using hb)
    have hbV : Below w1.heap.size w1 V := C2a.belowB alq alq.size (fun b hb => by have hb : b = w1.heap.size := hb; omega)
    have hPb : ∀ b ∈ blkL P, w1.heap.size ≤ b ∧ b < V.heap.size := fun b hb => by
      have h6 := (own_lo own2 b hb).2
      have h7 := blk_own (n := qn) (c := cp) (mem_blkL.1 hb)
      rcases hob2 with h8 | h8
      · rw [h8] at h7; have h9 : w1.heap.size = b := by injection h7
        omega
      · rw [h8] at h7; have h9 := Option.some.inj h7; have := alq.size; omega
    have BX2 := BX1.keep hbV; have BM2 := BM1.keep hbV; have BO2 := BO1.keep hbV
    have CV := C.keep hbV
    have cc1 := CV.c1; have cfz := CV.fz
    have mV := m1.keep hbV
    have EV := EQ.keep snpK hbV
    have hlt2 := EQ.lt snpK
    have hzV := hbV.size
    have hNf : fps.flatten.Nodup := by have h5 := C.Nf; rw [HF.out] at h5; exact (List.nodup_append.1 h5).2.1
    have hNP : (blkL P ++ fps.flatten).Nodup := List.nodup_append.2 ⟨by cases P <;> simp [blkL], hNf, fun a ha b hb e => by have h5 := hPb a ha; have h6 := hlt2 b hb; omega⟩
    have hgP : g ∉ blkL P := fun h => by have h5 := hPb g h; omega
    have hg1P : g + 1 ∉ blkL P := fun h => by have h5 := hPb _ h; omega
    have hqP : qb ∉ blkL P := fun h => by have h5 := hPb _ h; omega
    have hqV : qb < V.heap.size := by omega
    have hnn1 : ∀ b ∈ fps.flatten, b ∈ f := fun b hb => by rw [HF.out]; exact List.mem_append_right _ hb
    clear x0 xf o0 of u0 u6 z0 z1 l0 l1 l2 l3 own0 alq hsrc hnil hg2 hbp hob2 C2a
    go_wp2_with fail
    refine wp_region_dagb [56, 57, 58, 59, 60, 61, 62, 63, 64, 65, 66, 67, 68, 69, 70] (by kernel_rfl) (by kernel_rfl) (fun D vs w' => ∃ v56 v57 v58 v59 v60 v61 v62 v63 v64 v65 v66 v67 v68 v69 v70 : Value, vs = [v56, v57, v58, v59, v60, v61, v62, v63, v64, v65, v66, v67, v68, v69, v70] ∧ (D 12 = false → Below V.heap.size V w') ∧ (D 15 = false → Ch (fun t => t ∈ blkL P) V w') ∧ V.heap.size ≤ w'.heap.size ∧ (D 12 = false → w'.ownsRow 0 195 3 (.slice P qn cp) qn css.flatten) ∧ (D 12 = false → Els snpF w' css fps y.snaps) ∧ (D 0 = true → v56 = .pointer (some ⟨g, 0, none⟩)) ∧ (D 1 = true → v57 = .slice (some ⟨qb, 0, none⟩) n c) ∧ (D 2 = true → v58 = .int .i64 (k : Int)) ∧ (D 3 = true → v59 = .slice P qn cp) ∧ (D 4 = true → v60 = .pointer (some ⟨g + 1, 4, none⟩)) ∧ (D 5 = true → v61 = .string m.nm) ∧ (D 6 = true → (D 9 = false → ∃ gm : Nat, v62 = .slice (some ⟨gm, 0, none⟩) 0 0 ∧ w'.ownsRow 0 9 1 (.slice (some ⟨gm, 0, none⟩) 0 0) 0 [] ∧ V.heap.size ≤ gm ∧ gm < w'.heap.size)) ∧ (D 7 = true → v63 = .pointer (some ⟨g + 1, 7, none⟩)) ∧ (D 8 = true → v64 = .slice A1 n1 c1) ∧ (D 9 = true → (D 10 = false → ∃ (E2 : Option Addr) (ed2 : Nat) (f2 : List Nat), v65 = .slice E2 n1 ed2 ∧ f2.Nodup ∧ (∀ b ∈ f2, V.heap.size ≤ b ∧ b < w'.heap.size) ∧ StrO f2 w' E2 n1 ed2 m.ch)) ∧ (D 10 = true → (D 11 = false → ∃ (E2 : Option Addr) (ed2 : Nat) (f2 : List Nat), v66 = .agg #[.string m.nm, .string ByteArray.empty, .slice E2 n1 ed2] ∧ f2.Nodup ∧ (∀ b ∈ f2, V.heap.size ≤ b ∧ b < w'.heap.size) ∧ StrO f2 w' E2 n1 ed2 m.ch)) ∧ (D 11 = true → (D 12 = false → ∃ (gb : Nat) (E2 : Option Addr) (ed2 : Nat) (f2 : List Nat), v67 = .slice (some ⟨gb, 0, none⟩) 1 1 ∧ CellsAt w' (some ⟨gb, 0, none⟩) 1 3 [.string m.nm, .string ByteArray.empty, .slice E2 n1 ed2] ∧ f2.Nodup ∧ (∀ b ∈ f2, V.heap.size ≤ b ∧ b < w'.heap.size) ∧ StrO f2 w' E2 n1 ed2 m.ch)) ∧ (D 12 = true → (D 15 = false → ∃ (A' : Option Addr) (c' : Nat) (fp' : List Nat), v68 = .slice A' (qn + 1) c' ∧ RowO snpF 195 3 fp' w' A' (qn + 1) c' (y.snaps ++ [⟨m.nm, ByteArray.empty, m.ch⟩]) ∧ fp'.Nodup ∧ (∀ t ∈ fp', t ∈ blkL P ++ fps.flatten ∨ V.heap.size ≤ t))) ∧ (D 13 = true → v69 = .pointer (some ⟨qb, k * 2, none⟩)) ∧ (D 14 = true → v70 = .pointer (some ⟨qb, k * 2 + 1, none⟩)) ∧ (D 15 = true → ∃ (wa : World) (A' : Option Addr) (c' : Nat) (fp' : List Nat), w' = wa.setCell ⟨qb, k * 2 + 1, none⟩ (.slice A' (qn + 1) c') ∧ Ch (fun t => t ∈ blkL P) V wa ∧ RowO snpF 195 3 fp' wa A' (qn + 1) c' (y.snaps ++ [⟨m.nm, ByteArray.empty, m.ch⟩]) ∧ fp'.Nodup ∧ (∀ t ∈ fp', t ∈ blkL P ++ fps.flatten ∨ V.heap.size ≤ t)))
      ⟨_, _, _, _, _, _, _, _, _, _, _, _, _, _, _, rfl, (fun _ => (Below.refl _ _).drew), (fun _ => Ch.of_below (S := fun t => t ∈ blkL P) (Below.refl _ _).drew), (by simp), (fun _ => own_chL own2 (Ch.of_below (S := fun _ => False) (Below.refl _ _).drew) (fun _ _ h => h)), (fun _ => EV.keep snpK (Below.refl _ _).drew), (fun h => by cases h), (fun h => by cases h), (fun h => by cases h), (fun h => by cases h), (fun h => by cases h), (fun h => by cases h), (fun h => by cases h), (fun h => by cases h), (fun h => by cases h), (fun h => by cases h), (fun h => by cases h), (fun h => by cases h), (fun h => by cases h), (fun h => by cases h), (fun h => by cases h), (fun h => by cases h)⟩ ?_ ?_
    · intro i D vs w' hi hD hdep hcl hI
      have hi' : i < 16 := hi
      obtain ⟨v56, v57, v58, v59, v60, v61, v62, v63, v64, v65, v66, v67, v68, v69, v70, rfl, hb, hC, hzz, hown, hE, k0, k1, k2, k3, k4, k5, k6, k7, k8, k9, k10, k11, k12, k13, k14, k15⟩ := hI
      simp only [putAll, List.setIfInBounds_toArray, List.set_cons_succ, List.set_cons_zero]
      rcases (show i = 0 ∨ i = 1 ∨ i = 2 ∨ i = 3 ∨ i = 4 ∨ i = 5 ∨ i = 6 ∨ i = 7 ∨ i = 8 ∨ i = 9 ∨ i = 10 ∨ i = 11 ∨ i = 12 ∨ i = 13 ∨ i = 14 ∨ i = 15 by omega) with rfl | rfl | rfl | rfl | rfl | rfl | rfl | rfl | rfl | rfl | rfl | rfl | rfl | rfl | rfl | rfl
      · refine wpOp_step (by simp only [List.getElem?_toArray, List.getElem?_cons_zero]; rfl) (fun K hK => ?_)
        go_simp
        refine hK _ _ ⟨[.pointer (some ⟨g, 0, none⟩), v57, v58, v59, v60, v61, v62, v63, v64, v65, v66, v67, v68, v69, v70], ?_, _, _, _, _, _, _, _, _, _, _, _, _, _, _, _, rfl, hb, hC, hzz, hown, hE, (fun _ => rfl), k1, k2, k3, k4, k5, k6, k7, k8, k9, k10, k11, k12, k13, k14, k15⟩
        simp only [putAll, List.setIfInBounds_toArray, List.set_cons_succ, List.set_cons_zero] <;> rfl
      · have e0 := k0 (hdep 0 (by kernel_rfl))
        subst e0
        have n15 : D 15 = false := Bool.eq_false_iff.2 (fun h => absurd (hcl 13 1 (hcl 14 13 (hcl 15 14 h (by kernel_rfl)) (by kernel_rfl)) (by kernel_rfl)) (by rw [hD]; simp))
        have q7 := (hC n15).cell (BX2.cell 0 _ rfl) hgP
        refine wpOp_step (by simp only [List.getElem?_toArray, List.getElem?_cons_succ, List.getElem?_cons_zero]; rfl) (fun K hK => ?_)
        go_simp
        refine hK _ _ ⟨[.pointer (some ⟨g, 0, none⟩), .slice (some ⟨qb, 0, none⟩) n c, v58, v59, v60, v61, v62, v63, v64, v65, v66, v67, v68, v69, v70], ?_, _, _, _, _, _, _, _, _, _, _, _, _, _, _, _, rfl, hb, hC, hzz, hown, hE, (fun _ => rfl), (fun _ => rfl), k2, k3, k4, k5, k6, k7, k8, k9, k10, k11, k12, k13, k14, k15⟩
        simp only [putAll, List.setIfInBounds_toArray, List.set_cons_succ, List.set_cons_zero] <;> rfl
      · refine wpOp_step (by simp only [List.getElem?_toArray, List.getElem?_cons_succ, List.getElem?_cons_zero]; rfl) (fun K hK => ?_)
        go_simp
        refine hK _ _ ⟨[v56, v57, .int .i64 (k : Int), v59, v60, v61, v62, v63, v64, v65, v66, v67, v68, v69, v70], ?_, _, _, _, _, _, _, _, _, _, _, _, _, _, _, _, rfl, hb, hC, hzz, hown, hE, k0, k1, (fun _ => rfl), k3, k4, k5, k6, k7, k8, k9, k10, k11, k12, k13, k14, k15⟩
        simp only [putAll, List.setIfInBounds_toArray, List.set_cons_succ, List.set_cons_zero] <;> rfl
      · refine wpOp_step (by simp only [List.getElem?_toArray, List.getElem?_cons_succ, List.getElem?_cons_zero]; rfl) (fun K hK => ?_)
        go_simp
        refine hK _ _ ⟨[v56, v57, v58, .slice P qn cp, v60, v61, v62, v63, v64, v65, v66, v67, v68, v69, v70], ?_, _, _, _, _, _, _, _, _, _, _, _, _, _, _, _, rfl, hb, hC, hzz, hown, hE, k0, k1, k2, (fun _ => rfl), k4, k5, k6, k7, k8, k9, k10, k11, k12, k13, k14, k15⟩
        simp only [putAll, List.setIfInBounds_toArray, List.set_cons_succ, List.set_cons_zero] <;> rfl
      · refine wpOp_step (by simp only [List.getElem?_toArray, List.getElem?_cons_succ, List.getElem?_cons_zero]; rfl) (fun K hK => ?_)
        go_simp
        refine hK _ _ ⟨[v56, v57, v58, v59, .pointer (some ⟨g + 1, 4, none⟩), v61, v62, v63, v64, v65, v66, v67, v68, v69, v70], ?_, _, _, _, _, _, _, _, _, _, _, _, _, _, _, _, rfl, hb, hC, hzz, hown, hE, k0, k1, k2, k3, (fun _ => rfl), k5, k6, k7, k8, k9, k10, k11, k12, k13, k14, k15⟩
        simp only [putAll, List.setIfInBounds_toArray, List.set_cons_succ, List.set_cons_zero] <;> rfl
      · have e4 := k4 (hdep 4 (by kernel_rfl))
        subst e4
        have n15 : D 15 = false := Bool.eq_false_iff.2 (fun h => absurd (hcl 10 5 (hcl 11 10 (hcl 12 11 (hcl 15 12 h (by kernel_rfl)) (by kernel_rfl)) (by kernel_rfl)) (by kernel_rfl)) (by rw [hD]; simp))
        have q7 := (hC n15).cell (BM2.cell 4 _ rfl) hg1P
        refine wpOp_step (by simp only [List.getElem?_toArray, List.getElem?_cons_succ, List.getElem?_cons_zero]; rfl) (fun K hK => ?_)
        go_simp
        refine hK _ _ ⟨[v56, v57, v58, v59, .pointer (some ⟨g + 1, 4, none⟩), .string m.nm, v62, v63, v64, v65, v66, v67, v68, v69, v70], ?_, _, _, _, _, _, _, _, _, _, _, _, _, _, _, _, rfl, hb, hC, hzz, hown, hE, k0, k1, k2, k3, (fun _ => rfl), (fun _ => rfl), k6, k7, k8, k9, k10, k11, k12, k13, k14, k15⟩
        simp only [putAll, List.setIfInBounds_toArray, List.set_cons_succ, List.set_cons_zero] <;> rfl
      · have n9 : D 9 = false := Bool.eq_false_iff.2 (fun h => absurd (hcl 9 6 h (by kernel_rfl)) (by rw [hD]; simp))
        have n10 : D 10 = false := Bool.eq_false_iff.2 (fun h => absurd (hcl 9 6 (hcl 10 9 h (by kernel_rfl)) (by kernel_rfl)) (by rw [hD]; simp))
        have n11 : D 11 = false := Bool.eq_false_iff.2 (fun h => absurd (hcl 9 6 (hcl 10 9 (hcl 11 10 h (by kernel_rfl)) (by kernel_rfl)) (by kernel_rfl)) (by rw [hD]; simp))
        have n12 : D 12 = false := Bool.eq_false_iff.2 (fun h => absurd (hcl 9 6 (hcl 10 9 (hcl 11 10 (hcl 12 11 h (by kernel_rfl)) (by kernel_rfl)) (by kernel_rfl)) (by kernel_rfl)) (by rw [hD]; simp))
        have n15 : D 15 = false := Bool.eq_false_iff.2 (fun h => absurd (hcl 9 6 (hcl 10 9 (hcl 11 10 (hcl 12 11 (hcl 15 12 h (by kernel_rfl)) (by kernel_rfl)) (by kernel_rfl)) (by kernel_rfl)) (by kernel_rfl)) (by rw [hD]; simp))
        have hal := (Below.refl w'.heap.size w').alloc (Nat.le_refl _) (.cells #[] 9)
        have hzl : (w'.alloc (.cells #[] 9)).heap.size = w'.heap.size + 1 := Array.size_push _
        refine wpOp_step (by simp only [List.getElem?_toArray, List.getElem?_cons_succ, List.getElem?_cons_zero]; rfl) (fun K hK => ?_)
        go_simp
        refine hK _ _ ⟨[v56, v57, v58, v59, v60, v61, .slice (some ⟨w'.heap.size, 0, none⟩) 0 0, v63, v64, v65, v66, v67, v68, v69, v70], ?_, _, _, _, _, _, _, _, _, _, _, _, _, _, _, _, rfl, (fun h' => bthen (hb h') hal), (fun h' => (hC h').trans (Ch.of_below hal)), (Nat.le_trans hzz hal.size), (fun h' => own_chL (hown h') (Ch.of_below (S := fun _ => False) hal) (fun _ _ h => h)), (fun h' => (hE h').keep snpK hal), k0, k1, k2, k3, k4, k5, (fun _ _ => ⟨_, rfl, own_empty w' _ _ (Nat.zero_le _), hzz, by omega⟩), k7, k8, (fun h => by rw [show D 9 = true from by simpa using h] at n9; cases n9), (fun h => by rw [show D 10 = true from by simpa using h] at n10; cases n10), (fun h => by rw [show D 11 = true from by simpa using h] at n11; cases n11), (fun h => by rw [show D 12 = true from by simpa using h] at n12; cases n12), k13, k14, (fun h => by rw [show D 15 = true from by simpa using h] at n15; cases n15)⟩
        simp only [putAll, List.setIfInBounds_toArray, List.set_cons_succ, List.set_cons_zero] <;> rfl
      · refine wpOp_step (by simp only [List.getElem?_toArray, List.getElem?_cons_succ, List.getElem?_cons_zero]; rfl) (fun K hK => ?_)
        go_simp
        refine hK _ _ ⟨[v56, v57, v58, v59, v60, v61, v62, .pointer (some ⟨g + 1, 7, none⟩), v64, v65, v66, v67, v68, v69, v70], ?_, _, _, _, _, _, _, _, _, _, _, _, _, _, _, _, rfl, hb, hC, hzz, hown, hE, k0, k1, k2, k3, k4, k5, k6, (fun _ => rfl), k8, k9, k10, k11, k12, k13, k14, k15⟩
        simp only [putAll, List.setIfInBounds_toArray, List.set_cons_succ, List.set_cons_zero] <;> rfl
      · have e7 := k7 (hdep 7 (by kernel_rfl))
        subst e7
        have n15 : D 15 = false := Bool.eq_false_iff.2 (fun h => absurd (hcl 9 8 (hcl 10 9 (hcl 11 10 (hcl 12 11 (hcl 15 12 h (by kernel_rfl)) (by kernel_rfl)) (by kernel_rfl)) (by kernel_rfl)) (by kernel_rfl)) (by rw [hD]; simp))
        have q7 := (hC n15).cell (BM2.cell 7 _ rfl) hg1P
        refine wpOp_step (by simp only [List.getElem?_toArray, List.getElem?_cons_succ, List.getElem?_cons_zero]; rfl) (fun K hK => ?_)
        go_simp
        refine hK _ _ ⟨[v56, v57, v58, v59, v60, v61, v62, .pointer (some ⟨g + 1, 7, none⟩), .slice A1 n1 c1, v65, v66, v67, v68, v69, v70], ?_, _, _, _, _, _, _, _, _, _, _, _, _, _, _, _, rfl, hb, hC, hzz, hown, hE, k0, k1, k2, k3, k4, k5, k6, (fun _ => rfl), (fun _ => rfl), k9, k10, k11, k12, k13, k14, k15⟩
        simp only [putAll, List.setIfInBounds_toArray, List.set_cons_succ, List.set_cons_zero] <;> rfl
      · obtain z6 := k6 (hdep 6 (by kernel_rfl))
        have e8 := k8 (hdep 8 (by kernel_rfl))
        subst e8
        have n10 : D 10 = false := Bool.eq_false_iff.2 (fun h => absurd (hcl 10 9 h (by kernel_rfl)) (by rw [hD]; simp))
        have n11 : D 11 = false := Bool.eq_false_iff.2 (fun h => absurd (hcl 10 9 (hcl 11 10 h (by kernel_rfl)) (by kernel_rfl)) (by rw [hD]; simp))
        have n12 : D 12 = false := Bool.eq_false_iff.2 (fun h => absurd (hcl 10 9 (hcl 11 10 (hcl 12 11 h (by kernel_rfl)) (by kernel_rfl)) (by kernel_rfl)) (by rw [hD]; simp))
        have n15 : D 15 = false := Bool.eq_false_iff.2 (fun h => absurd (hcl 10 9 (hcl 11 10 (hcl 12 11 (hcl 15 12 h (by kernel_rfl)) (by kernel_rfl)) (by kernel_rfl)) (by kernel_rfl)) (by rw [hD]; simp))
        obtain ⟨gm, rfl, hm0, hgm1, hgm2⟩ := z6 hD
        refine wpOp_step (by simp only [List.getElem?_toArray, List.getElem?_cons_succ, List.getElem?_cons_zero]; rfl) (fun K hK => ?_)
        refine step_app (by rfl) (.tmp 62) (.tmp 64) 46 (by rfl) 0 9 _ 1 16 Tryz.underlying46 infoString rfl (by omega) (.slice (some ⟨gm, 0, none⟩) 0 0) 0 [] (by rfl) hm0 A1 n1 c1 (m.ch.map Value.string) (by rfl) (mV.keep (hb n12)).at_r'.cells (strsT_one _) mV.nilcap (by unfold maxLen; omega) (by omega) (Nat.zero_le _) ?_
        intro E2 ed2 wq2 own5 hg5 hb5 hob5
        rw [List.nil_append] at own5
        simp only [Nat.zero_add] at own5 hob5 ⊢
        have hch5 : Ch (fun b => b = gm) w' wq2 := (Ch.of_grow hg5).mono (fun b hb => by simpa [Value.ownBlock, eq_comm] using hb)
        have hbk := blk_at2' hob5
        have hbb : Below V.heap.size V wq2 := hch5.belowB (hb n12) hzz (fun b hb => by have hb : b = gm := hb; omega)
        have hz5 := hch5.size
        have so2 : StrO (blkL E2) wq2 E2 n1 ed2 m.ch := StrO.mk' own5
        refine hK _ _ ⟨[v56, v57, v58, v59, v60, v61, .slice (some ⟨gm, 0, none⟩) 0 0, v63, .slice A1 n1 c1, .slice E2 n1 ed2, v66, v67, v68, v69, v70], ?_, _, _, _, _, _, _, _, _, _, _, _, _, _, _, _, rfl, (fun _ => hbb), (fun _ => Ch.of_below (S := fun t => t ∈ blkL P) hbb), (Nat.le_trans hzz hz5), (fun h' => own_chL (hown h') hch5 (fun b hb e => by have h5 := hPb b hb; have e : b = gm := e; omega)), (fun h' => (hE h').ch snpK hch5 (fun b hb e => by have h5 := hlt2 b hb; have e : b = gm := e; omega)), k0, k1, k2, k3, k4, k5, (fun _ h => absurd h (by simp)), k7, (fun _ => rfl), (fun _ _ => ⟨E2, ed2, blkL E2, rfl, (by cases E2 <;> simp [blkL]), (fun b hb => ⟨by rcases hbk b hb with h | h; (have h : b = gm := h; omega); (have h : b = w'.heap.size := h; omega), (own_lo own5 b hb).2⟩), so2⟩), (fun h => by rw [show D 10 = true from by simpa using h] at n10; cases n10), (fun h => by rw [show D 11 = true from by simpa using h] at n11; cases n11), (fun h => by rw [show D 12 = true from by simpa using h] at n12; cases n12), k13, k14, (fun h => by rw [show D 15 = true from by simpa using h] at n15; cases n15)⟩
        simp only [Act.put, putAll, List.setIfInBounds_toArray, List.set_cons_succ, List.set_cons_zero] <;> rfl
      · have e5 := k5 (hdep 5 (by kernel_rfl))
        subst e5
        obtain z9 := k9 (hdep 9 (by kernel_rfl))
        obtain ⟨E2, ed2, f2, rfl, hn2, hf2, so2⟩ := z9 hD
        refine wpOp_step (by simp only [List.getElem?_toArray, List.getElem?_cons_succ, List.getElem?_cons_zero]; rfl) (fun K hK => ?_)
        go_simp
        refine hK _ _ ⟨[v56, v57, v58, v59, v60, .string m.nm, v62, v63, v64, .slice E2 n1 ed2, .agg #[.string m.nm, .string ByteArray.empty, .slice E2 n1 ed2], v67, v68, v69, v70], ?_, _, _, _, _, _, _, _, _, _, _, _, _, _, _, _, rfl, hb, hC, hzz, hown, hE, k0, k1, k2, k3, k4, (fun _ => rfl), (fun _ h => by have d9 := hdep 9 (by kernel_rfl); rw [show D 9 = false from by simpa using h] at d9; cases d9), k7, k8, (fun _ h => absurd h (by simp)), (fun _ _ => ⟨E2, ed2, f2, rfl, hn2, hf2, so2⟩), k11, k12, k13, k14, k15⟩
        simp only [putAll, List.setIfInBounds_toArray, List.set_cons_succ, List.set_cons_zero] <;> rfl
      · obtain z10 := k10 (hdep 10 (by kernel_rfl))
        have n12 : D 12 = false := Bool.eq_false_iff.2 (fun h => absurd (hcl 12 11 h (by kernel_rfl)) (by rw [hD]; simp))
        have n15 : D 15 = false := Bool.eq_false_iff.2 (fun h => absurd (hcl 12 11 (hcl 15 12 h (by kernel_rfl)) (by kernel_rfl)) (by rw [hD]; simp))
        obtain ⟨E2, ed2, f2, rfl, hn2, hf2, so2⟩ := z10 hD
        have hal := (Below.refl w'.heap.size w').alloc (Nat.le_refl _) (.cells #[.string m.nm, .string ByteArray.empty, .slice E2 n1 ed2] 195)
        refine wpOp_step (by simp only [List.getElem?_toArray, List.getElem?_cons_succ, List.getElem?_cons_zero]; rfl) (fun K hK => ?_)
        go_simp
        refine hK _ _ ⟨[v56, v57, v58, v59, v60, v61, v62, v63, v64, v65, .agg #[.string m.nm, .string ByteArray.empty, .slice E2 n1 ed2], .slice (some ⟨w'.heap.size, 0, none⟩) 1 1, v68, v69, v70], ?_, _, _, _, _, _, _, _, _, _, _, _, _, _, _, _, rfl, (fun h' => bthen (hb h') hal), (fun h' => (hC h').trans (Ch.of_below hal)), (Nat.le_trans hzz hal.size), (fun h' => own_chL (hown h') (Ch.of_below (S := fun _ => False) hal) (fun _ _ h => h)), (fun h' => (hE h').keep snpK hal), k0, k1, k2, k3, k4, k5, (fun _ h => by have d9 := hcl 10 9 (hdep 10 (by kernel_rfl)) (by kernel_rfl); rw [show D 9 = false from by simpa using h] at d9; cases d9), k7, k8, (fun _ h => by have d9 := hdep 10 (by kernel_rfl); rw [show D 10 = false from by simpa using h] at d9; cases d9), (fun _ h => absurd h (by simp)), (fun _ _ => ⟨_, E2, ed2, f2, rfl, new1c _ [.string m.nm, .string ByteArray.empty, .slice E2 n1 ed2] 3 rfl _, hn2, fun b hb => ⟨(hf2 b hb).1, Nat.lt_of_lt_of_le (hf2 b hb).2 hal.size⟩, so2.keep hal⟩), (fun h => by rw [show D 12 = true from by simpa using h] at n12; cases n12), k13, k14, (fun h => by rw [show D 15 = true from by simpa using h] at n15; cases n15)⟩
        simp only [putAll, List.setIfInBounds_toArray, List.set_cons_succ, List.set_cons_zero] <;> rfl
      · have e3 := k3 (hdep 3 (by kernel_rfl))
        subst e3
        obtain z11 := k11 (hdep 11 (by kernel_rfl))
        have n15 : D 15 = false := Bool.eq_false_iff.2 (fun h => absurd (hcl 15 12 h (by kernel_rfl)) (by rw [hD]; simp))
        obtain ⟨gb, E2, ed2, f2, rfl, hcl4, hn2, hf2, so2⟩ := z11 hD
        refine wpOp_step (by simp only [List.getElem?_toArray, List.getElem?_cons_succ, List.getElem?_cons_zero]; rfl) (fun K hK => ?_)
        refine step_app (by rfl) (.tmp 59) (.tmp 67) 163 (by rfl) 0 195 _ 3 56 Tryz.underlying163 snpInfo rfl (by omega) (.slice P qn cp) qn css.flatten (by rfl) (hown hD) (some ⟨gb, 0, none⟩) 1 1 [.string m.nm, .string ByteArray.empty, .slice E2 n1 ed2] (by rfl) hcl4 (by simp [Value.oneCell']) (fun h => by cases h) (by unfold maxLen; omega) (by omega) (Nat.zero_le _) ?_
        intro A' c' wq2 own5 hg5 hb5 hob5
        have hNN : ((blkL P ++ fps.flatten) ++ f2).Nodup := nodup_new (m := V.heap.size) hNP hn2 (fun x hx => by rcases List.mem_append.1 hx with h | h; (exact (hPb x h).2); (have := hlt2 x h; omega)) (fun x hx => (hf2 x hx).1)
        obtain ⟨fp', RO5, hN5, hF5, hc5⟩ := row_app1 (x := (⟨m.nm, ByteArray.empty, m.ch⟩ : Snp)) snpK HLQ.out (hE hD) (snpF_of (y := (⟨m.nm, ByteArray.empty, m.ch⟩ : Snp)) so2) hNN own5 hg5 hob5 (Nat.le_refl _)
        refine hK _ _ ⟨[v56, v57, v58, .slice P qn cp, v60, v61, v62, v63, v64, v65, v66, .slice (some ⟨gb, 0, none⟩) 1 1, .slice A' (qn + 1) c', v69, v70], ?_, _, _, _, _, _, _, _, _, _, _, _, _, _, _, _, rfl, (fun h => absurd h (by simp)), (fun h' => (hC h').trans hc5), (Nat.le_trans hzz hc5.size), (fun h => absurd h (by simp)), (fun h => absurd h (by simp)), k0, k1, k2, (fun _ => rfl), k4, k5, (fun _ h => by have d9 := hcl 10 9 (hcl 11 10 (hdep 11 (by kernel_rfl)) (by kernel_rfl)) (by kernel_rfl); rw [show D 9 = false from by simpa using h] at d9; cases d9), k7, k8, (fun _ h => by have d9 := hcl 11 10 (hdep 11 (by kernel_rfl)) (by kernel_rfl); rw [show D 10 = false from by simpa using h] at d9; cases d9), (fun _ h => by have d9 := hdep 11 (by kernel_rfl); rw [show D 11 = false from by simpa using h] at d9; cases d9), (fun _ h => absurd h (by simp)), (fun _ _ => ⟨A', c', fp', rfl, RO5, hN5, fun b hb => by have h3 := hF5 b hb; have h5 := hf2 b; rcases h3 with h1 | h1 | h1; (exact .inl h1); (exact .inr (h5 h1).1); (exact .inr (by omega))⟩), k13, k14, (fun h => by rw [show D 15 = true from by simpa using h] at n15; cases n15)⟩
        simp only [Act.put, putAll, List.setIfInBounds_toArray, List.set_cons_succ, List.set_cons_zero] <;> rfl
      · have e1 := k1 (hdep 1 (by kernel_rfl))
        subst e1
        have e2 := k2 (hdep 2 (by kernel_rfl))
        subst e2
        refine wpOp_step (by simp only [List.getElem?_toArray, List.getElem?_cons_succ, List.getElem?_cons_zero]; rfl) (fun K hK => ?_)
        go_simp
        refine hK _ _ ⟨[v56, .slice (some ⟨qb, 0, none⟩) n c, .int .i64 (k : Int), v59, v60, v61, v62, v63, v64, v65, v66, v67, v68, .pointer (some ⟨qb, k * 2, none⟩), v70], ?_, _, _, _, _, _, _, _, _, _, _, _, _, _, _, _, rfl, hb, hC, hzz, hown, hE, k0, (fun _ => rfl), (fun _ => rfl), k3, k4, k5, k6, k7, k8, k9, k10, k11, k12, (fun _ => rfl), k14, k15⟩
        simp only [putAll, List.setIfInBounds_toArray, List.set_cons_succ, List.set_cons_zero] <;> rfl
      · have e13 := k13 (hdep 13 (by kernel_rfl))
        subst e13
        refine wpOp_step (by simp only [List.getElem?_toArray, List.getElem?_cons_succ, List.getElem?_cons_zero]; rfl) (fun K hK => ?_)
        go_simp
        refine hK _ _ ⟨[v56, v57, v58, v59, v60, v61, v62, v63, v64, v65, v66, v67, v68, .pointer (some ⟨qb, k * 2, none⟩), .pointer (some ⟨qb, k * 2 + 1, none⟩)], ?_, _, _, _, _, _, _, _, _, _, _, _, _, _, _, _, rfl, hb, hC, hzz, hown, hE, k0, k1, k2, k3, k4, k5, k6, k7, k8, k9, k10, k11, k12, (fun _ => rfl), (fun _ => rfl), k15⟩
        simp only [putAll, List.setIfInBounds_toArray, List.set_cons_succ, List.set_cons_zero] <;> rfl
      · obtain z12 := k12 (hdep 12 (by kernel_rfl))
        have e14 := k14 (hdep 14 (by kernel_rfl))
        subst e14
        obtain ⟨A', c', fp', rfl, RO5, hN5, hF5⟩ := z12 hD
        have q7 := (hC hD).cell cc1 hqP
        have y7 : w'.frozen? ⟨qb, k * 2 + 1, none⟩ = false := (World.frozen?_of_block ((hC hD).block qb hqV hqP)).trans cfz
        have d12 : D 12 = true := hdep 12 (by kernel_rfl)
        have one : Ch (fun k => k = qb) w' (w'.setCell ⟨qb, k * 2 + 1, none⟩ (.slice A' (qn + 1) c')) := Ch.set
        refine wpOp_step (by simp only [List.getElem?_toArray, List.getElem?_cons_succ, List.getElem?_cons_zero]; rfl) (fun K hK => ?_)
        go_simp
        refine hK _ _ ⟨[v56, v57, v58, v59, v60, v61, v62, v63, v64, v65, v66, v67, .slice A' (qn + 1) c', v69, .pointer (some ⟨qb, k * 2 + 1, none⟩)], ?_, _, _, _, _, _, _, _, _, _, _, _, _, _, _, _, rfl, (fun h' => by rw [show D 12 = false from by simpa using h'] at d12; cases d12), (fun h => absurd h (by simp)), (Nat.le_trans hzz one.size), (fun h' => by rw [show D 12 = false from by simpa using h'] at d12; cases d12), (fun h' => by rw [show D 12 = false from by simpa using h'] at d12; cases d12), k0, k1, k2, k3, k4, k5, (fun _ h => by have d9 := hcl 10 9 (hcl 11 10 (hcl 12 11 (hdep 12 (by kernel_rfl)) (by kernel_rfl)) (by kernel_rfl)) (by kernel_rfl); rw [show D 9 = false from by simpa using h] at d9; cases d9), k7, k8, (fun _ h => by have d9 := hcl 11 10 (hcl 12 11 (hdep 12 (by kernel_rfl)) (by kernel_rfl)) (by kernel_rfl); rw [show D 10 = false from by simpa using h] at d9; cases d9), (fun _ h => by have d9 := hcl 12 11 (hdep 12 (by kernel_rfl)) (by kernel_rfl); rw [show D 11 = false from by simpa using h] at d9; cases d9), (fun _ h => by rw [show D 12 = false from by simpa using h] at d12; cases d12), (fun _ h => absurd h (by simp)), k13, (fun _ => rfl), (fun _ => ⟨w', A', c', fp', rfl, hC hD, RO5, hN5, hF5⟩)⟩
        simp only [putAll, List.setIfInBounds_toArray, List.set_cons_succ, List.set_cons_zero] <;> rfl
    · intro D vs w' hD hI
      obtain ⟨v56, v57, v58, v59, v60, v61, v62, v63, v64, v65, v66, v67, v68, v69, v70, rfl, hb, hC, hzz, hown, hE, k0, k1, k2, k3, k4, k5, k6, k7, k8, k9, k10, k11, k12, k13, k14, k15⟩ := hI
      simp only [putAll, List.setIfInBounds_toArray, List.set_cons_succ, List.set_cons_zero]
      obtain ⟨wa, A', c', fp', rfl, hCa, ROa, hNa, hFa⟩ := k15 (hD 15 (show 15 < 16 by decide))
      clear hD hb hC hown hE
      have hba : Below w1.heap.size w1 wa := hCa.belowB hbV hzV (fun b hb => (hPb b hb).1)
      have SR := C.put (m := m) (x' := comS y m) (by unfold setDo; rw [if_pos K3.out, if_neg (by rw [T.out]; have := HT0.out; omega), if_neg (by have h5 := H5.out; have h6 := C.S.len; omega)]) rfl (Ch.of_below hba) ROa (fun b hb => by rcases hFa b hb with h | h; (rcases List.mem_append.1 h with h2 | h2; (exact .inr (hPb b h2).1); (exact .inl (hnn1 b h2))); (exact .inr (by omega))) hNa hk (Below.refl _ _)
      have BXa := BX1.keep hba; have BOa := BO1.keep hba
      have cs := Ch.set (w := wa) (g := qb) (o := k * 2 + 1) (v := .slice A' (qn + 1) c')
      have BX3 := BXa.ch cs (ne_blk (by omega)); have BO3 := BOa.ch cs (ne_blk (by omega))
      obtain ⟨w3, hw3⟩ : ∃ w3, w3 = wa.setCell ⟨qb, k * 2 + 1, none⟩ (.slice A' (qn + 1) c') := ⟨_, rfl⟩
      rw [← hw3] at SR BX3 BO3 ⊢
      clear hw3 BXa BOa cs hCa ROa BX2 BM2 BO2 cc1 cfz hzz CV own2 EV EQ ownQ
      have x0 := BX3.cell 0 _ rfl; have o0 := BO3.cell 0 _ rfl; have of := BO3.fz 0 (by simp); have l0 := BX3.lt; have l2 := BO3.lt
      have hWr := (BO3.set (v := .slice (some ⟨qb, 0, none⟩) n c) (j := 0) (by simp)).range
      simp only [List.set_cons_zero] at hWr
      go_wp2
      refine bodyPost_ret (results_cell_tmp Tryz.results167 rfl hWr Tryz.underlying27 rfl sizeCat0) rfl ?_
      exact cat_done (t := okT) SR hB1 HNQ.out hFB HBW.out (p := g + 2) (by have := HG.out; omega) (by omega) Ch.set K2.out
  have g3 : (m.kd == (3 : Int)) = false := beq_eq_false_iff_ne.2 k3
  have K3 := Lib.hid k3; clear k3
  by_cases k4 : m.kd = 4
  · have g4 : (m.kd == (4 : Int)) = true := beq_iff_eq.2 k4
    have K4 := Lib.hid k4; clear k4
    by_cases ht0 : t < 0
    · have gd : decide (t < 0) = true := decide_eq_true ht0
      have SR := C.same (m := m) A1' hN (show setDo y m = (y, noT) by unfold setDo; rw [if_neg K3.out, if_pos K4.out, if_pos (by rw [T.out]; exact ht0)]) (Below.refl _ w1)
      clear ht0
      have hWr := (BO1.set (v := .slice (some ⟨qb, 0, none⟩) n c) (j := 0) (by simp)).range
      simp only [List.set_cons_zero] at hWr
      go_wp2
      refine bodyPost_ret (results_cell_tmp Tryz.results167 rfl hWr Tryz.underlying27 rfl sizeCat0) rfl ?_
      exact cat_done (t := noT) SR hB1 HNQ.out hFB HBW.out (p := g + 2) (by have := HG.out; omega) (by omega) Ch.set K2.out
    have gd : decide (t < 0) = false := decide_eq_false ht0
    obtain ⟨j, rfl⟩ : ∃ j : Nat, t = (j : Int) := ⟨t.toNat, by omega⟩
    have hjn : j < qn := by
      rcases snpFnd_in m.nm y.snaps 0 with ⟨h5, _⟩ | ⟨i, hi, h5, _⟩
      · rw [T.out] at h5; omega
      · rw [T.out] at h5; have := C.S.len; omega
    have hji : (j : Int) < (qn : Int) := by omega
    have hjj : ¬ ((j : Int) < 0) := by omega
    obtain ⟨sb, rfl⟩ : ∃ sb, Q = some ⟨sb, 0, none⟩ := by
      obtain ⟨css, fps, _, own, _, _⟩ := C.S.ex
      rcases own_form own with ⟨_, h5, _⟩ | ⟨s5, rfl, _⟩
      · omega
      · exact ⟨s5, rfl⟩
    have hST := snp_tag m.tg C.S C.Nf hjn
    have hsf := hST.2.2.1
    have hsg : sb < g := hnq sb (fqw sb hsf)
    have cc1 := C.c1
    have HST := Lib.hid hST; clear hST ht0
    go_wp2_with fail
    refine wp_region_dagb [77, 78, 79, 80, 81, 82, 83, 84, 85, 86, 87] (by kernel_rfl) (by kernel_rfl) (fun D vs w' => ∃ v77 v78 v79 v80 v81 v82 v83 v84 v85 v86 v87 : Value, vs = [v77, v78, v79, v80, v81, v82, v83, v84, v85, v86, v87] ∧ (D 11 = false → Below w1.heap.size w1 w') ∧ (D 0 = true → v77 = .pointer (some ⟨g, 0, none⟩)) ∧ (D 1 = true → v78 = .slice (some ⟨qb, 0, none⟩) n c) ∧ (D 2 = true → v79 = .int .i64 (k : Int)) ∧ (D 3 = true → v80 = .pointer (some ⟨qb, k * 2, none⟩)) ∧ (D 4 = true → v81 = .pointer (some ⟨qb, k * 2 + 1, none⟩)) ∧ (D 5 = true → v82 = .slice (some ⟨sb, 0, none⟩) qn qc) ∧ (D 6 = true → v83 = .int .i64 (j : Int)) ∧ (D 7 = true → v84 = .pointer (some ⟨g + 1, 5, none⟩)) ∧ (D 8 = true → v85 = .string m.tg) ∧ (D 9 = true → v86 = .pointer (some ⟨sb, j * 3, none⟩)) ∧ (D 10 = true → v87 = .pointer (some ⟨sb, j * 3 + 1, none⟩)) ∧ (D 11 = true → ∃ w2 : World, w' = w2.setCell ⟨sb, j * 3 + 1, none⟩ (.string m.tg) ∧ Below w1.heap.size w1 w2))
      ⟨_, _, _, _, _, _, _, _, _, _, _, rfl, (fun _ => (Below.refl _ _).drew), (fun h => by cases h), (fun h => by cases h), (fun h => by cases h), (fun h => by cases h), (fun h => by cases h), (fun h => by cases h), (fun h => by cases h), (fun h => by cases h), (fun h => by cases h), (fun h => by cases h), (fun h => by cases h), (fun h => by cases h)⟩ ?_ ?_
    · intro i D vs w' hi hD hdep hcl hI
      have hi' : i < 12 := hi
      obtain ⟨v77, v78, v79, v80, v81, v82, v83, v84, v85, v86, v87, rfl, hb, k0, k1, k2, k3, k4, k5, k6, k7, k8, k9, k10, k11⟩ := hI
      simp only [putAll, List.setIfInBounds_toArray, List.set_cons_succ, List.set_cons_zero]
      rcases (show i = 0 ∨ i = 1 ∨ i = 2 ∨ i = 3 ∨ i = 4 ∨ i = 5 ∨ i = 6 ∨ i = 7 ∨ i = 8 ∨ i = 9 ∨ i = 10 ∨ i = 11 by omega) with rfl | rfl | rfl | rfl | rfl | rfl | rfl | rfl | rfl | rfl | rfl | rfl
      · refine wpOp_step (by simp only [List.getElem?_toArray, List.getElem?_cons_zero]; rfl) (fun K hK => ?_)
        go_simp
        refine hK _ _ ⟨[.pointer (some ⟨g, 0, none⟩), v78, v79, v80, v81, v82, v83, v84, v85, v86, v87], ?_, _, _, _, _, _, _, _, _, _, _, _, rfl, hb, (fun _ => rfl), k1, k2, k3, k4, k5, k6, k7, k8, k9, k10, k11⟩
        simp only [putAll, List.setIfInBounds_toArray, List.set_cons_succ, List.set_cons_zero] <;> rfl
      · have e0 := k0 (hdep 0 (by kernel_rfl))
        subst e0
        have n11 : D 11 = false := Bool.eq_false_iff.2 (fun h => absurd (hcl 3 1 (hcl 4 3 (hcl 5 4 (hcl 9 5 (hcl 10 9 (hcl 11 10 h (by kernel_rfl)) (by kernel_rfl)) (by kernel_rfl)) (by kernel_rfl)) (by kernel_rfl)) (by kernel_rfl)) (by rw [hD]; simp))
        have q7 := keep_cell (hb n11) x0
        refine wpOp_step (by simp only [List.getElem?_toArray, List.getElem?_cons_succ, List.getElem?_cons_zero]; rfl) (fun K hK => ?_)
        go_simp
        refine hK _ _ ⟨[.pointer (some ⟨g, 0, none⟩), .slice (some ⟨qb, 0, none⟩) n c, v79, v80, v81, v82, v83, v84, v85, v86, v87], ?_, _, _, _, _, _, _, _, _, _, _, _, rfl, hb, (fun _ => rfl), (fun _ => rfl), k2, k3, k4, k5, k6, k7, k8, k9, k10, k11⟩
        simp only [putAll, List.setIfInBounds_toArray, List.set_cons_succ, List.set_cons_zero] <;> rfl
      · refine wpOp_step (by simp only [List.getElem?_toArray, List.getElem?_cons_succ, List.getElem?_cons_zero]; rfl) (fun K hK => ?_)
        go_simp
        refine hK _ _ ⟨[v77, v78, .int .i64 (k : Int), v80, v81, v82, v83, v84, v85, v86, v87], ?_, _, _, _, _, _, _, _, _, _, _, _, rfl, hb, k0, k1, (fun _ => rfl), k3, k4, k5, k6, k7, k8, k9, k10, k11⟩
        simp only [putAll, List.setIfInBounds_toArray, List.set_cons_succ, List.set_cons_zero] <;> rfl
      · have e1 := k1 (hdep 1 (by kernel_rfl))
        subst e1
        have e2 := k2 (hdep 2 (by kernel_rfl))
        subst e2
        refine wpOp_step (by simp only [List.getElem?_toArray, List.getElem?_cons_succ, List.getElem?_cons_zero]; rfl) (fun K hK => ?_)
        go_simp
        refine hK _ _ ⟨[v77, .slice (some ⟨qb, 0, none⟩) n c, .int .i64 (k : Int), .pointer (some ⟨qb, k * 2, none⟩), v81, v82, v83, v84, v85, v86, v87], ?_, _, _, _, _, _, _, _, _, _, _, _, rfl, hb, k0, (fun _ => rfl), (fun _ => rfl), (fun _ => rfl), k4, k5, k6, k7, k8, k9, k10, k11⟩
        simp only [putAll, List.setIfInBounds_toArray, List.set_cons_succ, List.set_cons_zero] <;> rfl
      · have e3 := k3 (hdep 3 (by kernel_rfl))
        subst e3
        refine wpOp_step (by simp only [List.getElem?_toArray, List.getElem?_cons_succ, List.getElem?_cons_zero]; rfl) (fun K hK => ?_)
        go_simp
        refine hK _ _ ⟨[v77, v78, v79, .pointer (some ⟨qb, k * 2, none⟩), .pointer (some ⟨qb, k * 2 + 1, none⟩), v82, v83, v84, v85, v86, v87], ?_, _, _, _, _, _, _, _, _, _, _, _, rfl, hb, k0, k1, k2, (fun _ => rfl), (fun _ => rfl), k5, k6, k7, k8, k9, k10, k11⟩
        simp only [putAll, List.setIfInBounds_toArray, List.set_cons_succ, List.set_cons_zero] <;> rfl
      · have e4 := k4 (hdep 4 (by kernel_rfl))
        subst e4
        have n11 : D 11 = false := Bool.eq_false_iff.2 (fun h => absurd (hcl 9 5 (hcl 10 9 (hcl 11 10 h (by kernel_rfl)) (by kernel_rfl)) (by kernel_rfl)) (by rw [hD]; simp))
        have q7 := keep_cell (hb n11) cc1
        refine wpOp_step (by simp only [List.getElem?_toArray, List.getElem?_cons_succ, List.getElem?_cons_zero]; rfl) (fun K hK => ?_)
        go_simp
        refine hK _ _ ⟨[v77, v78, v79, v80, .pointer (some ⟨qb, k * 2 + 1, none⟩), .slice (some ⟨sb, 0, none⟩) qn qc, v83, v84, v85, v86, v87], ?_, _, _, _, _, _, _, _, _, _, _, _, rfl, hb, k0, k1, k2, k3, (fun _ => rfl), (fun _ => rfl), k6, k7, k8, k9, k10, k11⟩
        simp only [putAll, List.setIfInBounds_toArray, List.set_cons_succ, List.set_cons_zero] <;> rfl
      · refine wpOp_step (by simp only [List.getElem?_toArray, List.getElem?_cons_succ, List.getElem?_cons_zero]; rfl) (fun K hK => ?_)
        go_simp
        refine hK _ _ ⟨[v77, v78, v79, v80, v81, v82, .int .i64 (j : Int), v84, v85, v86, v87], ?_, _, _, _, _, _, _, _, _, _, _, _, rfl, hb, k0, k1, k2, k3, k4, k5, (fun _ => rfl), k7, k8, k9, k10, k11⟩
        simp only [putAll, List.setIfInBounds_toArray, List.set_cons_succ, List.set_cons_zero] <;> rfl
      · refine wpOp_step (by simp only [List.getElem?_toArray, List.getElem?_cons_succ, List.getElem?_cons_zero]; rfl) (fun K hK => ?_)
        go_simp
        refine hK _ _ ⟨[v77, v78, v79, v80, v81, v82, v83, .pointer (some ⟨g + 1, 5, none⟩), v85, v86, v87], ?_, _, _, _, _, _, _, _, _, _, _, _, rfl, hb, k0, k1, k2, k3, k4, k5, k6, (fun _ => rfl), k8, k9, k10, k11⟩
        simp only [putAll, List.setIfInBounds_toArray, List.set_cons_succ, List.set_cons_zero] <;> rfl
      · have e7 := k7 (hdep 7 (by kernel_rfl))
        subst e7
        have n11 : D 11 = false := Bool.eq_false_iff.2 (fun h => absurd (hcl 11 8 h (by kernel_rfl)) (by rw [hD]; simp))
        have q7 := keep_cell (hb n11) (BM1.cell 5 _ rfl)
        refine wpOp_step (by simp only [List.getElem?_toArray, List.getElem?_cons_succ, List.getElem?_cons_zero]; rfl) (fun K hK => ?_)
        go_simp
        refine hK _ _ ⟨[v77, v78, v79, v80, v81, v82, v83, .pointer (some ⟨g + 1, 5, none⟩), .string m.tg, v86, v87], ?_, _, _, _, _, _, _, _, _, _, _, _, rfl, hb, k0, k1, k2, k3, k4, k5, k6, (fun _ => rfl), (fun _ => rfl), k9, k10, k11⟩
        simp only [putAll, List.setIfInBounds_toArray, List.set_cons_succ, List.set_cons_zero] <;> rfl
      · have e5 := k5 (hdep 5 (by kernel_rfl))
        subst e5
        have e6 := k6 (hdep 6 (by kernel_rfl))
        subst e6
        refine wpOp_step (by simp only [List.getElem?_toArray, List.getElem?_cons_succ, List.getElem?_cons_zero]; rfl) (fun K hK => ?_)
        go_simp
        refine hK _ _ ⟨[v77, v78, v79, v80, v81, .slice (some ⟨sb, 0, none⟩) qn qc, .int .i64 (j : Int), v84, v85, .pointer (some ⟨sb, j * 3, none⟩), v87], ?_, _, _, _, _, _, _, _, _, _, _, _, rfl, hb, k0, k1, k2, k3, k4, (fun _ => rfl), (fun _ => rfl), k7, k8, (fun _ => rfl), k10, k11⟩
        simp only [putAll, List.setIfInBounds_toArray, List.set_cons_succ, List.set_cons_zero] <;> rfl
      · have e9 := k9 (hdep 9 (by kernel_rfl))
        subst e9
        refine wpOp_step (by simp only [List.getElem?_toArray, List.getElem?_cons_succ, List.getElem?_cons_zero]; rfl) (fun K hK => ?_)
        go_simp
        refine hK _ _ ⟨[v77, v78, v79, v80, v81, v82, v83, v84, v85, .pointer (some ⟨sb, j * 3, none⟩), .pointer (some ⟨sb, j * 3 + 1, none⟩)], ?_, _, _, _, _, _, _, _, _, _, _, _, rfl, hb, k0, k1, k2, k3, k4, k5, k6, k7, k8, (fun _ => rfl), (fun _ => rfl), k11⟩
        simp only [putAll, List.setIfInBounds_toArray, List.set_cons_succ, List.set_cons_zero] <;> rfl
      · have e8 := k8 (hdep 8 (by kernel_rfl))
        subst e8
        have e10 := k10 (hdep 10 (by kernel_rfl))
        subst e10
        have q7 := keep_cell (hb hD) HST.out.1
        have y7 : w'.frozen? ⟨sb, j * 3 + 1, none⟩ = false := ((hb hD).frozen (p := ⟨sb, j * 3 + 1, none⟩) (by show sb < _; omega)).trans HST.out.2.1
        refine wpOp_step (by simp only [List.getElem?_toArray, List.getElem?_cons_succ, List.getElem?_cons_zero]; rfl) (fun K hK => ?_)
        go_simp
        refine hK _ _ ⟨[v77, v78, v79, v80, v81, v82, v83, v84, .string m.tg, v86, .pointer (some ⟨sb, j * 3 + 1, none⟩)], ?_, _, _, _, _, _, _, _, _, _, _, _, rfl, (fun h => absurd h (by simp)), k0, k1, k2, k3, k4, k5, k6, k7, (fun _ => rfl), k9, (fun _ => rfl), (fun _ => ⟨w', rfl, hb hD⟩)⟩
        simp only [putAll, List.setIfInBounds_toArray, List.set_cons_succ, List.set_cons_zero] <;> rfl
    · intro D vs w' hD hI
      obtain ⟨v77, v78, v79, v80, v81, v82, v83, v84, v85, v86, v87, rfl, hb, k0, k1, k2, k3, k4, k5, k6, k7, k8, k9, k10, k11⟩ := hI
      simp only [putAll, List.setIfInBounds_toArray, List.set_cons_succ, List.set_cons_zero]
      obtain ⟨w2, rfl, hb2⟩ := k11 (hD 11 (show 11 < 12 by decide))
      clear hD hb
      have C2 := C.keep hb2
      have hS2 := snp_tag m.tg C2.S C2.Nf hjn
      have SR2 := C2.tagged (m := m) (x' := tagS y m j) hN (by unfold setDo; rw [if_neg K3.out, if_pos K4.out, if_neg (by rw [T.out]; omega), T.out, Int.toNat_natCast]) rfl hS2.2.2.2.2 hS2.2.2.2.1 hk
      have SR := SR2.far' hb2
      have BX2 := BX1.keep hb2; have BO2 := BO1.keep hb2
      have cs := Ch.set (w := w2) (g := sb) (o := j * 3 + 1) (v := .string m.tg)
      have BX3 := BX2.ch cs (ne_blk (by omega)); have BO3 := BO2.ch cs (ne_blk (by omega))
      obtain ⟨w3, hw3⟩ : ∃ w3, w3 = w2.setCell ⟨sb, j * 3 + 1, none⟩ (.string m.tg) := ⟨_, rfl⟩
      rw [← hw3] at SR BX3 BO3 ⊢
      clear hw3 x0 xf o0 of u0 u6 z0 z1 l0 l1 l2 l3 cc1 BX2 BO2 cs SR2 hS2 C2
      have x0 := BX3.cell 0 _ rfl; have o0 := BO3.cell 0 _ rfl; have of := BO3.fz 0 (by simp); have l0 := BX3.lt; have l2 := BO3.lt
      have hWr := (BO3.set (v := .slice (some ⟨qb, 0, none⟩) n c) (j := 0) (by simp)).range
      simp only [List.set_cons_zero] at hWr
      go_wp2
      refine bodyPost_ret (results_cell_tmp Tryz.results167 rfl hWr Tryz.underlying27 rfl sizeCat0) rfl ?_
      exact cat_done (t := okT) SR hB1 HNQ.out hFB HBW.out (p := g + 2) (by have := HG.out; omega) (by omega) Ch.set K2.out
  have g4 : (m.kd == (4 : Int)) = false := beq_eq_false_iff_ne.2 k4
  have K4 := Lib.hid k4; clear k4
  by_cases k5 : m.kd = 5
  · have g5 : (m.kd == (5 : Int)) = true := beq_iff_eq.2 k5
    have K5 := Lib.hid k5; clear k5
    go_wp2_with fail
    refine (prune_spec y.snaps m.n Q qn qc f w1 C.S C.Nf (by omega) h0 h9).mono ?_
    rintro e w2 ⟨P, pm, pc, fp', rfl, RP, NP, FP, hb2⟩
    have HSD := Lib.hid (show setDo y m = (⟨y.nm, pruL y.snaps (goneN y.snaps m.n.toNat)⟩, dgT (goneN y.snaps m.n.toNat)) by unfold setDo; rw [if_neg K3.out, if_neg K4.out, if_pos K5.out])
    have hG9 : goneN y.snaps m.n.toNat ≤ 9 := by have := bareTo_le y.snaps y.snaps.length; have := C.S.len; unfold goneN; omega
    have C2 := C.keep hb2
    have cc0 := C2.c0; have cc1 := C2.c1; have cfz := C2.fz
    have BX2 := BX1.keep hb2; have BO2 := BO1.keep hb2
    have hz2 := hb2.size
    have SR := C.put (m := m) (x' := ⟨y.nm, pruL y.snaps (goneN y.snaps m.n.toNat)⟩) HSD.out rfl (Ch.of_below hb2) RP FP NP hk (Below.refl _ _)
    have cq := Ch.set (w := w2) (g := qb) (o := k * 2 + 1) (v := .slice P pm pc)
    have BX3 := BX2.ch cq (ne_blk (by omega)); have BO3 := BO2.ch cq (ne_blk (by omega))
    clear x0 xf o0 of u0 u6 z0 z1 l0 l1 l2 l3
    have x0 := BX2.cell 0 _ rfl
    have l0 := BX2.lt; have l2 := BO2.lt
    have hqb2 : qb < w2.heap.size := by omega
    have HC2 := Lib.hid C2; clear C2
    go_wp2_with fail
    obtain ⟨w3, hw3⟩ : ∃ w3, w3 = w2.setCell ⟨qb, k * 2 + 1, none⟩ (.slice P pm pc) := ⟨_, rfl⟩
    rw [← hw3] at SR BX3 BO3 ⊢
    have hz3 : w2.heap.size ≤ w3.heap.size := by rw [hw3]; exact cq.size
    clear hw3 cc0 cc1 cfz x0 l0 l2 BX2 BO2 cq
    refine wp_region_dagb [105, 106, 107, 7] (by kernel_rfl) (by kernel_rfl) (fun D vs w' => ∃ v105 v106 v107 v7 : Value, vs = [v105, v106, v107, v7] ∧ Ch (fun b => b = g + 2) w3 w' ∧ (D 3 = false → BoxL w' (g + 2) [.slice none 0 0]) ∧ (D 0 = true → v105 = .agg #[.slice (some ⟨qb, 0, none⟩) n c]) ∧ (D 1 = true → v106 = .int .i64 ((goneN y.snaps m.n.toNat : Nat) : Int)) ∧ (D 2 = true → v107 = .string (dgT (goneN y.snaps m.n.toNat))) ∧ (D 3 = true → BoxL w' (g + 2) [.slice (some ⟨qb, 0, none⟩) n c]) ∧ (D 4 = true → v7 = .string (dgT (goneN y.snaps m.n.toNat))))
      ⟨_, _, _, _, rfl, (Ch.of_below (Below.refl _ _).drew), (fun _ => BO3.keep (Below.refl _ _).drew), (fun h => by cases h), (fun h => by cases h), (fun h => by cases h), (fun h => by cases h), (fun h => by cases h)⟩ ?_ ?_
    · intro i D vs w' hi hD hdep hcl hI
      have hi' : i < 5 := hi
      obtain ⟨v105, v106, v107, v7, rfl, hC, hO, k0, k1, k2, k3, k4⟩ := hI
      simp only [putAll, List.setIfInBounds_toArray, List.set_cons_succ, List.set_cons_zero]
      rcases (show i = 0 ∨ i = 1 ∨ i = 2 ∨ i = 3 ∨ i = 4 by omega) with rfl | rfl | rfl | rfl | rfl
      · have q7 := hC.cell (BX3.cell 0 _ rfl) (by omega)
        refine wpOp_step (by simp only [List.getElem?_toArray, List.getElem?_cons_zero]; rfl) (fun K hK => ?_)
        go_simp
        refine hK _ _ ⟨[.agg #[.slice (some ⟨qb, 0, none⟩) n c], v106, v107, v7], ?_, _, _, _, _, rfl, hC, hO, (fun _ => rfl), k1, k2, k3, k4⟩
        simp only [putAll, List.setIfInBounds_toArray, List.set_cons_succ, List.set_cons_zero] <;> rfl
      · refine wpOp_step (by simp only [List.getElem?_toArray, List.getElem?_cons_succ, List.getElem?_cons_zero]; rfl) (fun K hK => ?_)
        go_simp
        refine hK _ _ ⟨[v105, .int .i64 ((goneN y.snaps m.n.toNat : Nat) : Int), v107, v7], ?_, _, _, _, _, rfl, hC, hO, k0, (fun _ => rfl), k2, k3, k4⟩
        simp only [putAll, List.setIfInBounds_toArray, List.set_cons_succ, List.set_cons_zero] <;> rfl
      · have e1 := k1 (hdep 1 (by kernel_rfl))
        subst e1
        refine wpOp_step (by simp only [List.getElem?_toArray, List.getElem?_cons_succ, List.getElem?_cons_zero]; rfl) (fun K hK => ?_)
        go_simp
        refine (dec_spec (goneN y.snaps m.n.toNat) w' hG9).mono ?_
        rintro e w4_ ⟨rfl, hb4⟩
        refine hK _ _ ⟨[v105, .int .i64 ((goneN y.snaps m.n.toNat : Nat) : Int), .string (dgT (goneN y.snaps m.n.toNat)), v7], ?_, _, _, _, _, rfl, (hC.trans (Ch.of_below hb4)), (fun h' => (hO h').keep hb4), k0, (fun _ => rfl), (fun _ => rfl), (fun h' => (k3 h').keep hb4), k4⟩
        simp only [putAll, List.setIfInBounds_toArray, List.set_cons_succ, List.set_cons_zero] <;> rfl
      · have e0 := k0 (hdep 0 (by kernel_rfl))
        subst e0
        have o7 := (hO hD).cell 0 _ rfl
        have y7 := (hO hD).fz 0 (by simp)
        have hs7 := (hO hD).set (j := 0) (v := .slice (some ⟨qb, 0, none⟩) n c) (by simp)
        simp only [List.set_cons_zero] at hs7
        have one : Ch (fun b => b = g + 2) w' (w'.setCell ⟨g + 2, 0, none⟩ (.slice (some ⟨qb, 0, none⟩) n c)) := Ch.set
        refine wpOp_step (by simp only [List.getElem?_toArray, List.getElem?_cons_succ, List.getElem?_cons_zero]; rfl) (fun K hK => ?_)
        go_simp
        refine hK _ _ ⟨[.agg #[.slice (some ⟨qb, 0, none⟩) n c], v106, v107, v7], ?_, _, _, _, _, rfl, (hC.trans one), (fun h => absurd h (by simp)), (fun _ => rfl), k1, k2, (fun _ => hs7), k4⟩
        simp only [putAll, List.setIfInBounds_toArray, List.set_cons_succ, List.set_cons_zero] <;> rfl
      · have e2 := k2 (hdep 2 (by kernel_rfl))
        subst e2
        refine wpOp_step (by simp only [List.getElem?_toArray, List.getElem?_cons_succ, List.getElem?_cons_zero]; rfl) (fun K hK => ?_)
        go_simp
        refine hK _ _ ⟨[v105, v106, .string (dgT (goneN y.snaps m.n.toNat)), .string (dgT (goneN y.snaps m.n.toNat))], ?_, _, _, _, _, rfl, hC, hO, k0, k1, (fun _ => rfl), k3, (fun _ => rfl)⟩
        simp only [putAll, List.setIfInBounds_toArray, List.set_cons_succ, List.set_cons_zero] <;> rfl
    · intro D vs w' hD hI
      obtain ⟨v105, v106, v107, v7, rfl, hC, hO, k0, k1, k2, k3, k4⟩ := hI
      simp only [putAll, List.setIfInBounds_toArray, List.set_cons_succ, List.set_cons_zero]
      have hBo := k3 (hD 3 (show 3 < 5 by decide))
      have h4 := k4 (hD 4 (show 4 < 5 by decide))
      subst h4
      have hWr := hBo.range
      go_wp2
      refine bodyPost_ret (results_cell_tmp Tryz.results167 rfl hWr Tryz.underlying27 rfl sizeCat0) rfl ?_
      exact cat_done (t := (dgT (goneN y.snaps m.n.toNat))) SR hB1 HNQ.out hFB HBW.out (p := g + 2) (by have := HG.out; omega) (by omega) hC K2.out
  have g5 : (m.kd == (5 : Int)) = false := beq_eq_false_iff_ne.2 k5
  have K5 := Lib.hid k5; clear k5
  have SR := C.same (m := m) A1' hN (show setDo y m = (y, spTo (y.snaps.map tdT) y.snaps.length) by unfold setDo; rw [if_neg K3.out, if_neg K4.out, if_neg K5.out]) (Below.refl _ w1)
  go_wp2_with fail
  refine wp_region_dagb [108, 109, 110, 7] (by kernel_rfl) (by kernel_rfl) (fun D vs w' => ∃ v108 v109 v110 v7 : Value, vs = [v108, v109, v110, v7] ∧ Ch (fun b => b = g + 2) w1 w' ∧ (D 3 = false → BoxL w' (g + 2) [.slice none 0 0]) ∧ (D 0 = true → v108 = .agg #[.slice (some ⟨qb, 0, none⟩) n c]) ∧ (D 1 = true → v109 = .agg #[.string y.nm, .slice Q qn qc]) ∧ (D 2 = true → v110 = .string (spTo (y.snaps.map tdT) y.snaps.length)) ∧ (D 3 = true → BoxL w' (g + 2) [.slice (some ⟨qb, 0, none⟩) n c]) ∧ (D 4 = true → v7 = .string (spTo (y.snaps.map tdT) y.snaps.length)))
    ⟨_, _, _, _, rfl, (Ch.of_below (Below.refl _ _).drew), (fun _ => BO1.keep (Below.refl _ _).drew), (fun h => by cases h), (fun h => by cases h), (fun h => by cases h), (fun h => by cases h), (fun h => by cases h)⟩ ?_ ?_
  · intro i D vs w' hi hD hdep hcl hI
    have hi' : i < 5 := hi
    obtain ⟨v108, v109, v110, v7, rfl, hC, hO, k0, k1, k2, k3, k4⟩ := hI
    simp only [putAll, List.setIfInBounds_toArray, List.set_cons_succ, List.set_cons_zero]
    rcases (show i = 0 ∨ i = 1 ∨ i = 2 ∨ i = 3 ∨ i = 4 by omega) with rfl | rfl | rfl | rfl | rfl
    · have q7 := hC.cell (BX1.cell 0 _ rfl) (by omega)
      refine wpOp_step (by simp only [List.getElem?_toArray, List.getElem?_cons_zero]; rfl) (fun K hK => ?_)
      go_simp
      refine hK _ _ ⟨[.agg #[.slice (some ⟨qb, 0, none⟩) n c], v109, v110, v7], ?_, _, _, _, _, rfl, hC, hO, (fun _ => rfl), k1, k2, k3, k4⟩
      simp only [putAll, List.setIfInBounds_toArray, List.set_cons_succ, List.set_cons_zero] <;> rfl
    · have q7 := hC.cell (BY1.cell 0 _ rfl) (by omega)
      have q8 := hC.cell (BY1.cell 1 _ rfl) (by omega)
      refine wpOp_step (by simp only [List.getElem?_toArray, List.getElem?_cons_succ, List.getElem?_cons_zero]; rfl) (fun K hK => ?_)
      go_simp
      refine hK _ _ ⟨[v108, .agg #[.string y.nm, .slice Q qn qc], v110, v7], ?_, _, _, _, _, rfl, hC, hO, k0, (fun _ => rfl), k2, k3, k4⟩
      simp only [putAll, List.setIfInBounds_toArray, List.set_cons_succ, List.set_cons_zero] <;> rfl
    · have e1 := k1 (hdep 1 (by kernel_rfl))
      subst e1
      have hrd := read_spec y Q qn qc w' ((C.S.ch snpK hC (fun b hb e => by have h5 := hnq b (fqw b hb); have e : b = g + 2 := e; omega)).at_ snpK (by omega)) (by omega) hyb.2
      unfold cstV at hrd
      refine wpOp_step (by simp only [List.getElem?_toArray, List.getElem?_cons_succ, List.getElem?_cons_zero]; rfl) (fun K hK => ?_)
      go_simp
      refine (hrd).mono ?_
      rintro e w4_ ⟨rfl, hb4⟩
      refine hK _ _ ⟨[v108, .agg #[.string y.nm, .slice Q qn qc], .string (spTo (y.snaps.map tdT) y.snaps.length), v7], ?_, _, _, _, _, rfl, (hC.trans (Ch.of_below hb4)), (fun h' => (hO h').keep hb4), k0, (fun _ => rfl), (fun _ => rfl), (fun h' => (k3 h').keep hb4), k4⟩
      simp only [putAll, List.setIfInBounds_toArray, List.set_cons_succ, List.set_cons_zero] <;> rfl
    · have e0 := k0 (hdep 0 (by kernel_rfl))
      subst e0
      have o7 := (hO hD).cell 0 _ rfl
      have y7 := (hO hD).fz 0 (by simp)
      have hs7 := (hO hD).set (j := 0) (v := .slice (some ⟨qb, 0, none⟩) n c) (by simp)
      simp only [List.set_cons_zero] at hs7
      have one : Ch (fun b => b = g + 2) w' (w'.setCell ⟨g + 2, 0, none⟩ (.slice (some ⟨qb, 0, none⟩) n c)) := Ch.set
      refine wpOp_step (by simp only [List.getElem?_toArray, List.getElem?_cons_succ, List.getElem?_cons_zero]; rfl) (fun K hK => ?_)
      go_simp
      refine hK _ _ ⟨[.agg #[.slice (some ⟨qb, 0, none⟩) n c], v109, v110, v7], ?_, _, _, _, _, rfl, (hC.trans one), (fun h => absurd h (by simp)), (fun _ => rfl), k1, k2, (fun _ => hs7), k4⟩
      simp only [putAll, List.setIfInBounds_toArray, List.set_cons_succ, List.set_cons_zero] <;> rfl
    · have e2 := k2 (hdep 2 (by kernel_rfl))
      subst e2
      refine wpOp_step (by simp only [List.getElem?_toArray, List.getElem?_cons_succ, List.getElem?_cons_zero]; rfl) (fun K hK => ?_)
      go_simp
      refine hK _ _ ⟨[v108, v109, .string (spTo (y.snaps.map tdT) y.snaps.length), .string (spTo (y.snaps.map tdT) y.snaps.length)], ?_, _, _, _, _, rfl, hC, hO, k0, k1, (fun _ => rfl), k3, (fun _ => rfl)⟩
      simp only [putAll, List.setIfInBounds_toArray, List.set_cons_succ, List.set_cons_zero] <;> rfl
  · intro D vs w' hD hI
    obtain ⟨v108, v109, v110, v7, rfl, hC, hO, k0, k1, k2, k3, k4⟩ := hI
    simp only [putAll, List.setIfInBounds_toArray, List.set_cons_succ, List.set_cons_zero]
    have hBo := k3 (hD 3 (show 3 < 5 by decide))
    have h4 := k4 (hD 4 (show 4 < 5 by decide))
    subst h4
    have hWr := hBo.range
    go_wp2
    refine bodyPost_ret (results_cell_tmp Tryz.results167 rfl hWr Tryz.underlying27 rfl sizeCat0) rfl ?_
    exact cat_done (t := (spTo (y.snaps.map tdT) y.snaps.length)) SR hB1 HNQ.out hFB HBW.out (p := g + 2) (by have := HG.out; omega) (by omega) hC K2.out
end Go.Proofs.YtdphdnllhmnelaaGreat
