/- Contracts and lemmas: ReadCmdS, RdK. -/
import Derived.Test.YtdphdnllhmnelaaJ8
import Derived.Test.YtdphdnllhmnelaaJ10
import Derived.Test.YtdphdnllhmnelaaJ13
/- Contract of the reference's ReadCmd. -/
namespace Go.Proofs.Ytdphdnllhmnelaa
open Go.RowKit
theorem vsF_len (s : ByteArray) : ∀ (k : Nat) (o : List Nat) (at_ : Int), 0 ≤ (vsF s k (o, at_)).2 → (vsF s k (o, at_)).1.length = o.length + k
  | 0, o, at_, _ => by rw [vsF]; rfl
  | k + 1, o, at_, h => by
    rw [vsF] at h ⊢
    split at h
    · simp at h
    · rename_i hc
      rw [if_neg hc]
      rw [vsF_len s k _ _ h, List.length_append]; simp only [List.length_cons, List.length_nil]; omega
def exL (s : ByteArray) (e k : Nat) : List ByteArray := (List.range k).map fun j => s.extract (e + 8 * j) (e + 8 * j + 8)
theorem exL_succ (s : ByteArray) (e k : Nat) : exL s e (k + 1) = exL s e k ++ [s.extract (e + 8 * k) (e + 8 * k + 8)] := by simp [exL, List.range_succ]
theorem exL_zero (s : ByteArray) (e : Nat) : exL s e 0 = [] := rfl
theorem exL_len (s : ByteArray) (e k : Nat) : (exL s e k).length = k := by simp [exL]
theorem exL_size (s : ByteArray) (e k : Nat) : ∀ y ∈ exL s e k, y.size ≤ 8 := by
  intro y hy
  simp only [exL, List.mem_map] at hy
  obtain ⟨j, _, rfl⟩ := hy
  rw [ByteArray.size_extract]; omega
theorem cm_all {s : ByteArray} {a b c d e4 e5 e6 e7 e8 m : Nat} {t1 t2 t3 : ByteArray} (f1 : vsF s 4 ([], 0) = ([a, b, c, d], (e4 : Int))) (f2 : tkF s (e4 : Int) = (t1, (e5 : Int))) (f3 : tkF s (e5 : Int) = (t2, (e6 : Int))) (f4 : tkF s (e6 : Int) = (t3, (e7 : Int))) (f5 : vsF s 1 ([], (e7 : Int)) = ([m], (e8 : Int))) :
    ∀ x, cmOkB x = true → cmText x = s → x = ⟨a, b, c, t1, t2, t3, d, exL s e8 m⟩ ∧ false = false := by
  intro x hx hs
  obtain ⟨g4, g5, g6, g7, g8, p1, p2, p3, p4, p5, p6, p7⟩ := cm_parseS hx hs
  have hb := cmOk_bd hx
  rw [f1] at p1
  simp only [Prod.mk.injEq, List.cons.injEq, and_true, Int.natCast_inj] at p1
  obtain ⟨⟨r1, r2, r3, r4⟩, rfl⟩ := p1
  rw [f2] at p2; simp only [Prod.mk.injEq, Int.natCast_inj] at p2; obtain ⟨r5, rfl⟩ := p2
  rw [f3] at p3; simp only [Prod.mk.injEq, Int.natCast_inj] at p3; obtain ⟨r6, rfl⟩ := p3
  rw [f4] at p4; simp only [Prod.mk.injEq, Int.natCast_inj] at p4; obtain ⟨r7, rfl⟩ := p4
  rw [f5] at p5; simp only [Prod.mk.injEq, List.cons.injEq, and_true, Int.natCast_inj] at p5; obtain ⟨r8, rfl⟩ := p5
  have h1 := hb.kd; have h2 := hb.cl; have h3 := hb.no; have h4 := hb.n
  have hch : x.ch = exL s e8 m := by
    apply List.ext_getElem (by rw [exL_len]; exact r8.symm)
    intro j k1 k2
    have := p7 j k1
    rw [sAt_get k1] at this
    simp only [exL, List.getElem_map, List.getElem_range]
    exact this.symm
  refine ⟨?_, rfl⟩
  obtain ⟨kd, cl, no, sx, nm, tg, n, ch⟩ := x
  simp only at *
  rw [Cm.mk.injEq]
  exact ⟨by omega, by omega, by omega, r5.symm, r6.symm, r7.symm, by omega, hch⟩
theorem zOne8 : (#[.int .i64 0, .int .i64 0, .int .i64 0, .string ⟨#[]⟩, .string ⟨#[]⟩, .string ⟨#[]⟩, .int .i64 0, .slice none 0 0] : Array Value).all (·.oneCell') = true := all_oneCell_toArray (cs := [.int .i64 0, .int .i64 0, .int .i64 0, .string ⟨#[]⟩, .string ⟨#[]⟩, .string ⟨#[]⟩, .int .i64 0, .slice none 0 0]) (by simp [Value.oneCell'])
theorem sizeCmd : (Try.prog.info? 47).map (·.size) = some 8 := by kernel_rfl
theorem loadCmd {ops : Array Oper} {rest : List Oper} {op : Oper} {a : Act} {w : World} {Q : Exit → Act → World → Prop} (hgd : op.guard = none) (x : Operand) (ho : op.op = .load 47 x) (b : Nat) (hx : a.eval x = .pointer (some ⟨b, 0, none⟩)) (cs : List Value) (hl : cs.length = 8) (hc : w.rangeAt b 0 cs)
    (h : wpList Try.prog ops Q rest (a.put op.dst (.agg cs.toArray)) w) : wpList Try.prog ops Q (op :: rest) a w :=
  wpList_load_mid hgd _ x ho b 0 hx cs _ hc Try.underlying47 rfl (by rw [hl]; exact sizeCmd) h
theorem rowCell {lo hi : Nat} {w : World} {A : Option Addr} {n c : Nat} {xs : List Value} (h : RowIn 3 1 lo hi w A n c xs) (h0 : 0 < n) : ∃ g, A = some ⟨g, 0, none⟩ ∧ g < w.heap.size ∧ lo ≤ g ∧ ∀ j v, xs[j]? = some v → w.cell? ⟨g, j, none⟩ = some v := by
  obtain ⟨g, rfl⟩ := h.head h0
  have hb := h.blk (g := g) rfl
  refine ⟨g, rfl, hb.2, by have := hb.1; unfold Iv at this; omega, fun j v hv => ?_⟩
  have hc := h.own.cells (g := g) rfl j v hv
  rw [Addr.add_lit] at hc
  simpa using hc
attribute [local irreducible] StrsAt StrR StrO varS cmOkB cmText vsF tkF rdCm rdCmB exL
set_option maxRecDepth 8000 in
set_option maxHeartbeats 8000000 in
theorem readCmd_spec (s : ByteArray) (w : World) (hs : s.size ≤ 1048576) :
    Calls Try.prog 83 #[.string s] w fun e w' => (∃ A n c fp, e = .returned (.tuple #[cmV (rdCm s) (.slice A n c), .bool (rdCmB s)]) ∧ StrO fp w' A n c (rdCm s).ch ∧ fp.Nodup ∧ ∀ b ∈ fp, w.heap.size ≤ b ∧ b < w'.heap.size) ∧ Below w.heap.size w w' := by
  have hB1 : s.size ≤ 16777216 := by omega
  go_enter Try.func83, Try.ntmps83
  go_wp2_with fail
  have al := (Below.refl w.heap.size w).alloc (Nat.le_refl _) (.cells #[.int .i64 0, .int .i64 0, .int .i64 0, .string ⟨#[]⟩, .string ⟨#[]⟩, .string ⟨#[]⟩, .int .i64 0, .slice none 0 0] 47)
  obtain ⟨W0, hW0⟩ : ∃ W, W = w.alloc (.cells #[.int .i64 0, .int .i64 0, .int .i64 0, .string ⟨#[]⟩, .string ⟨#[]⟩, .string ⟨#[]⟩, .int .i64 0, .slice none 0 0] 47) := ⟨_, rfl⟩
  have R : BoxL W0 w.heap.size [.int .i64 0, .int .i64 0, .int .i64 0, .string ⟨#[]⟩, .string ⟨#[]⟩, .string ⟨#[]⟩, .int .i64 0, .slice none 0 0] := by rw [hW0]; exact BoxL.new w _ _
  rw [← hW0] at al ⊢
  have B := al
  clear al hW0
  have hin := vsF_in s 4 [] 0 (by omega) (by omega) (fun _ h => by cases h)
  have hln := vsF_len s 4 [] 0
  refine (l4Vars_spec s 0 4 _ hB1 (by omega) (by omega) (by omega)).mono ?_
  rintro e w1 ⟨⟨A1, kp1, rfl, row1⟩, hb1⟩
  have R' := R.keep hb1; clear R; have R := R'; clear R'
  have B' := bthen B hb1; clear B; have B := B'; clear B'
  obtain ⟨⟨L1, p1⟩, f1⟩ : ∃ r, vsF s 4 ([], 0) = r := ⟨_, rfl⟩
  rw [f1] at row1 hin hln ⊢
  simp only at row1 hin hln
  have NO : (∀ x, cmOkB x = true → cmText x = s → False) → Hid (rdCm s = cmNil ∧ rdCmB s = false) := fun h => Lib.hid (rdCm_no h)
  by_cases hneg : p1 < 0
  · have HN := NO (fun x h1 h2 => by
      obtain ⟨g4, _, _, _, _, q1, _⟩ := cm_parseS h1 h2
      rw [f1] at q1; simp only [Prod.mk.injEq] at q1; omega)
    clear NO f1 row1 hin hln
    have hRt := R.there (n := 8) rfl
    obtain ⟨WF, hWF⟩ : ∃ W, W = w1.setCells w.heap.size 0 (#[.int .i64 0, .int .i64 0, .int .i64 0, .string ⟨#[]⟩, .string ⟨#[]⟩, .string ⟨#[]⟩, .int .i64 0, .slice none 0 0] : Array Value).toList := ⟨_, rfl⟩
    have cF : Ch (fun b => b = w.heap.size) w1 WF := by rw [hWF]; exact ch_setCells _ _ _
    have RF : BoxL WF w.heap.size [.int .i64 0, .int .i64 0, .int .i64 0, .string ⟨#[]⟩, .string ⟨#[]⟩, .string ⟨#[]⟩, .int .i64 0, .slice none 0 0] := by rw [hWF]; exact R.setCells rfl
    have hWr := RF.range
    have hgs : w.heap.size < w1.heap.size := R.lt
    have hBF : Below w.heap.size w WF := cF.belowB B (by omega) (fun k hk => by have hk : k = _ := hk; omega)
    have HWF := Lib.hid hWF; clear hWF cF RF R
    repeat (first | ((with_reducible refine wpList_store_mid ?_ 47 (.tmp 2) (.tmp 19) ?_ w.heap.size 0 #[.int .i64 0, .int .i64 0, .int .i64 0, .string ⟨#[]⟩, .string ⟨#[]⟩, .string ⟨#[]⟩, .int .i64 0, .slice none 0 0] ?_ ?_ ?_ ?_ zOne8 ?_); all_goals (first | rw [← HWF.out] | exact hRt | exact sizeCmd | rfl)) | go_values | go_skip | go_guarded | go_step | go_upon | (simp only []; go_at_K))
    try simp only [Exit.inBlock, Exit.then]
    refine bodyPost_ret (results_cell_tmp Try.results83 rfl hWr Try.underlying47 rfl sizeCmd) rfl ?_
    rw [HN.out.1, HN.out.2]
    exact ⟨⟨none, 0, 0, [], rfl, StrO.nil, List.nodup_nil, fun b hb => by cases hb⟩, hBF⟩
  · obtain ⟨e4, rfl⟩ : ∃ e : Nat, p1 = e := ⟨p1.toNat, by omega⟩
    have hl1 := hln (by omega)
    obtain ⟨a, b, c, d, rfl⟩ : ∃ a b c d, L1 = [a, b, c, d] := by
      match L1, hl1 with
      | [a, b, c, d], _ => exact ⟨a, b, c, d, rfl⟩
    have ha := hin.2.2 a (by simp); have hbb := hin.2.2 b (by simp); have hcc := hin.2.2 c (by simp); have hdd := hin.2.2 d (by simp)
    have he4 : e4 ≤ s.size := by omega
    have hng : ¬ ((e4 : Int) < 0) := by omega
    obtain ⟨g1, hA1, hg1, hg1w, hc1⟩ := rowCell row1 (by simp)
    subst hA1
    have l0 : w1.cell? ⟨g1, 0, none⟩ = some (.int .i64 (a : Int)) := hc1 0 _ rfl
    have l1 : w1.cell? ⟨g1, 1, none⟩ = some (.int .i64 (b : Int)) := hc1 1 _ rfl
    have l2 : w1.cell? ⟨g1, 2, none⟩ = some (.int .i64 (c : Int)) := hc1 2 _ rfl
    have l3 : w1.cell? ⟨g1, 3, none⟩ = some (.int .i64 (d : Int)) := hc1 3 _ rfl
    clear hc1 row1 hin hln hl1 hneg
    have hk2 := tkF_in s (e4 : Int)
    go_wp2_with fail
    refine (l4Take_spec s (e4 : Int) _ hB1 (by omega) (by omega)).mono ?_
    rintro e w2 ⟨rfl, hb2⟩
    have R' := R.keep hb2; clear R; have R := R'; clear R'
    have B' := bthen B hb2; clear B; have B := B'; clear B'
    have l0' := keep_cell hb2 l0; clear l0; have l0 := l0'; clear l0'
    have l1' := keep_cell hb2 l1; clear l1; have l1 := l1'; clear l1'
    have l2' := keep_cell hb2 l2; clear l2; have l2 := l2'; clear l2'
    have l3' := keep_cell hb2 l3; clear l3; have l3 := l3'; clear l3'
    obtain ⟨⟨t1, p2⟩, f2⟩ : ∃ r, tkF s (e4 : Int) = r := ⟨_, rfl⟩
    rw [f2] at hk2 ⊢
    simp only at hk2
    have hk3 := tkF_in s p2
    go_wp2_with fail
    refine (l4Take_spec s p2 _ hB1 (by omega) (by omega)).mono ?_
    rintro e w3 ⟨rfl, hb3⟩
    have R' := R.keep hb3; clear R; have R := R'; clear R'
    have B' := bthen B hb3; clear B; have B := B'; clear B'
    have l0' := keep_cell hb3 l0; clear l0; have l0 := l0'; clear l0'
    have l1' := keep_cell hb3 l1; clear l1; have l1 := l1'; clear l1'
    have l2' := keep_cell hb3 l2; clear l2; have l2 := l2'; clear l2'
    have l3' := keep_cell hb3 l3; clear l3; have l3 := l3'; clear l3'
    obtain ⟨⟨t2, p3⟩, f3⟩ : ∃ r, tkF s p2 = r := ⟨_, rfl⟩
    rw [f3] at hk3 ⊢
    simp only at hk3
    have hk4 := tkF_in s p3
    go_wp2_with fail
    refine (l4Take_spec s p3 _ hB1 (by omega) (by omega)).mono ?_
    rintro e w4 ⟨rfl, hb4⟩
    have R' := R.keep hb4; clear R; have R := R'; clear R'
    have B' := bthen B hb4; clear B; have B := B'; clear B'
    have l0' := keep_cell hb4 l0; clear l0; have l0 := l0'; clear l0'
    have l1' := keep_cell hb4 l1; clear l1; have l1 := l1'; clear l1'
    have l2' := keep_cell hb4 l2; clear l2; have l2 := l2'; clear l2'
    have l3' := keep_cell hb4 l3; clear l3; have l3 := l3'; clear l3'
    obtain ⟨⟨t3, p4⟩, f4⟩ : ∃ r, tkF s p3 = r := ⟨_, rfl⟩
    rw [f4] at hk4 ⊢
    simp only at hk4
    have hin5 := vsF_in s 1 [] p4 (by omega) (by omega) (fun _ h => by cases h)
    have hcase := vs1 s p4
    go_wp2_with fail
    refine (l4Vars_spec s p4 1 _ hB1 (by omega) (by omega) (by omega)).mono ?_
    rintro e w5 ⟨⟨A5, kp5, rfl, row5⟩, hb5⟩
    have R' := R.keep hb5; clear R; have R := R'; clear R'
    have B' := bthen B hb5; clear B; have B := B'; clear B'
    have l0' := keep_cell hb5 l0; clear l0; have l0 := l0'; clear l0'
    have l1' := keep_cell hb5 l1; clear l1; have l1 := l1'; clear l1'
    have l2' := keep_cell hb5 l2; clear l2; have l2 := l2'; clear l2'
    have l3' := keep_cell hb5 l3; clear l3; have l3 := l3'; clear l3'
    obtain ⟨⟨L5, p5⟩, f5⟩ : ∃ r, vsF s 1 ([], p4) = r := ⟨_, rfl⟩
    rw [f5] at row5 hin5 hcase ⊢
    simp only at row5 hin5
    rcases hcase with hcase | ⟨m, e8, hcase, hm, he8⟩
    · simp only [Prod.mk.injEq] at hcase
      obtain ⟨hL5, hp5⟩ := hcase
      have hneg5 : p5 < 0 := by omega
      have HN := NO (fun x h1 h2 => by
        obtain ⟨g4, g5, g6, g7, g8, q1, q2, q3, q4, q5, _⟩ := cm_parseS h1 h2
        rw [f1] at q1; simp only [Prod.mk.injEq, Int.natCast_inj] at q1; obtain ⟨_, rfl⟩ := q1
        rw [f2] at q2; simp only [Prod.mk.injEq] at q2; obtain ⟨_, rfl⟩ := q2
        rw [f3] at q3; simp only [Prod.mk.injEq] at q3; obtain ⟨_, rfl⟩ := q3
        rw [f4] at q4; simp only [Prod.mk.injEq] at q4; obtain ⟨_, rfl⟩ := q4
        rw [f5] at q5; simp only [Prod.mk.injEq] at q5; omega)
      clear NO f1 f2 f3 f4 f5 row5 hin5 hL5 hp5
      have hRt := R.there (n := 8) rfl
      obtain ⟨WF, hWF⟩ : ∃ W, W = w5.setCells w.heap.size 0 (#[.int .i64 0, .int .i64 0, .int .i64 0, .string ⟨#[]⟩, .string ⟨#[]⟩, .string ⟨#[]⟩, .int .i64 0, .slice none 0 0] : Array Value).toList := ⟨_, rfl⟩
      have cF : Ch (fun b => b = w.heap.size) w5 WF := by rw [hWF]; exact ch_setCells _ _ _
      have RF : BoxL WF w.heap.size [.int .i64 0, .int .i64 0, .int .i64 0, .string ⟨#[]⟩, .string ⟨#[]⟩, .string ⟨#[]⟩, .int .i64 0, .slice none 0 0] := by rw [hWF]; exact R.setCells rfl
      have hWr := RF.range
      have hgs : w.heap.size < w5.heap.size := R.lt
      have hBF : Below w.heap.size w WF := cF.belowB B (by omega) (fun k hk => by have hk : k = _ := hk; omega)
      have HWF := Lib.hid hWF; clear hWF cF RF R
      repeat (first | ((with_reducible refine wpList_store_mid ?_ 47 (.tmp 2) (.tmp 63) ?_ w.heap.size 0 #[.int .i64 0, .int .i64 0, .int .i64 0, .string ⟨#[]⟩, .string ⟨#[]⟩, .string ⟨#[]⟩, .int .i64 0, .slice none 0 0] ?_ ?_ ?_ ?_ zOne8 ?_); all_goals (first | rw [← HWF.out] | exact hRt | exact sizeCmd | rfl)) | go_values | go_skip | go_guarded | go_step | go_upon | (simp only []; go_at_K))
      try simp only [Exit.inBlock, Exit.then]
      refine bodyPost_ret (results_cell_tmp Try.results83 rfl hWr Try.underlying47 rfl sizeCmd) rfl ?_
      rw [HN.out.1, HN.out.2]
      exact ⟨⟨none, 0, 0, [], rfl, StrO.nil, List.nodup_nil, fun b hb => by cases hb⟩, hBF⟩
    · simp only [Prod.mk.injEq] at hcase
      obtain ⟨rfl, rfl⟩ := hcase
      obtain ⟨g5, hA5, hg5, hg5w, hc5⟩ := rowCell row5 (by simp)
      subst hA5
      have m0 : w5.cell? ⟨g5, 0, none⟩ = some (.int .i64 (m : Int)) := hc5 0 _ rfl
      clear hc5 row5 hin5
      have hng8 : ¬ ((e8 : Int) < 0) := by omega
      by_cases hcond : m ≤ 4 ∧ s.size = e8 + 8 * m
      · obtain ⟨hm4, hsz⟩ := hcond
        have hp4 : 0 ≤ p4 := by
          rcases Int.lt_or_le p4 0 with h | h
          · rw [vsF_no (.inl h)] at f5; simp at f5
          · exact h
        have hp3 : 0 ≤ p3 := by
          rcases Int.lt_or_le p3 0 with h | h
          · rw [tkF_no (vsF_no (.inl h))] at f4; simp only [Prod.mk.injEq] at f4; omega
          · exact h
        have hp2 : 0 ≤ p2 := by
          rcases Int.lt_or_le p2 0 with h | h
          · rw [tkF_no (vsF_no (.inl h))] at f3; simp only [Prod.mk.injEq] at f3; omega
          · exact h
        obtain ⟨e5, rfl⟩ : ∃ e : Nat, p2 = e := ⟨p2.toNat, by omega⟩
        obtain ⟨e6, rfl⟩ : ∃ e : Nat, p3 = e := ⟨p3.toNat, by omega⟩
        obtain ⟨e7, rfl⟩ : ∃ e : Nat, p4 = e := ⟨p4.toNat, by omega⟩
        have hne0 : s ≠ ByteArray.empty := fun h => by
          have hz := rvF_size (s.extract 0 s.size)
          rw [ByteArray.size_extract] at hz
          have h0 : s.size = 0 := by rw [h]; rfl
          rw [vsF_no (k := 3) (.inr (.inr (by show (rvF (s.extract 0 s.size)).2 = 0; omega)))] at f1
          simp at f1
        have HE := cm_all f1 f2 f3 f4 f5
        clear NO f1 f2 f3 f4 f5 hp2 hp3 hp4
        have HEE := Lib.hid HE; clear HE
        have g84 : ¬ ((4 : Int) < (m : Int)) := by omega
        have gsz : (s.size : Int) = (e8 : Int) + 8 * (m : Int) := by omega
        have gsz' : ¬ ((s.size : Int) ≠ (e8 : Int) + 8 * (m : Int)) := by omega
        have hgg5 : g5 < w5.heap.size := hg5
        have hws5 : w.heap.size < w5.heap.size := R.lt
        have hgg1 : g1 < w5.heap.size := cell_lt l0
        repeat (first | go_values | go_skip | go_guarded | go_step | go_upon | (simp only []; go_at_K))
        have hOneC : (#[.int .i64 (a : Int), .int .i64 (b : Int), .int .i64 (c : Int), .string t1, .string t2, .string t3, .int .i64 (d : Int), .slice none 0 0] : Array Value).all (·.oneCell') = true := all_oneCell_toArray (cs := [.int .i64 (a : Int), .int .i64 (b : Int), .int .i64 (c : Int), .string t1, .string t2, .string t3, .int .i64 (d : Int), .slice none 0 0]) (by simp [Value.oneCell'])
        refine wp_region_dagb [64, 65, 66, 67, 68, 69, 70, 71, 72, 73, 74, 75, 76, 77, 78, 79, 10] (by kernel_rfl) (by kernel_rfl) (fun D vs w' => ∃ v64 v65 v66 v67 v68 v69 v70 v71 v72 v73 v74 v75 v76 v77 v78 v79 v10 : Value, vs = [v64, v65, v66, v67, v68, v69, v70, v71, v72, v73, v74, v75, v76, v77, v78, v79, v10] ∧ Below w5.heap.size w5 w' ∧ (D 0 = true → v64 = .slice (some ⟨g1, 0, none⟩) 4 kp1) ∧ (D 1 = true → v65 = .pointer (some ⟨g1, 0, none⟩)) ∧ (D 2 = true → v66 = .int .i64 (a : Int)) ∧ (D 3 = true → v67 = .slice (some ⟨g1, 0, none⟩) 4 kp1) ∧ (D 4 = true → v68 = .pointer (some ⟨g1, 1, none⟩)) ∧ (D 5 = true → v69 = .int .i64 (b : Int)) ∧ (D 6 = true → v70 = .slice (some ⟨g1, 0, none⟩) 4 kp1) ∧ (D 7 = true → v71 = .pointer (some ⟨g1, 2, none⟩)) ∧ (D 8 = true → v72 = .int .i64 (c : Int)) ∧ (D 9 = true → v73 = .slice (some ⟨g1, 0, none⟩) 4 kp1) ∧ (D 10 = true → v74 = .pointer (some ⟨g1, 3, none⟩)) ∧ (D 11 = true → v75 = .int .i64 (d : Int)) ∧ (D 12 = true → v76 = .string t1) ∧ (D 13 = true → v77 = .string t2) ∧ (D 14 = true → v78 = .string t3) ∧ (D 15 = true → v79 = .agg #[.int .i64 (a : Int), .int .i64 (b : Int), .int .i64 (c : Int), .string t1, .string t2, .string t3, .int .i64 (d : Int), .slice none 0 0]) ∧ (D 16 = true → ∃ h, v10 = .pointer (some ⟨h, 0, none⟩) ∧ w5.heap.size ≤ h ∧ (D 17 = false → BoxL w' h [.int .i64 0, .int .i64 0, .int .i64 0, .string ⟨#[]⟩, .string ⟨#[]⟩, .string ⟨#[]⟩, .int .i64 0, .slice none 0 0])) ∧ (D 17 = true → ∃ h, v10 = .pointer (some ⟨h, 0, none⟩) ∧ w5.heap.size ≤ h ∧ BoxL w' h [.int .i64 (a : Int), .int .i64 (b : Int), .int .i64 (c : Int), .string t1, .string t2, .string t3, .int .i64 (d : Int), .slice none 0 0]))
          ⟨_, _, _, _, _, _, _, _, _, _, _, _, _, _, _, _, _, rfl, ((Below.refl _ _).drew), (fun h => by cases h), (fun h => by cases h), (fun h => by cases h), (fun h => by cases h), (fun h => by cases h), (fun h => by cases h), (fun h => by cases h), (fun h => by cases h), (fun h => by cases h), (fun h => by cases h), (fun h => by cases h), (fun h => by cases h), (fun h => by cases h), (fun h => by cases h), (fun h => by cases h), (fun h => by cases h), (fun h => by cases h), (fun h => by cases h)⟩ ?_ ?_
        · intro i D vs w' hi hD hdep hcl hI
          have hi' : i < 18 := hi
          obtain ⟨v64, v65, v66, v67, v68, v69, v70, v71, v72, v73, v74, v75, v76, v77, v78, v79, v10, rfl, hb, k0, k1, k2, k3, k4, k5, k6, k7, k8, k9, k10, k11, k12, k13, k14, k15, k16, k17⟩ := hI
          simp only [putAll, List.setIfInBounds_toArray, List.set_cons_succ, List.set_cons_zero]
          rcases (show i = 0 ∨ i = 1 ∨ i = 2 ∨ i = 3 ∨ i = 4 ∨ i = 5 ∨ i = 6 ∨ i = 7 ∨ i = 8 ∨ i = 9 ∨ i = 10 ∨ i = 11 ∨ i = 12 ∨ i = 13 ∨ i = 14 ∨ i = 15 ∨ i = 16 ∨ i = 17 by omega) with rfl | rfl | rfl | rfl | rfl | rfl | rfl | rfl | rfl | rfl | rfl | rfl | rfl | rfl | rfl | rfl | rfl | rfl
          · refine wpOp_step (by simp only [List.getElem?_toArray, List.getElem?_cons_zero]; rfl) (fun K hK => ?_)
            go_simp
            refine hK _ _ ⟨[.slice (some ⟨g1, 0, none⟩) 4 kp1, v65, v66, v67, v68, v69, v70, v71, v72, v73, v74, v75, v76, v77, v78, v79, v10], ?_, _, _, _, _, _, _, _, _, _, _, _, _, _, _, _, _, _, rfl, hb, (fun _ => rfl), k1, k2, k3, k4, k5, k6, k7, k8, k9, k10, k11, k12, k13, k14, k15, k16, k17⟩
            simp only [putAll, List.setIfInBounds_toArray, List.set_cons_succ, List.set_cons_zero] <;> rfl
          · have e0 := k0 (hdep 0 (by kernel_rfl))
            subst e0
            refine wpOp_step (by simp only [List.getElem?_toArray, List.getElem?_cons_succ, List.getElem?_cons_zero]; rfl) (fun K hK => ?_)
            go_simp
            refine hK _ _ ⟨[.slice (some ⟨g1, 0, none⟩) 4 kp1, .pointer (some ⟨g1, 0, none⟩), v66, v67, v68, v69, v70, v71, v72, v73, v74, v75, v76, v77, v78, v79, v10], ?_, _, _, _, _, _, _, _, _, _, _, _, _, _, _, _, _, _, rfl, hb, (fun _ => rfl), (fun _ => rfl), k2, k3, k4, k5, k6, k7, k8, k9, k10, k11, k12, k13, k14, k15, k16, k17⟩
            simp only [putAll, List.setIfInBounds_toArray, List.set_cons_succ, List.set_cons_zero] <;> rfl
          · have e1 := k1 (hdep 1 (by kernel_rfl))
            subst e1
            have q := keep_cell hb l0
            refine wpOp_step (by simp only [List.getElem?_toArray, List.getElem?_cons_succ, List.getElem?_cons_zero]; rfl) (fun K hK => ?_)
            go_simp
            refine hK _ _ ⟨[v64, .pointer (some ⟨g1, 0, none⟩), .int .i64 (a : Int), v67, v68, v69, v70, v71, v72, v73, v74, v75, v76, v77, v78, v79, v10], ?_, _, _, _, _, _, _, _, _, _, _, _, _, _, _, _, _, _, rfl, hb, k0, (fun _ => rfl), (fun _ => rfl), k3, k4, k5, k6, k7, k8, k9, k10, k11, k12, k13, k14, k15, k16, k17⟩
            simp only [putAll, List.setIfInBounds_toArray, List.set_cons_succ, List.set_cons_zero] <;> rfl
          · refine wpOp_step (by simp only [List.getElem?_toArray, List.getElem?_cons_succ, List.getElem?_cons_zero]; rfl) (fun K hK => ?_)
            go_simp
            refine hK _ _ ⟨[v64, v65, v66, .slice (some ⟨g1, 0, none⟩) 4 kp1, v68, v69, v70, v71, v72, v73, v74, v75, v76, v77, v78, v79, v10], ?_, _, _, _, _, _, _, _, _, _, _, _, _, _, _, _, _, _, rfl, hb, k0, k1, k2, (fun _ => rfl), k4, k5, k6, k7, k8, k9, k10, k11, k12, k13, k14, k15, k16, k17⟩
            simp only [putAll, List.setIfInBounds_toArray, List.set_cons_succ, List.set_cons_zero] <;> rfl
          · have e3 := k3 (hdep 3 (by kernel_rfl))
            subst e3
            refine wpOp_step (by simp only [List.getElem?_toArray, List.getElem?_cons_succ, List.getElem?_cons_zero]; rfl) (fun K hK => ?_)
            go_simp
            refine hK _ _ ⟨[v64, v65, v66, .slice (some ⟨g1, 0, none⟩) 4 kp1, .pointer (some ⟨g1, 1, none⟩), v69, v70, v71, v72, v73, v74, v75, v76, v77, v78, v79, v10], ?_, _, _, _, _, _, _, _, _, _, _, _, _, _, _, _, _, _, rfl, hb, k0, k1, k2, (fun _ => rfl), (fun _ => rfl), k5, k6, k7, k8, k9, k10, k11, k12, k13, k14, k15, k16, k17⟩
            simp only [putAll, List.setIfInBounds_toArray, List.set_cons_succ, List.set_cons_zero] <;> rfl
          · have e4 := k4 (hdep 4 (by kernel_rfl))
            subst e4
            have q := keep_cell hb l1
            refine wpOp_step (by simp only [List.getElem?_toArray, List.getElem?_cons_succ, List.getElem?_cons_zero]; rfl) (fun K hK => ?_)
            go_simp
            refine hK _ _ ⟨[v64, v65, v66, v67, .pointer (some ⟨g1, 1, none⟩), .int .i64 (b : Int), v70, v71, v72, v73, v74, v75, v76, v77, v78, v79, v10], ?_, _, _, _, _, _, _, _, _, _, _, _, _, _, _, _, _, _, rfl, hb, k0, k1, k2, k3, (fun _ => rfl), (fun _ => rfl), k6, k7, k8, k9, k10, k11, k12, k13, k14, k15, k16, k17⟩
            simp only [putAll, List.setIfInBounds_toArray, List.set_cons_succ, List.set_cons_zero] <;> rfl
          · refine wpOp_step (by simp only [List.getElem?_toArray, List.getElem?_cons_succ, List.getElem?_cons_zero]; rfl) (fun K hK => ?_)
            go_simp
            refine hK _ _ ⟨[v64, v65, v66, v67, v68, v69, .slice (some ⟨g1, 0, none⟩) 4 kp1, v71, v72, v73, v74, v75, v76, v77, v78, v79, v10], ?_, _, _, _, _, _, _, _, _, _, _, _, _, _, _, _, _, _, rfl, hb, k0, k1, k2, k3, k4, k5, (fun _ => rfl), k7, k8, k9, k10, k11, k12, k13, k14, k15, k16, k17⟩
            simp only [putAll, List.setIfInBounds_toArray, List.set_cons_succ, List.set_cons_zero] <;> rfl
          · have e6 := k6 (hdep 6 (by kernel_rfl))
            subst e6
            refine wpOp_step (by simp only [List.getElem?_toArray, List.getElem?_cons_succ, List.getElem?_cons_zero]; rfl) (fun K hK => ?_)
            go_simp
            refine hK _ _ ⟨[v64, v65, v66, v67, v68, v69, .slice (some ⟨g1, 0, none⟩) 4 kp1, .pointer (some ⟨g1, 2, none⟩), v72, v73, v74, v75, v76, v77, v78, v79, v10], ?_, _, _, _, _, _, _, _, _, _, _, _, _, _, _, _, _, _, rfl, hb, k0, k1, k2, k3, k4, k5, (fun _ => rfl), (fun _ => rfl), k8, k9, k10, k11, k12, k13, k14, k15, k16, k17⟩
            simp only [putAll, List.setIfInBounds_toArray, List.set_cons_succ, List.set_cons_zero] <;> rfl
          · have e7 := k7 (hdep 7 (by kernel_rfl))
            subst e7
            have q := keep_cell hb l2
            refine wpOp_step (by simp only [List.getElem?_toArray, List.getElem?_cons_succ, List.getElem?_cons_zero]; rfl) (fun K hK => ?_)
            go_simp
            refine hK _ _ ⟨[v64, v65, v66, v67, v68, v69, v70, .pointer (some ⟨g1, 2, none⟩), .int .i64 (c : Int), v73, v74, v75, v76, v77, v78, v79, v10], ?_, _, _, _, _, _, _, _, _, _, _, _, _, _, _, _, _, _, rfl, hb, k0, k1, k2, k3, k4, k5, k6, (fun _ => rfl), (fun _ => rfl), k9, k10, k11, k12, k13, k14, k15, k16, k17⟩
            simp only [putAll, List.setIfInBounds_toArray, List.set_cons_succ, List.set_cons_zero] <;> rfl
          · refine wpOp_step (by simp only [List.getElem?_toArray, List.getElem?_cons_succ, List.getElem?_cons_zero]; rfl) (fun K hK => ?_)
            go_simp
            refine hK _ _ ⟨[v64, v65, v66, v67, v68, v69, v70, v71, v72, .slice (some ⟨g1, 0, none⟩) 4 kp1, v74, v75, v76, v77, v78, v79, v10], ?_, _, _, _, _, _, _, _, _, _, _, _, _, _, _, _, _, _, rfl, hb, k0, k1, k2, k3, k4, k5, k6, k7, k8, (fun _ => rfl), k10, k11, k12, k13, k14, k15, k16, k17⟩
            simp only [putAll, List.setIfInBounds_toArray, List.set_cons_succ, List.set_cons_zero] <;> rfl
          · have e9 := k9 (hdep 9 (by kernel_rfl))
            subst e9
            refine wpOp_step (by simp only [List.getElem?_toArray, List.getElem?_cons_succ, List.getElem?_cons_zero]; rfl) (fun K hK => ?_)
            go_simp
            refine hK _ _ ⟨[v64, v65, v66, v67, v68, v69, v70, v71, v72, .slice (some ⟨g1, 0, none⟩) 4 kp1, .pointer (some ⟨g1, 3, none⟩), v75, v76, v77, v78, v79, v10], ?_, _, _, _, _, _, _, _, _, _, _, _, _, _, _, _, _, _, rfl, hb, k0, k1, k2, k3, k4, k5, k6, k7, k8, (fun _ => rfl), (fun _ => rfl), k11, k12, k13, k14, k15, k16, k17⟩
            simp only [putAll, List.setIfInBounds_toArray, List.set_cons_succ, List.set_cons_zero] <;> rfl
          · have e10 := k10 (hdep 10 (by kernel_rfl))
            subst e10
            have q := keep_cell hb l3
            refine wpOp_step (by simp only [List.getElem?_toArray, List.getElem?_cons_succ, List.getElem?_cons_zero]; rfl) (fun K hK => ?_)
            go_simp
            refine hK _ _ ⟨[v64, v65, v66, v67, v68, v69, v70, v71, v72, v73, .pointer (some ⟨g1, 3, none⟩), .int .i64 (d : Int), v76, v77, v78, v79, v10], ?_, _, _, _, _, _, _, _, _, _, _, _, _, _, _, _, _, _, rfl, hb, k0, k1, k2, k3, k4, k5, k6, k7, k8, k9, (fun _ => rfl), (fun _ => rfl), k12, k13, k14, k15, k16, k17⟩
            simp only [putAll, List.setIfInBounds_toArray, List.set_cons_succ, List.set_cons_zero] <;> rfl
          · refine wpOp_step (by simp only [List.getElem?_toArray, List.getElem?_cons_succ, List.getElem?_cons_zero]; rfl) (fun K hK => ?_)
            go_simp
            refine hK _ _ ⟨[v64, v65, v66, v67, v68, v69, v70, v71, v72, v73, v74, v75, .string t1, v77, v78, v79, v10], ?_, _, _, _, _, _, _, _, _, _, _, _, _, _, _, _, _, _, rfl, hb, k0, k1, k2, k3, k4, k5, k6, k7, k8, k9, k10, k11, (fun _ => rfl), k13, k14, k15, k16, k17⟩
            simp only [putAll, List.setIfInBounds_toArray, List.set_cons_succ, List.set_cons_zero] <;> rfl
          · refine wpOp_step (by simp only [List.getElem?_toArray, List.getElem?_cons_succ, List.getElem?_cons_zero]; rfl) (fun K hK => ?_)
            go_simp
            refine hK _ _ ⟨[v64, v65, v66, v67, v68, v69, v70, v71, v72, v73, v74, v75, v76, .string t2, v78, v79, v10], ?_, _, _, _, _, _, _, _, _, _, _, _, _, _, _, _, _, _, rfl, hb, k0, k1, k2, k3, k4, k5, k6, k7, k8, k9, k10, k11, k12, (fun _ => rfl), k14, k15, k16, k17⟩
            simp only [putAll, List.setIfInBounds_toArray, List.set_cons_succ, List.set_cons_zero] <;> rfl
          · refine wpOp_step (by simp only [List.getElem?_toArray, List.getElem?_cons_succ, List.getElem?_cons_zero]; rfl) (fun K hK => ?_)
            go_simp
            refine hK _ _ ⟨[v64, v65, v66, v67, v68, v69, v70, v71, v72, v73, v74, v75, v76, v77, .string t3, v79, v10], ?_, _, _, _, _, _, _, _, _, _, _, _, _, _, _, _, _, _, rfl, hb, k0, k1, k2, k3, k4, k5, k6, k7, k8, k9, k10, k11, k12, k13, (fun _ => rfl), k15, k16, k17⟩
            simp only [putAll, List.setIfInBounds_toArray, List.set_cons_succ, List.set_cons_zero] <;> rfl
          · have e2 := k2 (hdep 2 (by kernel_rfl))
            subst e2
            have e5 := k5 (hdep 5 (by kernel_rfl))
            subst e5
            have e8 := k8 (hdep 8 (by kernel_rfl))
            subst e8
            have e11 := k11 (hdep 11 (by kernel_rfl))
            subst e11
            have e12 := k12 (hdep 12 (by kernel_rfl))
            subst e12
            have e13 := k13 (hdep 13 (by kernel_rfl))
            subst e13
            have e14 := k14 (hdep 14 (by kernel_rfl))
            subst e14
            refine wpOp_step (by simp only [List.getElem?_toArray, List.getElem?_cons_succ, List.getElem?_cons_zero]; rfl) (fun K hK => ?_)
            go_simp
            refine hK _ _ ⟨[v64, v65, .int .i64 (a : Int), v67, v68, .int .i64 (b : Int), v70, v71, .int .i64 (c : Int), v73, v74, .int .i64 (d : Int), .string t1, .string t2, .string t3, .agg #[.int .i64 (a : Int), .int .i64 (b : Int), .int .i64 (c : Int), .string t1, .string t2, .string t3, .int .i64 (d : Int), .slice none 0 0], v10], ?_, _, _, _, _, _, _, _, _, _, _, _, _, _, _, _, _, _, rfl, hb, k0, k1, (fun _ => rfl), k3, k4, (fun _ => rfl), k6, k7, (fun _ => rfl), k9, k10, (fun _ => rfl), (fun _ => rfl), (fun _ => rfl), (fun _ => rfl), (fun _ => rfl), k16, k17⟩
            simp only [putAll, List.setIfInBounds_toArray, List.set_cons_succ, List.set_cons_zero] <;> rfl
          · have hal := (Below.refl w'.heap.size w').alloc (Nat.le_refl _) (.cells #[.int .i64 0, .int .i64 0, .int .i64 0, .string ⟨#[]⟩, .string ⟨#[]⟩, .string ⟨#[]⟩, .int .i64 0, .slice none 0 0] 47)
            refine wpOp_step (by simp only [List.getElem?_toArray, List.getElem?_cons_succ, List.getElem?_cons_zero]; rfl) (fun K hK => ?_)
            go_simp
            refine hK _ _ ⟨[v64, v65, v66, v67, v68, v69, v70, v71, v72, v73, v74, v75, v76, v77, v78, v79, .pointer (some ⟨w'.heap.size, 0, none⟩)], ?_, _, _, _, _, _, _, _, _, _, _, _, _, _, _, _, _, _, rfl, (bthen hb hal), k0, k1, k2, k3, k4, k5, k6, k7, k8, k9, k10, k11, k12, k13, k14, k15, (fun _ => ⟨_, rfl, hb.size, fun _ => BoxL.new _ _ _⟩), (fun h => absurd (hcl 17 16 (by simpa using h) (by kernel_rfl)) (by rw [hD]; simp))⟩
            simp only [putAll, List.setIfInBounds_toArray, List.set_cons_succ, List.set_cons_zero] <;> rfl
          · have e15 := k15 (hdep 15 (by kernel_rfl))
            subst e15
            obtain ⟨h, rfl, hh, hbx⟩ := k16 (hdep 16 (by kernel_rfl))
            refine wpOp_step (by simp only [List.getElem?_toArray, List.getElem?_cons_succ, List.getElem?_cons_zero]; rfl) (fun K hK => ?_)
            refine wp_store_mid 47 (.tmp 10) (.tmp 79) rfl h 0 #[.int .i64 (a : Int), .int .i64 (b : Int), .int .i64 (c : Int), .string t1, .string t2, .string t3, .int .i64 (d : Int), .slice none 0 0] rfl rfl ((hbx hD).there rfl) sizeCmd hOneC ?_
            refine hK _ _ ⟨[v64, v65, v66, v67, v68, v69, v70, v71, v72, v73, v74, v75, v76, v77, v78, .agg #[.int .i64 (a : Int), .int .i64 (b : Int), .int .i64 (c : Int), .string t1, .string t2, .string t3, .int .i64 (d : Int), .slice none 0 0], .pointer (some ⟨h, 0, none⟩)], ?_, _, _, _, _, _, _, _, _, _, _, _, _, _, _, _, _, _, rfl, ((ch_setCells (g := h) _ 0 _).belowB hb hb.size (fun k hk => by have hk : k = h := hk; omega)), k0, k1, k2, k3, k4, k5, k6, k7, k8, k9, k10, k11, k12, k13, k14, (fun _ => rfl), (fun _ => ⟨h, rfl, hh, fun h' => absurd h' (by simp)⟩), (fun _ => ⟨h, rfl, hh, (hbx hD).setCells rfl⟩)⟩
            simp only [Act.put, putAll, List.setIfInBounds_toArray, List.set_cons_succ, List.set_cons_zero] <;> rfl
        · intro D vs w' hD hI
          obtain ⟨v64, v65, v66, v67, v68, v69, v70, v71, v72, v73, v74, v75, v76, v77, v78, v79, v10, rfl, hb, k0, k1, k2, k3, k4, k5, k6, k7, k8, k9, k10, k11, k12, k13, k14, k15, k16, k17⟩ := hI
          simp only [putAll, List.setIfInBounds_toArray, List.set_cons_succ, List.set_cons_zero]
          obtain ⟨h, rfl, hh, C⟩ := k17 (hD 17 (show 17 < 18 by decide))
          clear hD
          obtain ⟨W, hW⟩ : ∃ W, W = w' := ⟨_, rfl⟩
          subst hW
          have R' := R.keep hb; clear R; have R := R'; clear R'
          have B' := bthen B hb; clear B; have B := B'; clear B'
          have m0' := keep_cell hb m0; clear m0; have m0 := m0'; clear m0'
          have hg5W : g5 < W.heap.size := cell_lt m0
          have hwW : w.heap.size < W.heap.size := R.lt
          have hhW : h < W.heap.size := C.lt
          have hg5h : g5 < h := by omega
          have hwh : w.heap.size < h := by have := hgg5; have := hg5w; have hw5 : w.heap.size < w5.heap.size := hws5; omega
          clear l0 l1 l2 l3 hOneC
          go_wp2
          go_loopw [11] (fun i wr => ∃ (k : Nat) (A : Option Addr) (cap : Nat), i = .int .i64 (k : Nat) ∧ k ≤ m ∧ BoxL wr w.heap.size [.int .i64 0, .int .i64 0, .int .i64 0, .string ⟨#[]⟩, .string ⟨#[]⟩, .string ⟨#[]⟩, .int .i64 0, .slice none 0 0] ∧ BoxL wr h [.int .i64 (a : Int), .int .i64 (b : Int), .int .i64 (c : Int), .string t1, .string t2, .string t3, .int .i64 (d : Int), .slice A k cap] ∧ wr.cell? ⟨g5, 0, none⟩ = some (.int .i64 (m : Int)) ∧ wr.ownsRow W.heap.size 9 1 (.slice A k cap) k ((exL s e8 k).map Value.string) ∧ Below w.heap.size w wr ∧ W.heap.size ≤ wr.heap.size) (fun i _ => m - (intOf i).toNat)
          case atStart => exact ⟨0, none, 0, rfl, Nat.zero_le _, R, C, m0, by rw [show exL s e8 0 = [] by simp [exL_zero]]; exact World.ownsRow_nil _ _ _ _, B, Nat.le_refl _⟩
          case round =>
            clear R C m0 B
            obtain ⟨k, A, cap, rfl, hk, R, C, m0, own, B, hzW⟩ := hrel
            by_cases hlt : k < m
            · have ilt : (k : Int) < (m : Int) := by omega
              have hk4 : k < 4 := by omega
              obtain ⟨p, hp⟩ : ∃ p, p = e8 + 8 * k := ⟨_, rfl⟩
              obtain ⟨d8, hd8⟩ : ∃ d, d = p + 8 := ⟨_, rfl⟩
              have hps : d8 ≤ s.size := by omega
              have HP := Lib.hid hp; have HD := Lib.hid hd8
              have hpI : (e8 : Int) + 8 * (k : Int) = (p : Int) := by omega
              have hdI : (p : Int) + 8 = (d8 : Int) := by omega
              have hpd : p ≤ d8 := by omega
              have hpb : p ≤ 1048576 := by omega
              clear hp hd8
              have hz0 : (W.heap.size ≤ wr.heap.size) := hzW
              go_wp2
              refine wp_region_dagb [87, 88, 89, 90, 91, 92, 93, 94, 95, 96, 97, 98, 99, 100, 101, 102] (by kernel_rfl) (by kernel_rfl) (fun D vs w' => ∃ v87 v88 v89 v90 v91 v92 v93 v94 v95 v96 v97 v98 v99 v100 v101 v102 : Value, vs = [v87, v88, v89, v90, v91, v92, v93, v94, v95, v96, v97, v98, v99, v100, v101, v102] ∧ Below w.heap.size w w' ∧ BoxL w' w.heap.size [.int .i64 0, .int .i64 0, .int .i64 0, .string ⟨#[]⟩, .string ⟨#[]⟩, .string ⟨#[]⟩, .int .i64 0, .slice none 0 0] ∧ w'.cell? ⟨g5, 0, none⟩ = some (.int .i64 (m : Int)) ∧ W.heap.size ≤ w'.heap.size ∧ (D 16 = false → BoxL w' h [.int .i64 (a : Int), .int .i64 (b : Int), .int .i64 (c : Int), .string t1, .string t2, .string t3, .int .i64 (d : Int), .slice A k cap]) ∧ (D 14 = false → w'.ownsRow W.heap.size 9 1 (.slice A k cap) k ((exL s e8 k).map Value.string)) ∧ (D 0 = true → v87 = .pointer (some ⟨h, 7, none⟩)) ∧ (D 1 = true → v88 = .slice A k cap) ∧ (D 2 = true → v89 = .string s) ∧ (D 3 = true → v90 = .int .i64 (e8 : Int)) ∧ (D 4 = true → v91 = .int .i64 (k : Int)) ∧ (D 5 = true → v92 = .int .i64 (8 * (k : Int))) ∧ (D 6 = true → v93 = .int .i64 (p : Int)) ∧ (D 7 = true → v94 = .int .i64 (e8 : Int)) ∧ (D 8 = true → v95 = .int .i64 (k : Int)) ∧ (D 9 = true → v96 = .int .i64 (8 * (k : Int))) ∧ (D 10 = true → v97 = .int .i64 (p : Int)) ∧ (D 11 = true → v98 = .int .i64 (d8 : Int)) ∧ (D 12 = true → v99 = .string (s.extract p d8)) ∧ (D 13 = true → ∃ gb : Nat, v100 = .slice (some ⟨gb, 0, none⟩) 1 1 ∧ (D 14 = false → CellsAt w' (some ⟨gb, 0, none⟩) 1 1 [.string (s.extract p d8)])) ∧ (D 14 = true → ∃ (A' : Option Addr) (c' : Nat), v101 = .slice A' (k + 1) c' ∧ w'.ownsRow W.heap.size 9 1 (.slice A' (k + 1) c') (k + 1) (((exL s e8 k).map Value.string) ++ [.string (s.extract p d8)])) ∧ (D 15 = true → v102 = .pointer (some ⟨h, 7, none⟩)) ∧ (D 16 = true → ∃ (A' : Option Addr) (c' : Nat), BoxL w' h [.int .i64 (a : Int), .int .i64 (b : Int), .int .i64 (c : Int), .string t1, .string t2, .string t3, .int .i64 (d : Int), .slice A' (k + 1) c'] ∧ w'.ownsRow W.heap.size 9 1 (.slice A' (k + 1) c') (k + 1) (((exL s e8 k).map Value.string) ++ [.string (s.extract p d8)])))
                ⟨_, _, _, _, _, _, _, _, _, _, _, _, _, _, _, _, rfl, B.drew, (R.keep (Below.refl _ _).drew), (keep_cell (Below.refl _ _).drew m0), (by simpa using hz0), (fun _ => C.keep (Below.refl _ _).drew), (fun _ => own_chL own (Ch.of_below (S := fun _ => False) (Below.refl _ _).drew) (fun _ _ h => h)), (fun h => by cases h), (fun h => by cases h), (fun h => by cases h), (fun h => by cases h), (fun h => by cases h), (fun h => by cases h), (fun h => by cases h), (fun h => by cases h), (fun h => by cases h), (fun h => by cases h), (fun h => by cases h), (fun h => by cases h), (fun h => by cases h), (fun h => by cases h), (fun h => by cases h), (fun h => by cases h), (fun h => by cases h)⟩ ?_ ?_
              · intro i D vs w' hi hD hdep hcl hI
                have hi' : i < 17 := hi
                obtain ⟨v87, v88, v89, v90, v91, v92, v93, v94, v95, v96, v97, v98, v99, v100, v101, v102, rfl, hB, hR, hm0, hz, hC, hown, k0, k1, k2, k3, k4, k5, k6, k7, k8, k9, k10, k11, k12, k13, k14, k15, k16⟩ := hI
                simp only [putAll, List.setIfInBounds_toArray, List.set_cons_succ, List.set_cons_zero]
                rcases (show i = 0 ∨ i = 1 ∨ i = 2 ∨ i = 3 ∨ i = 4 ∨ i = 5 ∨ i = 6 ∨ i = 7 ∨ i = 8 ∨ i = 9 ∨ i = 10 ∨ i = 11 ∨ i = 12 ∨ i = 13 ∨ i = 14 ∨ i = 15 ∨ i = 16 by omega) with rfl | rfl | rfl | rfl | rfl | rfl | rfl | rfl | rfl | rfl | rfl | rfl | rfl | rfl | rfl | rfl | rfl
                · refine wpOp_step (by simp only [List.getElem?_toArray, List.getElem?_cons_zero]; rfl) (fun K hK => ?_)
                  go_simp
                  refine hK _ _ ⟨[.pointer (some ⟨h, 7, none⟩), v88, v89, v90, v91, v92, v93, v94, v95, v96, v97, v98, v99, v100, v101, v102], ?_, _, _, _, _, _, _, _, _, _, _, _, _, _, _, _, _, rfl, hB, hR, hm0, hz, hC, hown, (fun _ => rfl), k1, k2, k3, k4, k5, k6, k7, k8, k9, k10, k11, k12, k13, k14, k15, k16⟩
                  simp only [putAll, List.setIfInBounds_toArray, List.set_cons_succ, List.set_cons_zero] <;> rfl
                · have e0 := k0 (hdep 0 (by kernel_rfl))
                  subst e0
                  have n16 : D 16 = false := Bool.eq_false_iff.2 (fun h => absurd (hcl 14 1 (hcl 16 14 h (by kernel_rfl)) (by kernel_rfl)) (by rw [hD]; simp))
                  have q7 := (hC n16).cell 7 _ rfl
                  refine wpOp_step (by simp only [List.getElem?_toArray, List.getElem?_cons_succ, List.getElem?_cons_zero]; rfl) (fun K hK => ?_)
                  go_simp
                  refine hK _ _ ⟨[.pointer (some ⟨h, 7, none⟩), .slice A k cap, v89, v90, v91, v92, v93, v94, v95, v96, v97, v98, v99, v100, v101, v102], ?_, _, _, _, _, _, _, _, _, _, _, _, _, _, _, _, _, rfl, hB, hR, hm0, hz, hC, hown, (fun _ => rfl), (fun _ => rfl), k2, k3, k4, k5, k6, k7, k8, k9, k10, k11, k12, k13, k14, k15, k16⟩
                  simp only [putAll, List.setIfInBounds_toArray, List.set_cons_succ, List.set_cons_zero] <;> rfl
                · refine wpOp_step (by simp only [List.getElem?_toArray, List.getElem?_cons_succ, List.getElem?_cons_zero]; rfl) (fun K hK => ?_)
                  go_simp
                  refine hK _ _ ⟨[v87, v88, .string s, v90, v91, v92, v93, v94, v95, v96, v97, v98, v99, v100, v101, v102], ?_, _, _, _, _, _, _, _, _, _, _, _, _, _, _, _, _, rfl, hB, hR, hm0, hz, hC, hown, k0, k1, (fun _ => rfl), k3, k4, k5, k6, k7, k8, k9, k10, k11, k12, k13, k14, k15, k16⟩
                  simp only [putAll, List.setIfInBounds_toArray, List.set_cons_succ, List.set_cons_zero] <;> rfl
                · refine wpOp_step (by simp only [List.getElem?_toArray, List.getElem?_cons_succ, List.getElem?_cons_zero]; rfl) (fun K hK => ?_)
                  go_simp
                  refine hK _ _ ⟨[v87, v88, v89, .int .i64 (e8 : Int), v91, v92, v93, v94, v95, v96, v97, v98, v99, v100, v101, v102], ?_, _, _, _, _, _, _, _, _, _, _, _, _, _, _, _, _, rfl, hB, hR, hm0, hz, hC, hown, k0, k1, k2, (fun _ => rfl), k4, k5, k6, k7, k8, k9, k10, k11, k12, k13, k14, k15, k16⟩
                  simp only [putAll, List.setIfInBounds_toArray, List.set_cons_succ, List.set_cons_zero] <;> rfl
                · refine wpOp_step (by simp only [List.getElem?_toArray, List.getElem?_cons_succ, List.getElem?_cons_zero]; rfl) (fun K hK => ?_)
                  go_simp
                  refine hK _ _ ⟨[v87, v88, v89, v90, .int .i64 (k : Int), v92, v93, v94, v95, v96, v97, v98, v99, v100, v101, v102], ?_, _, _, _, _, _, _, _, _, _, _, _, _, _, _, _, _, rfl, hB, hR, hm0, hz, hC, hown, k0, k1, k2, k3, (fun _ => rfl), k5, k6, k7, k8, k9, k10, k11, k12, k13, k14, k15, k16⟩
                  simp only [putAll, List.setIfInBounds_toArray, List.set_cons_succ, List.set_cons_zero] <;> rfl
                · have e4 := k4 (hdep 4 (by kernel_rfl))
                  subst e4
                  have hw : IntKind.i64.wrap (8 * (k : Int)) = 8 * k := by rw [IntKind.wrap_i64]; omega
                  refine wpOp_step (by simp only [List.getElem?_toArray, List.getElem?_cons_succ, List.getElem?_cons_zero]; rfl) (fun K hK => ?_)
                  go_simp
                  refine hK _ _ ⟨[v87, v88, v89, v90, .int .i64 (k : Int), .int .i64 (8 * (k : Int)), v93, v94, v95, v96, v97, v98, v99, v100, v101, v102], ?_, _, _, _, _, _, _, _, _, _, _, _, _, _, _, _, _, rfl, hB, hR, hm0, hz, hC, hown, k0, k1, k2, k3, (fun _ => rfl), (fun _ => rfl), k6, k7, k8, k9, k10, k11, k12, k13, k14, k15, k16⟩
                  simp only [putAll, List.setIfInBounds_toArray, List.set_cons_succ, List.set_cons_zero] <;> rfl
                · have e3 := k3 (hdep 3 (by kernel_rfl))
                  subst e3
                  have e5 := k5 (hdep 5 (by kernel_rfl))
                  subst e5
                  have hw : IntKind.i64.wrap (p : Int) = p := by rw [IntKind.wrap_i64]; omega
                  refine wpOp_step (by simp only [List.getElem?_toArray, List.getElem?_cons_succ, List.getElem?_cons_zero]; rfl) (fun K hK => ?_)
                  go_simp
                  refine hK _ _ ⟨[v87, v88, v89, .int .i64 (e8 : Int), v91, .int .i64 (8 * (k : Int)), .int .i64 (p : Int), v94, v95, v96, v97, v98, v99, v100, v101, v102], ?_, _, _, _, _, _, _, _, _, _, _, _, _, _, _, _, _, rfl, hB, hR, hm0, hz, hC, hown, k0, k1, k2, (fun _ => rfl), k4, (fun _ => rfl), (fun _ => rfl), k7, k8, k9, k10, k11, k12, k13, k14, k15, k16⟩
                  simp only [putAll, List.setIfInBounds_toArray, List.set_cons_succ, List.set_cons_zero] <;> rfl
                · refine wpOp_step (by simp only [List.getElem?_toArray, List.getElem?_cons_succ, List.getElem?_cons_zero]; rfl) (fun K hK => ?_)
                  go_simp
                  refine hK _ _ ⟨[v87, v88, v89, v90, v91, v92, v93, .int .i64 (e8 : Int), v95, v96, v97, v98, v99, v100, v101, v102], ?_, _, _, _, _, _, _, _, _, _, _, _, _, _, _, _, _, rfl, hB, hR, hm0, hz, hC, hown, k0, k1, k2, k3, k4, k5, k6, (fun _ => rfl), k8, k9, k10, k11, k12, k13, k14, k15, k16⟩
                  simp only [putAll, List.setIfInBounds_toArray, List.set_cons_succ, List.set_cons_zero] <;> rfl
                · refine wpOp_step (by simp only [List.getElem?_toArray, List.getElem?_cons_succ, List.getElem?_cons_zero]; rfl) (fun K hK => ?_)
                  go_simp
                  refine hK _ _ ⟨[v87, v88, v89, v90, v91, v92, v93, v94, .int .i64 (k : Int), v96, v97, v98, v99, v100, v101, v102], ?_, _, _, _, _, _, _, _, _, _, _, _, _, _, _, _, _, rfl, hB, hR, hm0, hz, hC, hown, k0, k1, k2, k3, k4, k5, k6, k7, (fun _ => rfl), k9, k10, k11, k12, k13, k14, k15, k16⟩
                  simp only [putAll, List.setIfInBounds_toArray, List.set_cons_succ, List.set_cons_zero] <;> rfl
                · have e8 := k8 (hdep 8 (by kernel_rfl))
                  subst e8
                  have hw : IntKind.i64.wrap (8 * (k : Int)) = 8 * k := by rw [IntKind.wrap_i64]; omega
                  refine wpOp_step (by simp only [List.getElem?_toArray, List.getElem?_cons_succ, List.getElem?_cons_zero]; rfl) (fun K hK => ?_)
                  go_simp
                  refine hK _ _ ⟨[v87, v88, v89, v90, v91, v92, v93, v94, .int .i64 (k : Int), .int .i64 (8 * (k : Int)), v97, v98, v99, v100, v101, v102], ?_, _, _, _, _, _, _, _, _, _, _, _, _, _, _, _, _, rfl, hB, hR, hm0, hz, hC, hown, k0, k1, k2, k3, k4, k5, k6, k7, (fun _ => rfl), (fun _ => rfl), k10, k11, k12, k13, k14, k15, k16⟩
                  simp only [putAll, List.setIfInBounds_toArray, List.set_cons_succ, List.set_cons_zero] <;> rfl
                · have e7 := k7 (hdep 7 (by kernel_rfl))
                  subst e7
                  have e9 := k9 (hdep 9 (by kernel_rfl))
                  subst e9
                  have hw : IntKind.i64.wrap (p : Int) = p := by rw [IntKind.wrap_i64]; omega
                  refine wpOp_step (by simp only [List.getElem?_toArray, List.getElem?_cons_succ, List.getElem?_cons_zero]; rfl) (fun K hK => ?_)
                  go_simp
                  refine hK _ _ ⟨[v87, v88, v89, v90, v91, v92, v93, .int .i64 (e8 : Int), v95, .int .i64 (8 * (k : Int)), .int .i64 (p : Int), v98, v99, v100, v101, v102], ?_, _, _, _, _, _, _, _, _, _, _, _, _, _, _, _, _, rfl, hB, hR, hm0, hz, hC, hown, k0, k1, k2, k3, k4, k5, k6, (fun _ => rfl), k8, (fun _ => rfl), (fun _ => rfl), k11, k12, k13, k14, k15, k16⟩
                  simp only [putAll, List.setIfInBounds_toArray, List.set_cons_succ, List.set_cons_zero] <;> rfl
                · have e10 := k10 (hdep 10 (by kernel_rfl))
                  subst e10
                  have hw : IntKind.i64.wrap (d8 : Int) = d8 := by rw [IntKind.wrap_i64]; omega
                  refine wpOp_step (by simp only [List.getElem?_toArray, List.getElem?_cons_succ, List.getElem?_cons_zero]; rfl) (fun K hK => ?_)
                  go_simp
                  refine hK _ _ ⟨[v87, v88, v89, v90, v91, v92, v93, v94, v95, v96, .int .i64 (p : Int), .int .i64 (d8 : Int), v99, v100, v101, v102], ?_, _, _, _, _, _, _, _, _, _, _, _, _, _, _, _, _, rfl, hB, hR, hm0, hz, hC, hown, k0, k1, k2, k3, k4, k5, k6, k7, k8, k9, (fun _ => rfl), (fun _ => rfl), k12, k13, k14, k15, k16⟩
                  simp only [putAll, List.setIfInBounds_toArray, List.set_cons_succ, List.set_cons_zero] <;> rfl
                · have e2 := k2 (hdep 2 (by kernel_rfl))
                  subst e2
                  have e6 := k6 (hdep 6 (by kernel_rfl))
                  subst e6
                  have e11 := k11 (hdep 11 (by kernel_rfl))
                  subst e11
                  have q1 : (d8 : Int) ≤ (s.size : Int) := by omega
                  have q4 : (p : Int) ≤ (d8 : Int) := by omega
                  have q5 : (d8 : Int) ≤ (e8 : Int) + 8 * (m : Int) := by omega
                  have q6 : d8 ≤ s.size := hps
                  refine wpOp_step (by simp only [List.getElem?_toArray, List.getElem?_cons_succ, List.getElem?_cons_zero]; rfl) (fun K hK => ?_)
                  go_simp
                  refine hK _ _ ⟨[v87, v88, .string s, v90, v91, v92, .int .i64 (p : Int), v94, v95, v96, v97, .int .i64 (d8 : Int), .string (s.extract p d8), v100, v101, v102], ?_, _, _, _, _, _, _, _, _, _, _, _, _, _, _, _, _, rfl, hB, hR, hm0, hz, hC, hown, k0, k1, (fun _ => rfl), k3, k4, k5, (fun _ => rfl), k7, k8, k9, k10, (fun _ => rfl), (fun _ => rfl), k13, k14, k15, k16⟩
                  simp only [putAll, List.setIfInBounds_toArray, List.set_cons_succ, List.set_cons_zero] <;> rfl
                · have e12 := k12 (hdep 12 (by kernel_rfl))
                  subst e12
                  have n14 : D 14 = false := Bool.eq_false_iff.2 (fun h => absurd (hcl 14 13 h (by kernel_rfl)) (by rw [hD]; simp))
                  have n16 : D 16 = false := Bool.eq_false_iff.2 (fun h => absurd (hcl 14 13 (hcl 16 14 h (by kernel_rfl)) (by kernel_rfl)) (by rw [hD]; simp))
                  have hal := (Below.refl w'.heap.size w').alloc (Nat.le_refl _) (.cells #[.string (s.extract p d8)] 9)
                  refine wpOp_step (by simp only [List.getElem?_toArray, List.getElem?_cons_succ, List.getElem?_cons_zero]; rfl) (fun K hK => ?_)
                  go_simp
                  refine hK _ _ ⟨[v87, v88, v89, v90, v91, v92, v93, v94, v95, v96, v97, v98, .string (s.extract p d8), .slice (some ⟨w'.heap.size, 0, none⟩) 1 1, v101, v102], ?_, _, _, _, _, _, _, _, _, _, _, _, _, _, _, _, _, rfl, (bthen hB hal), (hR.keep hal), (keep_cell hal hm0), (Nat.le_trans hz hal.size), (fun h' => (hC h').keep hal), (fun h' => own_chL (hown h') (Ch.of_below (S := fun _ => False) hal) (fun _ _ h => h)), k0, k1, k2, k3, k4, k5, k6, k7, k8, k9, k10, k11, (fun _ => rfl), (fun _ => ⟨_, rfl, fun _ => new1c _ [.string (s.extract p d8)] 1 rfl _⟩), (fun h => by rw [show D 14 = true from by simpa using h] at n14; cases n14), k15, (fun h => by rw [show D 16 = true from by simpa using h] at n16; cases n16)⟩
                  simp only [putAll, List.setIfInBounds_toArray, List.set_cons_succ, List.set_cons_zero] <;> rfl
                · have e1 := k1 (hdep 1 (by kernel_rfl))
                  subst e1
                  obtain ⟨gb, rfl, hcl4⟩ := k13 (hdep 13 (by kernel_rfl))
                  have n16 : D 16 = false := Bool.eq_false_iff.2 (fun h => absurd (hcl 16 14 h (by kernel_rfl)) (by rw [hD]; simp))
                  refine wpOp_step (by simp only [List.getElem?_toArray, List.getElem?_cons_succ, List.getElem?_cons_zero]; rfl) (fun K hK => ?_)
                  refine step_app (by rfl) (.tmp 88) (.tmp 100) 38 (by rfl) W.heap.size 9 _ 1 16 Try.underlying38 infoString rfl (by omega) (.slice A k cap) k ((exL s e8 k).map Value.string) (by rfl) (hown hD) (some ⟨gb, 0, none⟩) 1 1 [.string (s.extract p d8)] (by rfl) (hcl4 hD) (by simp [Value.oneCell']) (fun h => by cases h) (by unfold maxLen; omega) (by omega) hz ?_
                  intro A' c' wq own5 hg5q hbq hobq
                  refine hK _ _ ⟨[v87, .slice A k cap, v89, v90, v91, v92, v93, v94, v95, v96, v97, v98, v99, .slice (some ⟨gb, 0, none⟩) 1 1, .slice A' (k + 1) c', v102], ?_, _, _, _, _, _, _, _, _, _, _, _, _, _, _, _, _, rfl, (hB.trans (hbq.mono (by omega))), (hR.below hbq (by omega)), ((hbq.cell (p := ⟨g5, 0, none⟩) hg5W).trans hm0), (Nat.le_trans hz hbq.size), (fun h' => (hC h').below hbq hhW), (fun h => absurd h (by simp)), k0, (fun _ => rfl), k2, k3, k4, k5, k6, k7, k8, k9, k10, k11, k12, (fun _ => ⟨gb, rfl, fun h => absurd h (by simp)⟩), (fun _ => ⟨A', c', rfl, own5⟩), k15, (fun h => by rw [show D 16 = true from by simpa using h] at n16; cases n16)⟩
                  simp only [Act.put, putAll, List.setIfInBounds_toArray, List.set_cons_succ, List.set_cons_zero] <;> rfl
                · refine wpOp_step (by simp only [List.getElem?_toArray, List.getElem?_cons_succ, List.getElem?_cons_zero]; rfl) (fun K hK => ?_)
                  go_simp
                  refine hK _ _ ⟨[v87, v88, v89, v90, v91, v92, v93, v94, v95, v96, v97, v98, v99, v100, v101, .pointer (some ⟨h, 7, none⟩)], ?_, _, _, _, _, _, _, _, _, _, _, _, _, _, _, _, _, rfl, hB, hR, hm0, hz, hC, hown, k0, k1, k2, k3, k4, k5, k6, k7, k8, k9, k10, k11, k12, k13, k14, (fun _ => rfl), k16⟩
                  simp only [putAll, List.setIfInBounds_toArray, List.set_cons_succ, List.set_cons_zero] <;> rfl
                · obtain ⟨A', c', rfl, own5⟩ := k14 (hdep 14 (by kernel_rfl))
                  have e15 := k15 (hdep 15 (by kernel_rfl))
                  subst e15
                  have hCn := hC hD
                  have q7 := hCn.cell 7 _ rfl
                  have y7 := hCn.fz 7 (by simp)
                  have d14 : D 14 = true := hdep 14 (by kernel_rfl)
                  have one : Ch (fun k => k = h) w' (w'.setCell ⟨h, 7, none⟩ (.slice A' (k + 1) c')) := Ch.set
                  have own6 := own_chL own5 one (fun b hb h2 => by have h2 : b = h := h2; have := (own_lo own5 b hb).1; omega)
                  refine wpOp_step (by simp only [List.getElem?_toArray, List.getElem?_cons_succ, List.getElem?_cons_zero]; rfl) (fun K hK => ?_)
                  go_simp
                  refine hK _ _ ⟨[v87, v88, v89, v90, v91, v92, v93, v94, v95, v96, v97, v98, v99, v100, .slice A' (k + 1) c', .pointer (some ⟨h, 7, none⟩)], ?_, _, _, _, _, _, _, _, _, _, _, _, _, _, _, _, _, rfl, (one.belowB hB (by omega) (fun k hk => by have hk : k = h := hk; omega)), (hR.ch one (ne_blk (by omega))), (one.cell hm0 (ne_blk (by omega))), (Nat.le_trans hz one.size), (fun h => absurd h (by simp)), (fun h' => by rw [show D 14 = false from by simpa using h'] at d14; cases d14), k0, k1, k2, k3, k4, k5, k6, k7, k8, k9, k10, k11, k12, (fun _ => by obtain ⟨gb, e4, h5⟩ := k13 (hcl 14 13 d14 (by kernel_rfl)); exact ⟨gb, e4, fun h' => by rw [show D 14 = false from by simpa using h'] at d14; cases d14⟩), (fun _ => ⟨A', c', rfl, own6⟩), (fun _ => rfl), (fun _ => ⟨A', c', hCn.set (j := 7) (by simp), own6⟩)⟩
                  simp only [putAll, List.setIfInBounds_toArray, List.set_cons_succ, List.set_cons_zero] <;> rfl
              · intro D vs w' hD hI
                obtain ⟨v87, v88, v89, v90, v91, v92, v93, v94, v95, v96, v97, v98, v99, v100, v101, v102, rfl, hB, hR, hm0, hz, hC, hown, k0, k1, k2, k3, k4, k5, k6, k7, k8, k9, k10, k11, k12, k13, k14, k15, k16⟩ := hI
                simp only [putAll, List.setIfInBounds_toArray, List.set_cons_succ, List.set_cons_zero]
                obtain ⟨A', c', C6, own6⟩ := k16 (hD 16 (show 16 < 17 by decide))
                clear hD hC hown
                go_wp2
                refine ⟨⟨k + 1, A', c', by go_num, by omega, hR, C6, hm0, ?_, hB, hz⟩, by simp [intOf]; omega⟩
                rw [exL_succ, List.map_append, ← HP.out, ← HD.out]; exact own6
            · have hkm : k = m := by omega
              subst hkm
              have HR := rd_end (bad := false) (fun x h1 h2 => ⟨(HEE.out x h1 h2).1, rfl⟩)
              obtain ⟨X, hX⟩ : ∃ X : Cm, X = ⟨a, b, c, t1, t2, t3, d, exL s e8 k⟩ := ⟨_, rfl⟩
              rw [← hX] at HR
              have hsz8 := exL_size s e8 k
              have hXc : X.ch = exL s e8 k := by rw [hX]
              have hcB : cmB X := by rw [hX]; exact ⟨by simp only; omega, by simp only; omega, by simp only; omega, by simp only [exL_len]; omega, fun y hy => by have := hsz8 y hy; omega⟩
              have hStr : StrR wr A k cap X.ch := by rw [hXc]; exact strs_fin _ _ _ _ _ (own_up own (Nat.zero_le _))
              have hShow : Calls Try.prog 72 #[.agg #[.int .i64 (a : Int), .int .i64 (b : Int), .int .i64 (c : Int), .string t1, .string t2, .string t3, .int .i64 (d : Int), .slice A k cap]] wr fun e w' => e = .returned (.string (cmText X)) ∧ Below wr.heap.size wr w' := by
                have hcV : cmV X (.slice A k cap) = .agg #[.int .i64 (a : Int), .int .i64 (b : Int), .int .i64 (c : Int), .string t1, .string t2, .string t3, .int .i64 (d : Int), .slice A k cap] := by rw [hX]; rfl
                rw [← hcV]; exact showCmd_spec X _ _ _ _ hStr hcB
              clear hcB hStr hXc
              have ilt : ¬ ((k : Int) < (k : Int)) := by omega
              have hCr := C.range
              go_wp2_with (first | ((with_reducible refine loadCmd ?_ (.tmp 10) ?_ h ?_ [.int .i64 (a : Int), .int .i64 (b : Int), .int .i64 (c : Int), .string t1, .string t2, .string t3, .int .i64 (d : Int), .slice A k cap] ?_ hCr ?_); (rfl); (rfl); (rfl); (rfl)) | fail)
              refine hShow.mono ?_
              rintro e w9 ⟨rfl, hb9⟩
              clear hShow hCr
              have R' := R.keep hb9; clear R; have R := R'; clear R'
              have C' := C.keep hb9; clear C; have C := C'; clear C'
              have B' := bthen B hb9; clear B; have B := B'; clear B'
              have hz9 := hb9.size
              rcases HR with ⟨_, hne, htx, hr, hrb⟩ | ⟨hbad, hr, hrb⟩
              · have g1 : ((cmText X).toList == s.toList) = true := by rw [htx]; simp
                have HRR := Lib.hid hr; have HRB := Lib.hid hrb; have HX := Lib.hid hX
                clear htx hr hrb hne hX HEE
                have hRt := R.there (n := 8) rfl
                obtain ⟨WF, hWF⟩ : ∃ W, W = w9.setCells w.heap.size 0 (#[.int .i64 (a : Int), .int .i64 (b : Int), .int .i64 (c : Int), .string t1, .string t2, .string t3, .int .i64 (d : Int), .slice A k cap] : Array Value).toList := ⟨_, rfl⟩
                have cF : Ch (fun b => b = w.heap.size) w9 WF := by rw [hWF]; exact ch_setCells _ _ _
                have RF : BoxL WF w.heap.size [.int .i64 (a : Int), .int .i64 (b : Int), .int .i64 (c : Int), .string t1, .string t2, .string t3, .int .i64 (d : Int), .slice A k cap] := by rw [hWF]; exact R.setCells rfl
                have hOne : (#[.int .i64 (a : Int), .int .i64 (b : Int), .int .i64 (c : Int), .string t1, .string t2, .string t3, .int .i64 (d : Int), .slice A k cap] : Array Value).all (·.oneCell') = true := all_oneCell_toArray (cs := [.int .i64 (a : Int), .int .i64 (b : Int), .int .i64 (c : Int), .string t1, .string t2, .string t3, .int .i64 (d : Int), .slice A k cap]) (by simp [Value.oneCell'])
                have hWr := RF.range
                have hBF : Below w.heap.size w WF := cF.belowB B (by omega) (fun k hk => by have hk : k = _ := hk; omega)
                have ho9 := own_chL own (Ch.of_below (S := fun _ => False) hb9) (fun _ _ h => h)
                have hoF := own_chL ho9 cF (fun b hb h2 => by have h2 : b = w.heap.size := h2; have := (own_lo ho9 b hb).1; omega)
                have hCr := C.range
                have HWF := Lib.hid hWF; clear hWF cF RF R own ho9 C
                repeat (first | ((with_reducible refine wpList_store_mid ?_ 47 (.tmp 2) (.tmp 108) ?_ w.heap.size 0 #[.int .i64 (a : Int), .int .i64 (b : Int), .int .i64 (c : Int), .string t1, .string t2, .string t3, .int .i64 (d : Int), .slice A k cap] ?_ ?_ ?_ ?_ hOne ?_); all_goals (first | rw [← HWF.out] | exact hRt | exact sizeCmd | rfl)) | ((with_reducible refine loadCmd ?_ (.tmp 10) ?_ h ?_ [.int .i64 (a : Int), .int .i64 (b : Int), .int .i64 (c : Int), .string t1, .string t2, .string t3, .int .i64 (d : Int), .slice A k cap] ?_ hCr ?_); (rfl); (rfl); (rfl); (rfl)) | go_values | go_skip | go_guarded | go_step | go_upon | (simp only []; go_at_K))
                try simp only [Exit.inBlock, Exit.then]
                refine bodyPost_ret (results_cell_tmp Try.results83 rfl hWr Try.underlying47 rfl sizeCmd) rfl ?_
                rw [HRR.out, HRB.out, HX.out]
                exact ⟨⟨A, _, cap, _, rfl, StrO.mk' (own_up hoF (Nat.zero_le _)), by cases A <;> simp [blkL], fun b hb => by have := own_lo hoF b hb; omega⟩, hBF⟩
              · have HN := Lib.hid (show rdCm s = cmNil ∧ rdCmB s = false from ⟨hr, hrb⟩)
                have g1 : ((cmText X).toList == s.toList) = false := by
                  rw [str_beq]
                  rcases hbad with h | h | h
                  · cases h
                  · exact absurd h hne0
                  · simpa using h
                clear hbad hr hrb hX HEE
                have hRt := R.there (n := 8) rfl
                obtain ⟨WF, hWF⟩ : ∃ W, W = w9.setCells w.heap.size 0 (#[.int .i64 0, .int .i64 0, .int .i64 0, .string ⟨#[]⟩, .string ⟨#[]⟩, .string ⟨#[]⟩, .int .i64 0, .slice none 0 0] : Array Value).toList := ⟨_, rfl⟩
                have cF : Ch (fun b => b = w.heap.size) w9 WF := by rw [hWF]; exact ch_setCells _ _ _
                have RF : BoxL WF w.heap.size [.int .i64 0, .int .i64 0, .int .i64 0, .string ⟨#[]⟩, .string ⟨#[]⟩, .string ⟨#[]⟩, .int .i64 0, .slice none 0 0] := by rw [hWF]; exact R.setCells rfl
                have hWr := RF.range
                have hgs : w.heap.size < w9.heap.size := R.lt
                have hBF : Below w.heap.size w WF := cF.belowB B (by omega) (fun k hk => by have hk : k = _ := hk; omega)
                have HWF := Lib.hid hWF; clear hWF cF RF R
                repeat (first | ((with_reducible refine wpList_store_mid ?_ 47 (.tmp 2) (.tmp 107) ?_ w.heap.size 0 #[.int .i64 0, .int .i64 0, .int .i64 0, .string ⟨#[]⟩, .string ⟨#[]⟩, .string ⟨#[]⟩, .int .i64 0, .slice none 0 0] ?_ ?_ ?_ ?_ zOne8 ?_); all_goals (first | rw [← HWF.out] | exact hRt | exact sizeCmd | rfl)) | go_values | go_skip | go_guarded | go_step | go_upon | (simp only []; go_at_K))
                try simp only [Exit.inBlock, Exit.then]
                refine bodyPost_ret (results_cell_tmp Try.results83 rfl hWr Try.underlying47 rfl sizeCmd) rfl ?_
                rw [HN.out.1, HN.out.2]
                exact ⟨⟨none, 0, 0, [], rfl, StrO.nil, List.nodup_nil, fun b hb => by cases hb⟩, hBF⟩
      · have HN := NO (fun x h1 h2 => by
          obtain ⟨g4, g5', g6, g7, g8, q1, q2, q3, q4, q5, q6, _⟩ := cm_parseS h1 h2
          have hb := (cmOk_bd h1).ch
          rw [f1] at q1; simp only [Prod.mk.injEq, Int.natCast_inj] at q1; obtain ⟨_, rfl⟩ := q1
          rw [f2] at q2; simp only [Prod.mk.injEq] at q2; obtain ⟨_, rfl⟩ := q2
          rw [f3] at q3; simp only [Prod.mk.injEq] at q3; obtain ⟨_, rfl⟩ := q3
          rw [f4] at q4; simp only [Prod.mk.injEq] at q4; obtain ⟨_, rfl⟩ := q4
          rw [f5] at q5; simp only [Prod.mk.injEq, List.cons.injEq, and_true, Int.natCast_inj] at q5
          obtain ⟨rfl, rfl⟩ := q5
          exact hcond ⟨hb, q6.symm⟩)
        clear NO f1 f2 f3 f4 f5
        have hwrap : m ≤ 562949953421311 := hm
        by_cases h84 : (4 : Int) < (m : Int)
        · skip
          have hRt := R.there (n := 8) rfl
          obtain ⟨WF, hWF⟩ : ∃ W, W = w5.setCells w.heap.size 0 (#[.int .i64 0, .int .i64 0, .int .i64 0, .string ⟨#[]⟩, .string ⟨#[]⟩, .string ⟨#[]⟩, .int .i64 0, .slice none 0 0] : Array Value).toList := ⟨_, rfl⟩
          have cF : Ch (fun b => b = w.heap.size) w5 WF := by rw [hWF]; exact ch_setCells _ _ _
          have RF : BoxL WF w.heap.size [.int .i64 0, .int .i64 0, .int .i64 0, .string ⟨#[]⟩, .string ⟨#[]⟩, .string ⟨#[]⟩, .int .i64 0, .slice none 0 0] := by rw [hWF]; exact R.setCells rfl
          have hWr := RF.range
          have hgs : w.heap.size < w5.heap.size := R.lt
          have hBF : Below w.heap.size w WF := cF.belowB B (by omega) (fun k hk => by have hk : k = _ := hk; omega)
          have HWF := Lib.hid hWF; clear hWF cF RF R
          repeat (first | ((with_reducible refine wpList_store_mid ?_ 47 (.tmp 2) (.tmp 63) ?_ w.heap.size 0 #[.int .i64 0, .int .i64 0, .int .i64 0, .string ⟨#[]⟩, .string ⟨#[]⟩, .string ⟨#[]⟩, .int .i64 0, .slice none 0 0] ?_ ?_ ?_ ?_ zOne8 ?_); all_goals (first | rw [← HWF.out] | exact hRt | exact sizeCmd | rfl)) | go_values | go_skip | go_guarded | go_step | go_upon | (simp only []; go_at_K))
          try simp only [Exit.inBlock, Exit.then]
          refine bodyPost_ret (results_cell_tmp Try.results83 rfl hWr Try.underlying47 rfl sizeCmd) rfl ?_
          rw [HN.out.1, HN.out.2]
          exact ⟨⟨none, 0, 0, [], rfl, StrO.nil, List.nodup_nil, fun b hb => by cases hb⟩, hBF⟩
        · have gsz : ¬ ((s.size : Int) = (e8 : Int) + 8 * (m : Int)) := by omega
          have hRt := R.there (n := 8) rfl
          obtain ⟨WF, hWF⟩ : ∃ W, W = w5.setCells w.heap.size 0 (#[.int .i64 0, .int .i64 0, .int .i64 0, .string ⟨#[]⟩, .string ⟨#[]⟩, .string ⟨#[]⟩, .int .i64 0, .slice none 0 0] : Array Value).toList := ⟨_, rfl⟩
          have cF : Ch (fun b => b = w.heap.size) w5 WF := by rw [hWF]; exact ch_setCells _ _ _
          have RF : BoxL WF w.heap.size [.int .i64 0, .int .i64 0, .int .i64 0, .string ⟨#[]⟩, .string ⟨#[]⟩, .string ⟨#[]⟩, .int .i64 0, .slice none 0 0] := by rw [hWF]; exact R.setCells rfl
          have hWr := RF.range
          have hgs : w.heap.size < w5.heap.size := R.lt
          have hBF : Below w.heap.size w WF := cF.belowB B (by omega) (fun k hk => by have hk : k = _ := hk; omega)
          have HWF := Lib.hid hWF; clear hWF cF RF R
          repeat (first | ((with_reducible refine wpList_store_mid ?_ 47 (.tmp 2) (.tmp 63) ?_ w.heap.size 0 #[.int .i64 0, .int .i64 0, .int .i64 0, .string ⟨#[]⟩, .string ⟨#[]⟩, .string ⟨#[]⟩, .int .i64 0, .slice none 0 0] ?_ ?_ ?_ ?_ zOne8 ?_); all_goals (first | rw [← HWF.out] | exact hRt | exact sizeCmd | rfl)) | go_values | go_skip | go_guarded | go_step | go_upon | (simp only []; go_at_K))
          try simp only [Exit.inBlock, Exit.then]
          refine bodyPost_ret (results_cell_tmp Try.results83 rfl hWr Try.underlying47 rfl sizeCmd) rfl ?_
          rw [HN.out.1, HN.out.2]
          exact ⟨⟨none, 0, 0, [], rfl, StrO.nil, List.nodup_nil, fun b hb => by cases hb⟩, hBF⟩
end Go.Proofs.Ytdphdnllhmnelaa
/- Plain laws: what the reference's reader of an instance has read so far agrees with whatever instance the text is the text of. -/
namespace Go.Proofs.Ytdphdnllhmnelaa
open Go.RowKit

def InK (s : ByteArray) (a b c d u v : Nat) (q : Bool) (t : ByteArray) (m : Nat) (ds : List Idd) (p : Int) : Prop :=
  ∀ x, insOkB x = true → insText x = s → x.id = ⟨a, b⟩ ∧ x.bal = (c : Int) - 1 ∧ x.vb = (d : Int) - 1 ∧ x.st = u ∧ x.seq = v ∧ x.same = q ∧ cmText x.cmd = t ∧ m = x.deps.length ∧ ds = x.deps.take ds.length ∧ ∃ e : Nat, p = e ∧ e ≤ s.size ∧ s.extract e s.size = depL (x.deps.drop ds.length)
theorem InK.start {s : ByteArray} {a b c d u v e6 m e8 : Nat} {q : Bool} {t : ByteArray} {p2 : Int} (f1 : vsF s 6 ([], 0) = ([a, b, c, d, u, v], (e6 : Int))) (hq : (((bAt s e6 : Nat) : Int) == 1) = q) (f2 : tkF s ((e6 + 1 : Nat) : Int) = (t, p2)) (f5 : vsF s 1 ([], p2) = ([m], (e8 : Int))) :
    InK s a b c d u v q t m [] e8 := by
  intro x hc hs
  obtain ⟨g6, g8, g9, q1, _, hbt, q2, q3, h9, hx⟩ := ins_parseS hc hs
  have hb := insOk_bd hc
  rw [f1] at q1; simp only [Prod.mk.injEq, List.cons.injEq, and_true, Int.natCast_inj] at q1
  obtain ⟨⟨r1, r2, r3, r4, r5, r6⟩, rfl⟩ := q1
  rw [f2] at q2; simp only [Prod.mk.injEq] at q2; obtain ⟨r7, rfl⟩ := q2
  rw [f5] at q3; simp only [Prod.mk.injEq, List.cons.injEq, and_true, Int.natCast_inj] at q3
  obtain ⟨r8, rfl⟩ := q3
  have k1 := hb.r; have k2 := hb.s; have k3 := hb.bal; have k4 := hb.vb; have k5 := hb.st; have k6 := hb.seq
  rw [hbt] at hq
  obtain ⟨⟨cr, cs⟩, cb, cv, ct, cc, cq, cd, cm⟩ := x
  simp only at k1 k2 k3 k4 k5 k6 r1 r2 r3 r4 r5 r6 r7 r8 hx hq
  exact ⟨by simp only [Idd.mk.injEq]; omega, by simp only; omega, by simp only; omega, by simp only; omega, by simp only; omega, by simp only; rw [← hq]; cases cm <;> rfl, r7.symm, r8, by simp, _, rfl, h9, by simpa using hx⟩
theorem InK.next {s : ByteArray} {a b c d u v m : Nat} {q : Bool} {t : ByteArray} {ds : List Idd} {p : Int} (h : InK s a b c d u v q t m ds p) (hm : ds.length < m) {x : Ins} (hc : insOkB x = true) (hs : insText x = s) :
    ∃ e : Nat, vsF s 2 ([], p) = ([(iddAt x.deps ds.length).r.toNat, (iddAt x.deps ds.length).s.toNat], (e : Int)) ∧ e ≤ s.size ∧ s.extract e s.size = depL (x.deps.drop (ds.length + 1)) := by
  obtain ⟨_, _, _, _, _, _, _, h8, _, e0, rfl, he, hx⟩ := h x hc hs
  exact dep_step (insOk_bd hc) he (by omega) hx
theorem InK.no {s : ByteArray} {a b c d u v m : Nat} {q : Bool} {t : ByteArray} {ds : List Idd} {p : Int} (h : InK s a b c d u v q t m ds p) (hm : ds.length < m) {r : List Nat × Int} (f : vsF s 2 ([], p) = r) (hn : r.2 < 0) : ∀ x, insOkB x = true → insText x = s → False := by
  intro x hc hs
  obtain ⟨e, p1, _⟩ := h.next hm hc hs
  rw [f] at p1
  rw [p1] at hn
  simp only at hn
  omega
theorem InK.step {s : ByteArray} {a b c d u v m : Nat} {q : Bool} {t : ByteArray} {ds : List Idd} {p : Int} {a' b' e : Nat} (h : InK s a b c d u v q t m ds p) (hm : ds.length < m) (f : vsF s 2 ([], p) = ([a', b'], (e : Int))) : InK s a b c d u v q t m (ds ++ [⟨a', b'⟩]) e := by
  intro x hc hs
  obtain ⟨h1, h2, h3, h4, h5, h6, h7, h8, h9, e0, rfl, he, hx⟩ := h x hc hs
  obtain ⟨e2, p1, he2, hx2⟩ := h.next hm hc hs
  rw [f] at p1
  simp only [Prod.mk.injEq, List.cons.injEq, and_true, Int.natCast_inj] at p1
  obtain ⟨⟨r1, r2⟩, rfl⟩ := p1
  have hk : ds.length < x.deps.length := by omega
  have hd := (insOk_bd hc).dep _ hk
  refine ⟨h1, h2, h3, h4, h5, h6, h7, h8, ?_, _, rfl, he2, by rw [List.length_append]; exact hx2⟩
  rw [List.length_append, List.length_singleton, List.take_succ_eq_append_getElem hk, ← h9]
  have e := iddAt_get hk
  rw [← e]
  congr 2
  generalize iddAt x.deps ds.length = y at hd r1 r2 ⊢
  obtain ⟨yr, ys⟩ := y
  simp only at hd r1 r2 ⊢
  rw [Idd.mk.injEq]; omega
theorem InK.end_ {s : ByteArray} {a b c d u v m : Nat} {q : Bool} {t : ByteArray} {ds : List Idd} {p : Int} (h : InK s a b c d u v q t m ds p) (hm : m ≤ ds.length) : ∀ x, insOkB x = true → insText x = s → x = ⟨⟨a, b⟩, (c : Int) - 1, (d : Int) - 1, u, rdCm t, v, ds, q⟩ ∧ false = false := by
  intro x hc hs
  obtain ⟨h1, h2, h3, h4, h5, h6, h7, h8, h9, e0, _, _, _⟩ := h x hc hs
  have hl : ds.length = x.deps.length ∨ x.deps.length < ds.length := by omega
  have h10 : ds = x.deps := by
    rw [h9, List.take_of_length_le (by omega)]
  refine ⟨?_, rfl⟩
  have e1 := (rdCm_yes (insOk_bd hc).cmd h7).1
  rw [← h1, ← h2, ← h3, ← h4, ← h5, ← h6, e1, h10]
end Go.Proofs.Ytdphdnllhmnelaa
