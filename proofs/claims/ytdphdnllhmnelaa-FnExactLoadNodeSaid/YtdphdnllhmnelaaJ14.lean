/- Contracts and lemmas: LoadNode. -/
import Derived.Test.YtdphdnllhmnelaaJ13
import Derived.Test.YtdphdnllhmnelaaJ10
/- Contract of the program's LoadNode. -/
namespace Go.Proofs.Ytdphdnllhmnelaa
open Go.RowKit
attribute [local irreducible] StrsAt StrR StrO RowR RowO varS insOkB insText vsF tkF numF rdIn rdInB savT ldN ldNB frs unfr insTo_ noFr
set_option maxRecDepth 8000 in
set_option maxHeartbeats 8000000 in
theorem loadNode_impl (s : ByteArray) (w : World) (hs : s.size ≤ 1048576) :
    Calls Try.prog 38 #[.string s] w fun e w' => (∃ A1 n1 c1 A2 n2 c2 f1 f2, e = .returned (.tuple #[nodV (ldN s) (.slice A1 n1 c1) (.slice A2 n2 c2), .bool (ldNB s)]) ∧ RowO insF 50 16 f1 w' A1 n1 c1 (ldN s).insts ∧ RowO leaF 170 8 f2 w' A2 n2 c2 (ldN s).leads ∧ (f1 ++ f2).Nodup ∧ ∀ b ∈ f1 ++ f2, w.heap.size ≤ b ∧ b < w'.heap.size) ∧ Below w.heap.size w w' := by
  go_enter Try.func38, Try.ntmps38
  go_wp2_with fail
  have al := (Below.refl w.heap.size w).alloc (Nat.le_refl _) (.cells #[.int .i64 0, .int .i64 0, .slice none 0 0, .slice none 0 0] 67)
  obtain ⟨W0, hW0⟩ : ∃ W, W = w.alloc (.cells #[.int .i64 0, .int .i64 0, .slice none 0 0, .slice none 0 0] 67) := ⟨_, rfl⟩
  have R : BoxL W0 w.heap.size [.int .i64 0, .int .i64 0, .slice none 0 0, .slice none 0 0] := by rw [hW0]; exact BoxL.new w _ _
  have hR0 : w.heap.size < W0.heap.size := R.lt
  rw [← hW0] at al ⊢
  have B := al
  clear al hW0
  refine (unframe_impl s _ hs).mono ?_
  rintro e w1 ⟨⟨ts, a, O, cap, rfl, hu, T⟩, hb1⟩
  have R' := R.ch (Ch.of_below (S := fun _ => False) hb1) (fun h => h); clear R; have R := R'; clear R'
  have B' := bthen B hb1; clear B; have B := B'; clear B'
  have NO : (∀ x, ldOk x s → False) → Hid (ldN s = nodNil ∧ ldNB s = false) := fun h => Lib.hid (ld_no h)
  have hf : frs s ts a := by unfold unfr at hu; exact hu.1
  have h200 := ts200 hf
  have hts5 : 5 * ts.length ≤ a := by unfold frs at hf; exact hf.2.2.2
  have haz : a ≤ s.size := by unfold frs at hf; exact hf.1
  have HU := Lib.hid hu; clear hu hf
  have hT0 := own_lo T
  by_cases hae : a = s.size
  rotate_left
  · have HN := NO (fun x hx => hae (ld_ts hx HU.out).2)
    have g1 : ((a : Int) != (s.size : Int)) = true := by simp; omega
    have g2 : ((a : Int) == (s.size : Int)) = false := by simp; omega
    clear NO T hT0 hae
    have hRt := R.there (n := 4) rfl
    obtain ⟨WF, hWF⟩ : ∃ W, W = w1.setCells w.heap.size 0 (#[.int .i64 0, .int .i64 0, .slice none 0 0, .slice none 0 0] : Array Value).toList := ⟨_, rfl⟩
    have cF : Ch (fun b => b = w.heap.size) w1 WF := by rw [hWF]; exact ch_setCells _ _ _
    have RF : BoxL WF w.heap.size [.int .i64 0, .int .i64 0, .slice none 0 0, .slice none 0 0] := by rw [hWF]; exact R.setCells rfl
    have hWr := RF.range
    have hgs := R.lt
    have hBF : Below w.heap.size w WF := cF.belowB B (by have := B.size; omega) (fun k hk => by have hk : k = _ := hk; omega)
    have HWF := Lib.hid hWF; clear hWF cF RF R
    repeat (first | ((with_reducible refine wpList_store_mid ?_ 67 (.tmp 2) (.tmp 26) ?_ w.heap.size 0 #[.int .i64 0, .int .i64 0, .slice none 0 0, .slice none 0 0] ?_ ?_ ?_ ?_ zOne4 ?_); all_goals (first | rw [← HWF.out] | exact hRt | exact sizeNode | rfl)) | go_values | go_skip | go_guarded | go_step | go_upon | (simp only []; go_at_K))
    try simp only [Exit.inBlock, Exit.then]
    refine bodyPost_ret (results_cell_tmp Try.results38 rfl hWr Try.underlying67 rfl sizeNode) rfl ?_
    rw [HN.out.1, HN.out.2]
    exact ⟨⟨none, 0, 0, none, 0, 0, [], [], rfl, RowO.nil, RowO.nil, List.nodup_nil, fun b hb => by cases hb⟩, hBF⟩
  have HAE := Lib.hid hae
  have g1 : ((a : Int) != (s.size : Int)) = false := by simp; omega
  have g2 : ((a : Int) == (s.size : Int)) = true := by simp; omega
  by_cases hn0 : ts.length = 0
  · have HN := NO (fun x hx => by have := (ld_hd hx HU.out).2.1; omega)
    have g3 : ((ts.length : Int) == 0) = true := beq_iff_eq.2 (by omega)
    clear NO T hT0 hae
    have hRt := R.there (n := 4) rfl
    obtain ⟨WF, hWF⟩ : ∃ W, W = w1.setCells w.heap.size 0 (#[.int .i64 0, .int .i64 0, .slice none 0 0, .slice none 0 0] : Array Value).toList := ⟨_, rfl⟩
    have cF : Ch (fun b => b = w.heap.size) w1 WF := by rw [hWF]; exact ch_setCells _ _ _
    have RF : BoxL WF w.heap.size [.int .i64 0, .int .i64 0, .slice none 0 0, .slice none 0 0] := by rw [hWF]; exact R.setCells rfl
    have hWr := RF.range
    have hgs := R.lt
    have hBF : Below w.heap.size w WF := cF.belowB B (by have := B.size; omega) (fun k hk => by have hk : k = _ := hk; omega)
    have HWF := Lib.hid hWF; clear hWF cF RF R
    repeat (first | ((with_reducible refine wpList_store_mid ?_ 67 (.tmp 2) (.tmp 26) ?_ w.heap.size 0 #[.int .i64 0, .int .i64 0, .slice none 0 0, .slice none 0 0] ?_ ?_ ?_ ?_ zOne4 ?_); all_goals (first | rw [← HWF.out] | exact hRt | exact sizeNode | rfl)) | go_values | go_skip | go_guarded | go_step | go_upon | (simp only []; go_at_K))
    try simp only [Exit.inBlock, Exit.then]
    refine bodyPost_ret (results_cell_tmp Try.results38 rfl hWr Try.underlying67 rfl sizeNode) rfl ?_
    rw [HN.out.1, HN.out.2]
    exact ⟨⟨none, 0, 0, none, 0, 0, [], [], rfl, RowO.nil, RowO.nil, List.nodup_nil, fun b hb => by cases hb⟩, hBF⟩
  have g3 : ((ts.length : Int) == 0) = false := beq_eq_false_iff_ne.2 (by omega)
  have hne : s ≠ ByteArray.empty := fun he => by
    have h0 : s.size = 0 := by rw [he]; rfl
    omega
  clear hae
  obtain ⟨n, hn⟩ : ∃ n, ts.length = n + 1 := ⟨ts.length - 1, by omega⟩
  have HL := Lib.hid hn
  have hn1 : n + 1 ≤ ts.length := (by omega); have hn2 : ts.length ≤ n + 1 := (by omega)
  have hn20 : n ≤ 209715 := by omega
  obtain ⟨b0, o0, hO, hc0⟩ := (own_cells T).2 (by omega)
  subst hO
  have hb0 := hT0 b0 (by simp [blkL])
  have hcap := (own_le T).1
  have hrW : w.heap.size < b0 := by have h1 := hb0.1; have h2 : w.heap.size < W0.heap.size := hR0; omega
  have u0 : w1.cell? ⟨b0, o0, none⟩ = some (.string (sAt ts 0)) := hc0 0 _ (sAt_get? (by omega))
  have k0 := h200 0
  have ilt : (0 : Int) < (ts.length : Int) := by omega
  have hb0w := hb0.2
  clear hc0 hT0 hn0 hn
  have al := (Below.refl w1.heap.size w1).alloc (Nat.le_refl _) (.cells #[.string (sAt ts 0), .bool false] 119)
  obtain ⟨g, hg⟩ : ∃ g, w1.heap.size = g := ⟨_, rfl⟩
  have S : Scn (w1.alloc (.cells #[.string (sAt ts 0), .bool false] 119)) g (sAt ts 0, false) := by rw [← hg]; exact ⟨by simp [go_sem], by simp [go_sem], by simp [go_sem], by simp [go_sem], by simp only; omega⟩
  have HG := Lib.hid hg
  have hb0g : b0 < g := by omega
  have hrg : w.heap.size < g := by omega
  clear hg
  go_wp2_with fail
  rw [HG.out]
  obtain ⟨W2, hW2⟩ : ∃ W, W = w1.alloc (.cells #[.string (sAt ts 0), .bool false] 119) := ⟨_, rfl⟩
  rw [← hW2] at al S ⊢
  clear hW2 u0
  have R' := R.ch (Ch.of_below (S := fun _ => False) al) (fun h => h); clear R; have R := R'; clear R'
  have T' := own_chL T (Ch.of_below (S := fun _ => False) al) (fun _ _ h => h); clear T; have T := T'; clear T'
  have B' := bthen B al; clear B; have B := B'; clear B'
  refine (num_impl _ _ _ S).mono ?_
  rintro e w3 ⟨rfl, S', c1⟩
  clear S; have S := S'; clear S'
  have R' := R.ch c1 (ne_blk (by omega)); clear R; have R := R'; clear R'
  have T' := own_chL T c1 (fun b hb h2 => by have h2 : b = g := h2; have hb : b = b0 := (by simpa [blkL] using hb); omega); clear T; have T := T'; clear T'
  have B' := c1.belowB B (by have := B.size; omega) (fun k hk => by have hk : k = _ := hk; omega); clear B; have B := B'; clear B'
  have q1 := numF_le (sAt ts 0, false)
  obtain ⟨⟨v1, x1⟩, f1⟩ : ∃ r, numF (sAt ts 0, false) = r := ⟨_, rfl⟩
  rw [f1] at S q1 ⊢
  simp only at S q1 ⊢
  have F1 := Lib.hid f1; clear f1 c1
  have q0 := S.lt
  obtain ⟨h, hh⟩ : ∃ h, w3.heap.size = h := ⟨_, rfl⟩
  have al := (Below.refl w3.heap.size w3).alloc (Nat.le_refl _) (.cells #[.int .i64 (v1 : Int), .int .i64 0, .slice none 0 0, .slice none 0 0] 67)
  have C : BoxL (w3.alloc (.cells #[.int .i64 (v1 : Int), .int .i64 0, .slice none 0 0, .slice none 0 0] 67)) h [.int .i64 (v1 : Int), .int .i64 0, .slice none 0 0, .slice none 0 0] := by rw [← hh]; exact BoxL.new w3 _ _
  have HH := Lib.hid hh
  have hgh : g < h := by omega
  clear hh q0
  go_wp2_with fail
  try rw [HH.out]
  obtain ⟨W4, hW4⟩ : ∃ W, W = w3.alloc (.cells #[.int .i64 (v1 : Int), .int .i64 0, .slice none 0 0, .slice none 0 0] 67) := ⟨_, rfl⟩
  rw [← hW4] at al C ⊢
  clear hW4
  have R' := R.ch (Ch.of_below (S := fun _ => False) al) (fun h => h); clear R; have R := R'; clear R'
  have T' := own_chL T (Ch.of_below (S := fun _ => False) al) (fun _ _ h => h); clear T; have T := T'; clear T'
  have S' := S.ch (Ch.of_below (S := fun _ => False) al) (fun h => h); clear S; have S := S'; clear S'
  have B' := bthen B al; clear B; have B := B'; clear B'
  refine (num_impl _ _ _ S).mono ?_
  rintro e w5 ⟨rfl, S', c2⟩
  clear S; have S := S'; clear S'
  have R' := R.ch c2 (ne_blk (by omega)); clear R; have R := R'; clear R'
  have T' := own_chL T c2 (fun b hb h2 => by have h2 : b = g := h2; have hb : b = b0 := (by simpa [blkL] using hb); omega); clear T; have T := T'; clear T'
  have C' := C.ch c2 (ne_blk (by omega)); clear C; have C := C'; clear C'
  have B' := c2.belowB B (by have := B.size; omega) (fun k hk => by have hk : k = _ := hk; omega); clear B; have B := B'; clear B'
  have q2 := numF_le x1
  obtain ⟨⟨v2, x2⟩, f2⟩ : ∃ r, numF x1 = r := ⟨_, rfl⟩
  rw [f2] at S q2 ⊢
  simp only at S q2 ⊢
  have F2 := Lib.hid f2; clear f2 c2
  have e1 := C.cell 1 _ rfl; have y1 := C.fz 1 (by simp); have eL := C.lt
  by_cases hc1 : cap = 1
  · skip
    have HC1 := Lib.hid hc1
    have hn00 : n = 0 := by omega
    have HN0 := Lib.hid hn00; clear hn00
    go_wp2
    clear e1 y1 eL
    obtain ⟨L, hL⟩ : ∃ W, W = w5.setCell ⟨h, 1, none⟩ (.int .i64 (v2 : Int)) := ⟨_, rfl⟩
    rw [← hL]
    have d : Ch (fun k => k = h) w5 L := by rw [hL]; exact Ch.set
    have C' : BoxL L h [.int .i64 (v1 : Int), .int .i64 (v2 : Int), .slice none 0 0, .slice none 0 0] := by rw [hL]; exact C.set (j := 1) (by simp)
    clear C hL
    have R' := R.ch d (ne_blk (by omega)); clear R; have R := R'; clear R'
    have T' := own_chL T d (fun b hb h2 => by have h2 : b = h := h2; have hb : b = b0 := (by simpa [blkL] using hb); omega); clear T; have T := T'; clear T'
    have S' := S.ch d (ne_blk (by omega)); clear S; have S := S'; clear S'
    have B' := d.belowB B (by have := B.size; omega) (fun k hk => by have hk : k = _ := hk; omega); clear B; have B := B'; clear B'
    have C := C'; clear C' d
    have HD := Lib.hid (show ∀ x, ldOk x s → v1 = x.me.toNat ∧ v2 = x.next.toNat ∧ x2.2 = false ∧ x2.1 = ByteArray.empty from fun x hx => by
      have h1 := (ld_hd hx HU.out).1
      obtain ⟨n1, n2⟩ := hdT_num hx.2.1
      have f1 := F1.out; have f2 := F2.out
      rw [h1, n1] at f1; simp only [Prod.mk.injEq] at f1
      obtain ⟨rfl, rfl⟩ := f1
      rw [n2] at f2; simp only [Prod.mk.injEq] at f2
      obtain ⟨rfl, rfl⟩ := f2
      exact ⟨rfl, rfl, rfl, rfl⟩)
    clear F1 F2
    have hhL := C.lt
    have hrL := R.lt
    have hb0L : b0 < L.heap.size := by omega
    go_loopw [41] (fun i wr => ∃ (k : Nat) (A2 : Option Addr) (c2 : Nat) (css : List (List Value)) (fps : List (List Nat)), k ≤ n ∧ i = .int .i64 (k : Nat) ∧ BoxL wr w.heap.size [.int .i64 0, .int .i64 0, .slice none 0 0, .slice none 0 0] ∧ BoxL wr h [.int .i64 (v1 : Int), .int .i64 (v2 : Int), .slice A2 k c2, .slice none 0 0] ∧ Scn wr g x2 ∧ wr.ownsRow W0.heap.size 9 1 (.slice (some ⟨b0, o0, none⟩) ts.length cap) ts.length (ts.map Value.string) ∧ wr.ownsRow 0 50 16 (.slice A2 k c2) k css.flatten ∧ Els insF wr css fps (insTo_ ts k) ∧ (blkL A2 ++ fps.flatten).Nodup ∧ (∀ x ∈ blkL A2 ++ fps.flatten, L.heap.size ≤ x) ∧ (∀ j, j < k → rdInB (sAt ts (j + 1)) = true) ∧ Below w.heap.size w wr ∧ L.heap.size ≤ wr.heap.size) (fun i _ => n - (intOf i).toNat)
    case atStart => exact ⟨0, none, 0, [], [], Nat.zero_le _, rfl, R, C, S, T, World.ownsRow_nil _ _ _ _, by rw [insTo_zero]; exact Els.nil, by simp [blkL], fun x hx => by simp [blkL] at hx, fun j hj => absurd hj (by omega), B, Nat.le_refl _⟩
    case round =>
      clear R C S T B
      obtain ⟨k, A2, c2, css, fps, hk, rfl, R, C, S, T, own, E, hND, hBD, hok, B, hzL⟩ := hrel
      have HOK := Lib.hid hok; clear hok
      have hOldx : ∀ x ∈ blkL A2 ++ fps.flatten, x < wr.heap.size := fun x hx => by
        rcases List.mem_append.1 hx with hx | hx
        · exact (own_lo own x hx).2
        · exact E.lt insK x hx
      have hEb : ∀ x ∈ fps.flatten, L.heap.size ≤ x := fun x hx => hBD x (List.mem_append_right _ hx)
      have hAb : ∀ x ∈ blkL A2, L.heap.size ≤ x := fun x hx => hBD x (List.mem_append_left _ hx)
      by_cases hlt : k < n
      · skip
        exact absurd hlt (by have := HN0.out; omega)
      · skip
        have hkn : k = n := by omega
        obtain ⟨X, hX⟩ : ∃ X : Nod, X = ⟨(v1 : Int), (v2 : Int), insTo_ ts k, []⟩ := ⟨_, rfl⟩
        have hXi : X.insts = insTo_ ts k := by rw [hX]
        have hXl : X.leads = [] := by rw [hX]
        have HE : ∀ x, ldOk x s → x = X := fun x hx => by
          rw [hX, insTo_all (k := k) (by have := HL.out; omega)]
          exact ld_is hx HU.out (HD.out x hx).1 (HD.out x hx).2.1
        have HR := ld_end hXl hne HE
        have hnB : nodB X := ⟨by rw [hXi]; exact insTo_B (by omega) (by omega) HOK.out, by rw [hXl]; exact ⟨Nat.zero_le _, fun y hy => by cases hy⟩⟩
        have hrow : RowO insF 50 16 (blkL A2 ++ fps.flatten) wr A2 k c2 X.insts := by rw [hXi]; exact RowO.intro own (by rw [insTo_len (by omega)]) E
        have hlds : RowO leaF 170 8 [] wr none 0 0 X.leads := by rw [hXl]; exact RowO.nil
        have hSave : Calls Try.prog 35 #[.agg #[.int .i64 (v1 : Int), .int .i64 (v2 : Int), .slice A2 k c2, .slice none 0 0]] wr fun e w' => e = .returned (.string (savT X)) ∧ Below wr.heap.size wr w' := by
          have hcV : nodV X (.slice A2 k c2) (.slice none 0 0) = .agg #[.int .i64 (v1 : Int), .int .i64 (v2 : Int), .slice A2 k c2, .slice none 0 0] := by rw [hX]; rfl
          rw [← hcV]; exact saveNode_impl X _ _ _ _ _ _ _ (hrow.at_ insK (by omega)) (hlds.at_ leaK (by omega)) hnB
        clear hnB hXi hXl own E HE
        have HX := Lib.hid hX; clear hX
        have ilt2 : ¬ ((k : Int) < (n : Int)) := by omega
        have hnI : (ts.length : Int) - 1 = (n : Int) := by omega
        have e0 := C.cell 0 _ rfl; have e1 := C.cell 1 _ rfl; have e2 := C.cell 2 _ rfl; have e3 := C.cell 3 _ rfl; have eL := C.lt
        clear hkn
        obtain ⟨t2, bad⟩ := x2
        have s0 := S.c0; have s1 := S.c1; have sL := S.lt
        simp only at s0 s1 HD
        have hte := isEmpty_str t2
        cases bad
        rotate_left
        · have HN := NO (fun x hx => by have := (HD.out x hx).2.2.1; cases this)
          clear HR hSave hrow hlds T C NO hte
          have hRt := R.there (n := 4) rfl
          obtain ⟨WF, hWF⟩ : ∃ W, W = wr.setCells w.heap.size 0 (#[.int .i64 0, .int .i64 0, .slice none 0 0, .slice none 0 0] : Array Value).toList := ⟨_, rfl⟩
          have cF : Ch (fun b => b = w.heap.size) wr WF := by rw [hWF]; exact ch_setCells _ _ _
          have RF : BoxL WF w.heap.size [.int .i64 0, .int .i64 0, .slice none 0 0, .slice none 0 0] := by rw [hWF]; exact R.setCells rfl
          have hWr := RF.range
          have hgs := R.lt
          have hBF : Below w.heap.size w WF := cF.belowB B (by have := B.size; omega) (fun k hk => by have hk : k = _ := hk; omega)
          have HWF := Lib.hid hWF; clear hWF cF RF R
          repeat (first | ((with_reducible refine wpList_store_mid ?_ 67 (.tmp 2) (.tmp 77) ?_ w.heap.size 0 #[.int .i64 0, .int .i64 0, .slice none 0 0, .slice none 0 0] ?_ ?_ ?_ ?_ zOne4 ?_); all_goals (first | rw [← HWF.out] | exact hRt | exact sizeNode | rfl)) | go_values | go_skip | go_guarded | go_step | go_upon | (simp only []; go_at_K))
          try simp only [Exit.inBlock, Exit.then]
          refine bodyPost_ret (results_cell_tmp Try.results38 rfl hWr Try.underlying67 rfl sizeNode) rfl ?_
          rw [HN.out.1, HN.out.2]
          exact ⟨⟨none, 0, 0, none, 0, 0, [], [], rfl, RowO.nil, RowO.nil, List.nodup_nil, fun b hb => by cases hb⟩, hBF⟩
        by_cases ht2 : t2 = ByteArray.empty
        rotate_left
        · have HN := NO (fun x hx => ht2 (HD.out x hx).2.2.2)
          rw [decide_eq_false ht2] at hte
          clear HR hSave hrow hlds T C NO ht2
          have hRt := R.there (n := 4) rfl
          obtain ⟨WF, hWF⟩ : ∃ W, W = wr.setCells w.heap.size 0 (#[.int .i64 0, .int .i64 0, .slice none 0 0, .slice none 0 0] : Array Value).toList := ⟨_, rfl⟩
          have cF : Ch (fun b => b = w.heap.size) wr WF := by rw [hWF]; exact ch_setCells _ _ _
          have RF : BoxL WF w.heap.size [.int .i64 0, .int .i64 0, .slice none 0 0, .slice none 0 0] := by rw [hWF]; exact R.setCells rfl
          have hWr := RF.range
          have hgs := R.lt
          have hBF : Below w.heap.size w WF := cF.belowB B (by have := B.size; omega) (fun k hk => by have hk : k = _ := hk; omega)
          have HWF := Lib.hid hWF; clear hWF cF RF R
          repeat (first | ((with_reducible refine wpList_store_mid ?_ 67 (.tmp 2) (.tmp 77) ?_ w.heap.size 0 #[.int .i64 0, .int .i64 0, .slice none 0 0, .slice none 0 0] ?_ ?_ ?_ ?_ zOne4 ?_); all_goals (first | rw [← HWF.out] | exact hRt | exact sizeNode | rfl)) | go_values | go_skip | go_guarded | go_step | go_upon | (simp only []; go_at_K))
          try simp only [Exit.inBlock, Exit.then]
          refine bodyPost_ret (results_cell_tmp Try.results38 rfl hWr Try.underlying67 rfl sizeNode) rfl ?_
          rw [HN.out.1, HN.out.2]
          exact ⟨⟨none, 0, 0, none, 0, 0, [], [], rfl, RowO.nil, RowO.nil, List.nodup_nil, fun b hb => by cases hb⟩, hBF⟩
        rw [decide_eq_true ht2] at hte
        clear ht2
        go_wp2_with fail
        refine hSave.mono ?_
        rintro e w9 ⟨rfl, hb9⟩
        clear hSave e0 e1 e2 e3 eL s0 s1 sL hte S
        have R' := R.ch (Ch.of_below (S := fun _ => False) hb9) (fun h => h); clear R; have R := R'; clear R'
        have C' := C.ch (Ch.of_below (S := fun _ => False) hb9) (fun h => h); clear C; have C := C'; clear C'
        have B' := bthen B hb9; clear B; have B := B'; clear B'
        have hsb := str_beq (savT X) s
        have hz9 := hb9.size
        rcases HR with ⟨htx, hr, hrb⟩ | ⟨htx, hr, hrb⟩
        · rw [decide_eq_true htx] at hsb
          have HRR := Lib.hid hr; have HRB := Lib.hid hrb
          clear htx hr hrb NO T
          have hrow9 := hrow.keep insK hb9; have hlds9 := hlds.keep leaK hb9
          clear hrow hlds
          have hRt := R.there (n := 4) rfl
          obtain ⟨WF, hWF⟩ : ∃ W, W = w9.setCells w.heap.size 0 (#[.int .i64 (v1 : Int), .int .i64 (v2 : Int), .slice A2 k c2, .slice none 0 0] : Array Value).toList := ⟨_, rfl⟩
          have cF : Ch (fun b => b = w.heap.size) w9 WF := by rw [hWF]; exact ch_setCells _ _ _
          have RF : BoxL WF w.heap.size [.int .i64 (v1 : Int), .int .i64 (v2 : Int), .slice A2 k c2, .slice none 0 0] := by rw [hWF]; exact R.setCells rfl
          have hOne : (#[.int .i64 (v1 : Int), .int .i64 (v2 : Int), .slice A2 k c2, .slice none 0 0] : Array Value).all (·.oneCell') = true := all_oneCell_toArray (cs := [.int .i64 (v1 : Int), .int .i64 (v2 : Int), .slice A2 k c2, .slice none 0 0]) (by simp [Value.oneCell'])
          have hWr := RF.range
          have hBF : Below w.heap.size w WF := cF.belowB B (by have := B.size; omega) (fun k hk => by have hk : k = _ := hk; omega)
          have hrowF := hrow9.ch insK cF (fun b hb h2 => by have h2 : b = w.heap.size := h2; have := hBD b hb; omega)
          have hldsF := hlds9.ch leaK cF (fun b hb => by cases hb)
          have hltF := hrowF.lt insK
          have hsz := cF.size
          have hCr := C.range; have eL := C.lt
          have HWF := Lib.hid hWF; clear hWF cF RF R C hrow9 hlds9
          repeat (first | ((with_reducible refine wpList_store_mid ?_ 67 (.tmp 2) (.tmp 78) ?_ w.heap.size 0 #[.int .i64 (v1 : Int), .int .i64 (v2 : Int), .slice A2 k c2, .slice none 0 0] ?_ ?_ ?_ ?_ hOne ?_); all_goals (first | rw [← HWF.out] | exact hRt | exact sizeNode | rfl)) | ((with_reducible refine wpList_load_o 67 (.tmp 7) h 0 [.int .i64 (v1 : Int), .int .i64 (v2 : Int), .slice A2 k c2, .slice none 0 0] _ hCr Try.underlying67 sizeNode ?_ ?_ ?_ ?_ ?_ ?_); (rfl); (rfl); (rfl); (rfl); (rfl)) | go_values | go_skip | go_guarded | go_step | go_upon | (simp only []; go_at_K))
          try simp only [Exit.inBlock, Exit.then]
          refine bodyPost_ret (results_cell_tmp Try.results38 rfl hWr Try.underlying67 rfl sizeNode) rfl ?_
          rw [HRR.out, HRB.out]
          have hV : nodV X (.slice A2 k c2) (.slice none 0 0) = .agg #[.int .i64 (v1 : Int), .int .i64 (v2 : Int), .slice A2 k c2, .slice none 0 0] := by rw [HX.out]; rfl
          exact ⟨⟨A2, k, c2, none, 0, 0, _, [], by rw [hV]; rfl, hrowF, hldsF, by rw [List.append_nil]; exact hND, fun b hb => by rw [List.append_nil] at hb; exact ⟨by have := hBD b hb; omega, hltF b hb⟩⟩, hBF⟩
        · rw [decide_eq_false htx] at hsb
          have HN := Lib.hid (show ldN s = nodNil ∧ ldNB s = false from ⟨hr, hrb⟩)
          clear htx hr hrb NO T hrow hlds C
          have hRt := R.there (n := 4) rfl
          obtain ⟨WF, hWF⟩ : ∃ W, W = w9.setCells w.heap.size 0 (#[.int .i64 0, .int .i64 0, .slice none 0 0, .slice none 0 0] : Array Value).toList := ⟨_, rfl⟩
          have cF : Ch (fun b => b = w.heap.size) w9 WF := by rw [hWF]; exact ch_setCells _ _ _
          have RF : BoxL WF w.heap.size [.int .i64 0, .int .i64 0, .slice none 0 0, .slice none 0 0] := by rw [hWF]; exact R.setCells rfl
          have hWr := RF.range
          have hgs := R.lt
          have hBF : Below w.heap.size w WF := cF.belowB B (by have := B.size; omega) (fun k hk => by have hk : k = _ := hk; omega)
          have HWF := Lib.hid hWF; clear hWF cF RF R
          repeat (first | ((with_reducible refine wpList_store_mid ?_ 67 (.tmp 2) (.tmp 77) ?_ w.heap.size 0 #[.int .i64 0, .int .i64 0, .slice none 0 0, .slice none 0 0] ?_ ?_ ?_ ?_ zOne4 ?_); all_goals (first | rw [← HWF.out] | exact hRt | exact sizeNode | rfl)) | go_values | go_skip | go_guarded | go_step | go_upon | (simp only []; go_at_K))
          try simp only [Exit.inBlock, Exit.then]
          refine bodyPost_ret (results_cell_tmp Try.results38 rfl hWr Try.underlying67 rfl sizeNode) rfl ?_
          rw [HN.out.1, HN.out.2]
          exact ⟨⟨none, 0, 0, none, 0, 0, [], [], rfl, RowO.nil, RowO.nil, List.nodup_nil, fun b hb => by cases hb⟩, hBF⟩
  · skip
    go_wp2
    clear e1 y1 eL
    obtain ⟨L, hL⟩ : ∃ W, W = w5.setCell ⟨h, 1, none⟩ (.int .i64 (v2 : Int)) := ⟨_, rfl⟩
    rw [← hL]
    have d : Ch (fun k => k = h) w5 L := by rw [hL]; exact Ch.set
    have C' : BoxL L h [.int .i64 (v1 : Int), .int .i64 (v2 : Int), .slice none 0 0, .slice none 0 0] := by rw [hL]; exact C.set (j := 1) (by simp)
    clear C hL
    have R' := R.ch d (ne_blk (by omega)); clear R; have R := R'; clear R'
    have T' := own_chL T d (fun b hb h2 => by have h2 : b = h := h2; have hb : b = b0 := (by simpa [blkL] using hb); omega); clear T; have T := T'; clear T'
    have S' := S.ch d (ne_blk (by omega)); clear S; have S := S'; clear S'
    have B' := d.belowB B (by have := B.size; omega) (fun k hk => by have hk : k = _ := hk; omega); clear B; have B := B'; clear B'
    have C := C'; clear C' d
    have HD := Lib.hid (show ∀ x, ldOk x s → v1 = x.me.toNat ∧ v2 = x.next.toNat ∧ x2.2 = false ∧ x2.1 = ByteArray.empty from fun x hx => by
      have h1 := (ld_hd hx HU.out).1
      obtain ⟨n1, n2⟩ := hdT_num hx.2.1
      have f1 := F1.out; have f2 := F2.out
      rw [h1, n1] at f1; simp only [Prod.mk.injEq] at f1
      obtain ⟨rfl, rfl⟩ := f1
      rw [n2] at f2; simp only [Prod.mk.injEq] at f2
      obtain ⟨rfl, rfl⟩ := f2
      exact ⟨rfl, rfl, rfl, rfl⟩)
    clear F1 F2
    have hhL := C.lt
    have hrL := R.lt
    have hb0L : b0 < L.heap.size := by omega
    go_loopw [41] (fun i wr => ∃ (k : Nat) (A2 : Option Addr) (c2 : Nat) (css : List (List Value)) (fps : List (List Nat)), k ≤ n ∧ i = .int .i64 (k : Nat) ∧ BoxL wr w.heap.size [.int .i64 0, .int .i64 0, .slice none 0 0, .slice none 0 0] ∧ BoxL wr h [.int .i64 (v1 : Int), .int .i64 (v2 : Int), .slice A2 k c2, .slice none 0 0] ∧ Scn wr g x2 ∧ wr.ownsRow W0.heap.size 9 1 (.slice (some ⟨b0, o0, none⟩) ts.length cap) ts.length (ts.map Value.string) ∧ wr.ownsRow 0 50 16 (.slice A2 k c2) k css.flatten ∧ Els insF wr css fps (insTo_ ts k) ∧ (blkL A2 ++ fps.flatten).Nodup ∧ (∀ x ∈ blkL A2 ++ fps.flatten, L.heap.size ≤ x) ∧ (∀ j, j < k → rdInB (sAt ts (j + 1)) = true) ∧ Below w.heap.size w wr ∧ L.heap.size ≤ wr.heap.size) (fun i _ => n - (intOf i).toNat)
    case atStart => exact ⟨0, none, 0, [], [], Nat.zero_le _, rfl, R, C, S, T, World.ownsRow_nil _ _ _ _, by rw [insTo_zero]; exact Els.nil, by simp [blkL], fun x hx => by simp [blkL] at hx, fun j hj => absurd hj (by omega), B, Nat.le_refl _⟩
    case round =>
      clear R C S T B
      obtain ⟨k, A2, c2, css, fps, hk, rfl, R, C, S, T, own, E, hND, hBD, hok, B, hzL⟩ := hrel
      have HOK := Lib.hid hok; clear hok
      have hOldx : ∀ x ∈ blkL A2 ++ fps.flatten, x < wr.heap.size := fun x hx => by
        rcases List.mem_append.1 hx with hx | hx
        · exact (own_lo own x hx).2
        · exact E.lt insK x hx
      have hEb : ∀ x ∈ fps.flatten, L.heap.size ≤ x := fun x hx => hBD x (List.mem_append_right _ hx)
      have hAb : ∀ x ∈ blkL A2, L.heap.size ≤ x := fun x hx => hBD x (List.mem_append_left _ hx)
      by_cases hlt : k < n
      · skip
        have ilt2 : (k : Int) < (n : Int) := by omega
        have hnI : (ts.length : Int) - 1 = (n : Int) := by omega
        have ut : wr.cell? ⟨b0, o0 + 1 + k, none⟩ = some (.string (sAt ts (k + 1))) := by have := own_at1 T (sAt_get? (ts := ts) (j := k + 1) (by omega)); rwa [show o0 + (k + 1) = o0 + 1 + k from by omega] at this
        have kk := h200 (k + 1)
        have hbl0 := cell_lt ut
        go_wp2_with fail
        refine (readInst_impl (sAt ts (k + 1)) _ (by omega)).mono ?_
        rintro e w6 ⟨⟨I1, m1, d1, I2, m2, d2, f1, f2, rfl, O1, O2, hN12, hF12⟩, hb6⟩
        clear ut hbl0
        have R' := R.ch (Ch.of_below (S := fun _ => False) hb6) (fun h => h); clear R; have R := R'; clear R'
        have C' := C.ch (Ch.of_below (S := fun _ => False) hb6) (fun h => h); clear C; have C := C'; clear C'
        have T' := own_chL T (Ch.of_below (S := fun _ => False) hb6) (fun _ _ h => h); clear T; have T := T'; clear T'
        have own' := own_chL own (Ch.of_below (S := fun _ => False) hb6) (fun _ _ h => h); clear own; have own := own'; clear own'
        have E' := Els.ch insK (Ch.of_below (S := fun _ => False) hb6) E (fun _ _ h => h); clear E; have E := E'; clear E'
        have S' := S.ch (Ch.of_below (S := fun _ => False) hb6) (fun h => h); clear S; have S := S'; clear S'
        have B' := bthen B hb6; clear B; have B := B'; clear B'
        have HS := Lib.hid (insTo_succ (ts := ts) (k := k) (by omega))
        have hl1 := O1.lt; have hl2 := O2.lt iddK
        have hz6 := hb6.size
        obtain ⟨y, hy⟩ : ∃ y, rdIn (sAt ts (k + 1)) = y := ⟨_, rfl⟩
        obtain ⟨q, hq⟩ : ∃ q, rdInB (sAt ts (k + 1)) = q := ⟨_, rfl⟩
        rw [hy] at O1 O2 HS ⊢; rw [hq]
        have HY := Lib.hid hy; have HQ := Lib.hid hq; clear hy hq
        unfold insV
        have al := (Below.refl w6.heap.size w6).alloc (Nat.le_refl _) (.cells #[.int .i64 y.id.r, .int .i64 y.id.s, .int .i64 y.bal, .int .i64 y.vb, .int .i64 y.st, .int .i64 y.cmd.kd, .int .i64 y.cmd.cl, .int .i64 y.cmd.no, .string y.cmd.s, .string y.cmd.nm, .string y.cmd.tg, .int .i64 y.cmd.n, .slice I1 m1 d1, .int .i64 y.seq, .slice I2 m2 d2, .bool y.same] 50)
        obtain ⟨gi, hgi⟩ : ∃ g, w6.heap.size = g := ⟨_, rfl⟩
        have BY : BoxL (w6.alloc (.cells #[.int .i64 y.id.r, .int .i64 y.id.s, .int .i64 y.bal, .int .i64 y.vb, .int .i64 y.st, .int .i64 y.cmd.kd, .int .i64 y.cmd.cl, .int .i64 y.cmd.no, .string y.cmd.s, .string y.cmd.nm, .string y.cmd.tg, .int .i64 y.cmd.n, .slice I1 m1 d1, .int .i64 y.seq, .slice I2 m2 d2, .bool y.same] 50)) gi [.int .i64 y.id.r, .int .i64 y.id.s, .int .i64 y.bal, .int .i64 y.vb, .int .i64 y.st, .int .i64 y.cmd.kd, .int .i64 y.cmd.cl, .int .i64 y.cmd.no, .string y.cmd.s, .string y.cmd.nm, .string y.cmd.tg, .int .i64 y.cmd.n, .slice I1 m1 d1, .int .i64 y.seq, .slice I2 m2 d2, .bool y.same] := by rw [← hgi]; exact BoxL.new w6 _ _
        have HGI := Lib.hid hgi; clear hgi
        obtain ⟨W7, hW7⟩ : ∃ W, W = w6.alloc (.cells #[.int .i64 y.id.r, .int .i64 y.id.s, .int .i64 y.bal, .int .i64 y.vb, .int .i64 y.st, .int .i64 y.cmd.kd, .int .i64 y.cmd.cl, .int .i64 y.cmd.no, .string y.cmd.s, .string y.cmd.nm, .string y.cmd.tg, .int .i64 y.cmd.n, .slice I1 m1 d1, .int .i64 y.seq, .slice I2 m2 d2, .bool y.same] 50) := ⟨_, rfl⟩
        have HW7 := Lib.hid hW7
        rw [← hW7] at al BY; clear hW7
        cases q
        · have HN := NO (fun x hx => by have h1 := ld_ins hx HU.out (k := k) (by omega); rw [HQ.out] at h1; cases h1)
          have R' := R.ch (Ch.of_below (S := fun _ => False) al) (fun h => h); clear R; have R := R'; clear R'
          have C' := C.ch (Ch.of_below (S := fun _ => False) al) (fun h => h); clear C; have C := C'; clear C'
          have T' := own_chL T (Ch.of_below (S := fun _ => False) al) (fun _ _ h => h); clear T; have T := T'; clear T'
          have own' := own_chL own (Ch.of_below (S := fun _ => False) al) (fun _ _ h => h); clear own; have own := own'; clear own'
          have E' := Els.ch insK (Ch.of_below (S := fun _ => False) al) E (fun _ _ h => h); clear E; have E := E'; clear E'
          have S' := S.ch (Ch.of_below (S := fun _ => False) al) (fun h => h); clear S; have S := S'; clear S'
          have B' := bthen B al; clear B; have B := B'; clear B'
          have O1' := O1
          clear O1' O1 O2 own E T C NO S
          rw [HW7.out] at R B
          have hRt := R.there (n := 4) rfl
          obtain ⟨WF, hWF⟩ : ∃ W, W = (w6.alloc (.cells #[.int .i64 y.id.r, .int .i64 y.id.s, .int .i64 y.bal, .int .i64 y.vb, .int .i64 y.st, .int .i64 y.cmd.kd, .int .i64 y.cmd.cl, .int .i64 y.cmd.no, .string y.cmd.s, .string y.cmd.nm, .string y.cmd.tg, .int .i64 y.cmd.n, .slice I1 m1 d1, .int .i64 y.seq, .slice I2 m2 d2, .bool y.same] 50)).setCells w.heap.size 0 (#[.int .i64 0, .int .i64 0, .slice none 0 0, .slice none 0 0] : Array Value).toList := ⟨_, rfl⟩
          have cF : Ch (fun b => b = w.heap.size) (w6.alloc (.cells #[.int .i64 y.id.r, .int .i64 y.id.s, .int .i64 y.bal, .int .i64 y.vb, .int .i64 y.st, .int .i64 y.cmd.kd, .int .i64 y.cmd.cl, .int .i64 y.cmd.no, .string y.cmd.s, .string y.cmd.nm, .string y.cmd.tg, .int .i64 y.cmd.n, .slice I1 m1 d1, .int .i64 y.seq, .slice I2 m2 d2, .bool y.same] 50)) WF := by rw [hWF]; exact ch_setCells _ _ _
          have RF : BoxL WF w.heap.size [.int .i64 0, .int .i64 0, .slice none 0 0, .slice none 0 0] := by rw [hWF]; exact R.setCells rfl
          have hWr := RF.range
          have hgs := R.lt
          have hBF : Below w.heap.size w WF := cF.belowB B (by have := B.size; omega) (fun k hk => by have hk : k = _ := hk; omega)
          have HWF := Lib.hid hWF; clear hWF cF RF R
          repeat (first | ((with_reducible refine wpList_store_mid ?_ 67 (.tmp 2) (.tmp 52) ?_ w.heap.size 0 #[.int .i64 0, .int .i64 0, .slice none 0 0, .slice none 0 0] ?_ ?_ ?_ ?_ zOne4 ?_); all_goals (first | rw [← HWF.out] | exact hRt | exact sizeNode | rfl)) | go_values | go_skip | go_guarded | go_step | go_upon | (simp only []; go_at_K))
          try simp only [Exit.inBlock, Exit.then]
          refine bodyPost_ret (results_cell_tmp Try.results38 rfl hWr Try.underlying67 rfl sizeNode) rfl ?_
          rw [HN.out.1, HN.out.2]
          exact ⟨⟨none, 0, 0, none, 0, 0, [], [], rfl, RowO.nil, RowO.nil, List.nodup_nil, fun b hb => by cases hb⟩, hBF⟩
        · skip
          have R' := R.ch (Ch.of_below (S := fun _ => False) al) (fun h => h); clear R; have R := R'; clear R'
          have C' := C.ch (Ch.of_below (S := fun _ => False) al) (fun h => h); clear C; have C := C'; clear C'
          have T' := own_chL T (Ch.of_below (S := fun _ => False) al) (fun _ _ h => h); clear T; have T := T'; clear T'
          have own' := own_chL own (Ch.of_below (S := fun _ => False) al) (fun _ _ h => h); clear own; have own := own'; clear own'
          have E' := Els.ch insK (Ch.of_below (S := fun _ => False) al) E (fun _ _ h => h); clear E; have E := E'; clear E'
          have S' := S.ch (Ch.of_below (S := fun _ => False) al) (fun h => h); clear S; have S := S'; clear S'
          have B' := bthen B al; clear B; have B := B'; clear B'
          have O1' := O1.keep al; have O2' := O2.keep iddK al; clear O1 O2; have O1 := O1'; have O2 := O2'; clear O1' O2'
          have hBYr := BY.range; have hzW7 := al.size
          have hCr := C.cell 2 _ rfl; have hCz := C.fz 2 (by simp); have hCl := C.lt
          have hIr : (w6.alloc (.cells #[.int .i64 y.id.r, .int .i64 y.id.s, .int .i64 y.bal, .int .i64 y.vb, .int .i64 y.st, .int .i64 y.cmd.kd, .int .i64 y.cmd.cl, .int .i64 y.cmd.no, .string y.cmd.s, .string y.cmd.nm, .string y.cmd.tg, .int .i64 y.cmd.n, .slice I1 m1 d1, .int .i64 y.seq, .slice I2 m2 d2, .bool y.same] 50)).rangeAt gi 0 [.int .i64 y.id.r, .int .i64 y.id.s, .int .i64 y.bal, .int .i64 y.vb, .int .i64 y.st, .int .i64 y.cmd.kd, .int .i64 y.cmd.cl, .int .i64 y.cmd.no, .string y.cmd.s, .string y.cmd.nm, .string y.cmd.tg, .int .i64 y.cmd.n, .slice I1 m1 d1, .int .i64 y.seq, .slice I2 m2 d2, .bool y.same] := by rw [← HW7.out]; exact hBYr
          have hCr2 : (w6.alloc (.cells #[.int .i64 y.id.r, .int .i64 y.id.s, .int .i64 y.bal, .int .i64 y.vb, .int .i64 y.st, .int .i64 y.cmd.kd, .int .i64 y.cmd.cl, .int .i64 y.cmd.no, .string y.cmd.s, .string y.cmd.nm, .string y.cmd.tg, .int .i64 y.cmd.n, .slice I1 m1 d1, .int .i64 y.seq, .slice I2 m2 d2, .bool y.same] 50)).cell? ⟨h, 2, none⟩ = some (.slice A2 k c2) := by rw [← HW7.out]; exact hCr
          have hCl2 : h < (w6.alloc (.cells #[.int .i64 y.id.r, .int .i64 y.id.s, .int .i64 y.bal, .int .i64 y.vb, .int .i64 y.st, .int .i64 y.cmd.kd, .int .i64 y.cmd.cl, .int .i64 y.cmd.no, .string y.cmd.s, .string y.cmd.nm, .string y.cmd.tg, .int .i64 y.cmd.n, .slice I1 m1 d1, .int .i64 y.seq, .slice I2 m2 d2, .bool y.same] 50)).heap.size := by rw [← HW7.out]; exact hCl
          have own7 : (w6.alloc (.cells #[.int .i64 y.id.r, .int .i64 y.id.s, .int .i64 y.bal, .int .i64 y.vb, .int .i64 y.st, .int .i64 y.cmd.kd, .int .i64 y.cmd.cl, .int .i64 y.cmd.no, .string y.cmd.s, .string y.cmd.nm, .string y.cmd.tg, .int .i64 y.cmd.n, .slice I1 m1 d1, .int .i64 y.seq, .slice I2 m2 d2, .bool y.same] 50)).ownsRow 0 50 16 (.slice A2 k c2) k css.flatten := by rw [← HW7.out]; exact own
          repeat (first | ((with_reducible refine wpList_load_o 50 (.tmp 10) _ 0 [.int .i64 y.id.r, .int .i64 y.id.s, .int .i64 y.bal, .int .i64 y.vb, .int .i64 y.st, .int .i64 y.cmd.kd, .int .i64 y.cmd.cl, .int .i64 y.cmd.no, .string y.cmd.s, .string y.cmd.nm, .string y.cmd.tg, .int .i64 y.cmd.n, .slice I1 m1 d1, .int .i64 y.seq, .slice I2 m2 d2, .bool y.same] _ (by rw [HGI.out]; exact hIr) Try.underlying50 sizeInst3 ?_ ?_ ?_ ?_ ?_ ?_); (rfl); (rfl); (rfl); (rfl); (rfl)) | (at_builtin; refine wpList_app1g (P := Try.prog) _ rfl (.tmp 54) (.tmp 56) 64 rfl 0 50 _ 16 184 Try.underlying64 infoInst rfl (by omega) (.slice A2 k c2) _ _ rfl own7 #[.int .i64 y.id.r, .int .i64 y.id.s, .int .i64 y.bal, .int .i64 y.vb, .int .i64 y.st, .int .i64 y.cmd.kd, .int .i64 y.cmd.cl, .int .i64 y.cmd.no, .string y.cmd.s, .string y.cmd.nm, .string y.cmd.tg, .int .i64 y.cmd.n, .slice I1 m1 d1, .int .i64 y.seq, .slice I2 m2 d2, .bool y.same] _ rfl (by simp) rfl (by simp [Value.oneCell']) (by unfold maxLen; omega) (by omega) (Nat.zero_le _) ?_; intro A' c' w8 own8 hgr hb8 hob; refine stop_of ?_) | go_values | go_skip | go_guarded | go_step | go_upon | (simp only []; go_at_K))
          rw [← HW7.out] at hgr hb8 hob
          clear hIr hCr2 hCl2 own7 hCr hCz hCl hBYr
          have hyF : insF (f1 ++ f2) W7 [.int .i64 y.id.r, .int .i64 y.id.s, .int .i64 y.bal, .int .i64 y.vb, .int .i64 y.st, .int .i64 y.cmd.kd, .int .i64 y.cmd.cl, .int .i64 y.cmd.no, .string y.cmd.s, .string y.cmd.nm, .string y.cmd.tg, .int .i64 y.cmd.n, .slice I1 m1 d1, .int .i64 y.seq, .slice I2 m2 d2, .bool y.same] y := ⟨I1, m1, d1, I2, m2, d2, f1, f2, rfl, rfl, O1, O2⟩
          have hl12 : ∀ b ∈ f1 ++ f2, b < w6.heap.size := fun b hb => (hF12 b hb).2
          have hN6 : (blkL A2 ++ (fps ++ [f1 ++ f2]).flatten).Nodup := by
            rw [List.flatten_append, ← List.append_assoc]
            have hOld : ∀ x ∈ blkL A2 ++ fps.flatten, x < wr.heap.size := fun x hx => hOldx x hx
            exact nodup_new (m := wr.heap.size) hND (by simpa using hN12) hOld (fun x hx => (hF12 x (by simpa using hx)).1)
          obtain ⟨hE8, hN8, hO8n⟩ := app_els (A := A2) (n := k) (c := c2) insK E hyF hN6 hgr hob (by omega)
          have hc8 : Ch (fun x => x ∈ blkL A2) W7 w8 := (Ch.of_grow hgr).mono (fun x hx => mem_blkL.2 (blk_of hx))
          have hz8 := hc8.size
          have R' := R.ch hc8 (fun hb => by have := hAb _ hb; omega); clear R; have R := R'; clear R'
          have C' := C.ch hc8 (fun hb => by have := hAb _ hb; omega); clear C; have C := C'; clear C'
          have T' := own_chL T hc8 (fun b hb h2 => by have h1 := hAb _ h2; have hb : b = b0 := (by simpa [blkL] using hb); omega); clear T; have T := T'; clear T'
          have S' := S.ch hc8 (fun hb => by have := hAb _ hb; omega); clear S; have S := S'; clear S'
          have B' := hc8.belowB B (by have := B.size; omega) (fun k hk => by have := hAb _ hk; omega); clear B; have B := B'; clear B'
          have own9 : w8.ownsRow 0 50 16 (.slice A' (k + 1) c') (k + 1) (css ++ [([.int .i64 y.id.r, .int .i64 y.id.s, .int .i64 y.bal, .int .i64 y.vb, .int .i64 y.st, .int .i64 y.cmd.kd, .int .i64 y.cmd.cl, .int .i64 y.cmd.no, .string y.cmd.s, .string y.cmd.nm, .string y.cmd.tg, .int .i64 y.cmd.n, .slice I1 m1 d1, .int .i64 y.seq, .slice I2 m2 d2, .bool y.same] : List Value)]).flatten := by rw [List.flatten_append]; simpa using own8
          have hO9 := own_lo own9
          have e2 := C.cell 2 _ rfl; have y2 := C.fz 2 (by simp); have eL := C.lt
          clear own8 hc8 own
          unfold Stop
          go_wp2
          have d : Ch (fun k => k = h) w8 (w8.setCell ⟨h, 2, none⟩ (.slice A' (k + 1) c')) := Ch.set
          have C' := C.set (j := 2) (v := .slice A' (k + 1) c') (by simp)
          have hBD8 : ∀ x ∈ blkL A' ++ (fps ++ [f1 ++ f2]).flatten, L.heap.size ≤ x := fun x hx => by
            rcases List.mem_append.1 hx with hx | hx
            · rcases hO8n x hx with h1 | h1
              · exact hAb x h1
              · omega
            · rw [List.flatten_append] at hx
              rcases List.mem_append.1 hx with hx | hx
              · exact hEb x hx
              · have := (hF12 x (by simpa using hx)).1; omega
          have own10 := own_chL own9 d (fun b hb h2 => by have h2 : b = h := h2; have := hBD8 b (List.mem_append_left _ hb); omega)
          have E10 := Els.ch insK d hE8 (fun b hb h2 => by have h2 : b = h := h2; have := hBD8 b (List.mem_append_right _ hb); omega)
          clear C e2 y2 eL
          have R' := R.ch d (ne_blk (by omega)); clear R; have R := R'; clear R'
          have T' := own_chL T d (fun b hb h2 => by have h2 : b = h := h2; have hb : b = b0 := (by simpa [blkL] using hb); omega); clear T; have T := T'; clear T'
          have S' := S.ch d (ne_blk (by omega)); clear S; have S := S'; clear S'
          have B' := d.belowB B (by have := B.size; omega) (fun k hk => by have hk : k = _ := hk; omega); clear B; have B := B'; clear B'
          have hzd := d.size
          refine ⟨⟨k + 1, A', c', css ++ [[.int .i64 y.id.r, .int .i64 y.id.s, .int .i64 y.bal, .int .i64 y.vb, .int .i64 y.st, .int .i64 y.cmd.kd, .int .i64 y.cmd.cl, .int .i64 y.cmd.no, .string y.cmd.s, .string y.cmd.nm, .string y.cmd.tg, .int .i64 y.cmd.n, .slice I1 m1 d1, .int .i64 y.seq, .slice I2 m2 d2, .bool y.same]], fps ++ [f1 ++ f2], by omega, by go_num, R, by simpa using C', S, T, own10, by rw [HS.out]; exact E10, hN8, hBD8, fun j hj => ?_, B, by omega⟩, by simp [intOf]; omega⟩
          by_cases ej : j = k
          · subst ej; exact HQ.out
          · exact HOK.out j (by omega)
      · skip
        have hkn : k = n := by omega
        obtain ⟨X, hX⟩ : ∃ X : Nod, X = ⟨(v1 : Int), (v2 : Int), insTo_ ts k, []⟩ := ⟨_, rfl⟩
        have hXi : X.insts = insTo_ ts k := by rw [hX]
        have hXl : X.leads = [] := by rw [hX]
        have HE : ∀ x, ldOk x s → x = X := fun x hx => by
          rw [hX, insTo_all (k := k) (by have := HL.out; omega)]
          exact ld_is hx HU.out (HD.out x hx).1 (HD.out x hx).2.1
        have HR := ld_end hXl hne HE
        have hnB : nodB X := ⟨by rw [hXi]; exact insTo_B (by omega) (by omega) HOK.out, by rw [hXl]; exact ⟨Nat.zero_le _, fun y hy => by cases hy⟩⟩
        have hrow : RowO insF 50 16 (blkL A2 ++ fps.flatten) wr A2 k c2 X.insts := by rw [hXi]; exact RowO.intro own (by rw [insTo_len (by omega)]) E
        have hlds : RowO leaF 170 8 [] wr none 0 0 X.leads := by rw [hXl]; exact RowO.nil
        have hSave : Calls Try.prog 35 #[.agg #[.int .i64 (v1 : Int), .int .i64 (v2 : Int), .slice A2 k c2, .slice none 0 0]] wr fun e w' => e = .returned (.string (savT X)) ∧ Below wr.heap.size wr w' := by
          have hcV : nodV X (.slice A2 k c2) (.slice none 0 0) = .agg #[.int .i64 (v1 : Int), .int .i64 (v2 : Int), .slice A2 k c2, .slice none 0 0] := by rw [hX]; rfl
          rw [← hcV]; exact saveNode_impl X _ _ _ _ _ _ _ (hrow.at_ insK (by omega)) (hlds.at_ leaK (by omega)) hnB
        clear hnB hXi hXl own E HE
        have HX := Lib.hid hX; clear hX
        have ilt2 : ¬ ((k : Int) < (n : Int)) := by omega
        have hnI : (ts.length : Int) - 1 = (n : Int) := by omega
        have e0 := C.cell 0 _ rfl; have e1 := C.cell 1 _ rfl; have e2 := C.cell 2 _ rfl; have e3 := C.cell 3 _ rfl; have eL := C.lt
        clear hkn
        obtain ⟨t2, bad⟩ := x2
        have s0 := S.c0; have s1 := S.c1; have sL := S.lt
        simp only at s0 s1 HD
        have hte := isEmpty_str t2
        cases bad
        rotate_left
        · have HN := NO (fun x hx => by have := (HD.out x hx).2.2.1; cases this)
          clear HR hSave hrow hlds T C NO hte
          have hRt := R.there (n := 4) rfl
          obtain ⟨WF, hWF⟩ : ∃ W, W = wr.setCells w.heap.size 0 (#[.int .i64 0, .int .i64 0, .slice none 0 0, .slice none 0 0] : Array Value).toList := ⟨_, rfl⟩
          have cF : Ch (fun b => b = w.heap.size) wr WF := by rw [hWF]; exact ch_setCells _ _ _
          have RF : BoxL WF w.heap.size [.int .i64 0, .int .i64 0, .slice none 0 0, .slice none 0 0] := by rw [hWF]; exact R.setCells rfl
          have hWr := RF.range
          have hgs := R.lt
          have hBF : Below w.heap.size w WF := cF.belowB B (by have := B.size; omega) (fun k hk => by have hk : k = _ := hk; omega)
          have HWF := Lib.hid hWF; clear hWF cF RF R
          repeat (first | ((with_reducible refine wpList_store_mid ?_ 67 (.tmp 2) (.tmp 77) ?_ w.heap.size 0 #[.int .i64 0, .int .i64 0, .slice none 0 0, .slice none 0 0] ?_ ?_ ?_ ?_ zOne4 ?_); all_goals (first | rw [← HWF.out] | exact hRt | exact sizeNode | rfl)) | go_values | go_skip | go_guarded | go_step | go_upon | (simp only []; go_at_K))
          try simp only [Exit.inBlock, Exit.then]
          refine bodyPost_ret (results_cell_tmp Try.results38 rfl hWr Try.underlying67 rfl sizeNode) rfl ?_
          rw [HN.out.1, HN.out.2]
          exact ⟨⟨none, 0, 0, none, 0, 0, [], [], rfl, RowO.nil, RowO.nil, List.nodup_nil, fun b hb => by cases hb⟩, hBF⟩
        by_cases ht2 : t2 = ByteArray.empty
        rotate_left
        · have HN := NO (fun x hx => ht2 (HD.out x hx).2.2.2)
          rw [decide_eq_false ht2] at hte
          clear HR hSave hrow hlds T C NO ht2
          have hRt := R.there (n := 4) rfl
          obtain ⟨WF, hWF⟩ : ∃ W, W = wr.setCells w.heap.size 0 (#[.int .i64 0, .int .i64 0, .slice none 0 0, .slice none 0 0] : Array Value).toList := ⟨_, rfl⟩
          have cF : Ch (fun b => b = w.heap.size) wr WF := by rw [hWF]; exact ch_setCells _ _ _
          have RF : BoxL WF w.heap.size [.int .i64 0, .int .i64 0, .slice none 0 0, .slice none 0 0] := by rw [hWF]; exact R.setCells rfl
          have hWr := RF.range
          have hgs := R.lt
          have hBF : Below w.heap.size w WF := cF.belowB B (by have := B.size; omega) (fun k hk => by have hk : k = _ := hk; omega)
          have HWF := Lib.hid hWF; clear hWF cF RF R
          repeat (first | ((with_reducible refine wpList_store_mid ?_ 67 (.tmp 2) (.tmp 77) ?_ w.heap.size 0 #[.int .i64 0, .int .i64 0, .slice none 0 0, .slice none 0 0] ?_ ?_ ?_ ?_ zOne4 ?_); all_goals (first | rw [← HWF.out] | exact hRt | exact sizeNode | rfl)) | go_values | go_skip | go_guarded | go_step | go_upon | (simp only []; go_at_K))
          try simp only [Exit.inBlock, Exit.then]
          refine bodyPost_ret (results_cell_tmp Try.results38 rfl hWr Try.underlying67 rfl sizeNode) rfl ?_
          rw [HN.out.1, HN.out.2]
          exact ⟨⟨none, 0, 0, none, 0, 0, [], [], rfl, RowO.nil, RowO.nil, List.nodup_nil, fun b hb => by cases hb⟩, hBF⟩
        rw [decide_eq_true ht2] at hte
        clear ht2
        go_wp2_with fail
        refine hSave.mono ?_
        rintro e w9 ⟨rfl, hb9⟩
        clear hSave e0 e1 e2 e3 eL s0 s1 sL hte S
        have R' := R.ch (Ch.of_below (S := fun _ => False) hb9) (fun h => h); clear R; have R := R'; clear R'
        have C' := C.ch (Ch.of_below (S := fun _ => False) hb9) (fun h => h); clear C; have C := C'; clear C'
        have B' := bthen B hb9; clear B; have B := B'; clear B'
        have hsb := str_beq (savT X) s
        have hz9 := hb9.size
        rcases HR with ⟨htx, hr, hrb⟩ | ⟨htx, hr, hrb⟩
        · rw [decide_eq_true htx] at hsb
          have HRR := Lib.hid hr; have HRB := Lib.hid hrb
          clear htx hr hrb NO T
          have hrow9 := hrow.keep insK hb9; have hlds9 := hlds.keep leaK hb9
          clear hrow hlds
          have hRt := R.there (n := 4) rfl
          obtain ⟨WF, hWF⟩ : ∃ W, W = w9.setCells w.heap.size 0 (#[.int .i64 (v1 : Int), .int .i64 (v2 : Int), .slice A2 k c2, .slice none 0 0] : Array Value).toList := ⟨_, rfl⟩
          have cF : Ch (fun b => b = w.heap.size) w9 WF := by rw [hWF]; exact ch_setCells _ _ _
          have RF : BoxL WF w.heap.size [.int .i64 (v1 : Int), .int .i64 (v2 : Int), .slice A2 k c2, .slice none 0 0] := by rw [hWF]; exact R.setCells rfl
          have hOne : (#[.int .i64 (v1 : Int), .int .i64 (v2 : Int), .slice A2 k c2, .slice none 0 0] : Array Value).all (·.oneCell') = true := all_oneCell_toArray (cs := [.int .i64 (v1 : Int), .int .i64 (v2 : Int), .slice A2 k c2, .slice none 0 0]) (by simp [Value.oneCell'])
          have hWr := RF.range
          have hBF : Below w.heap.size w WF := cF.belowB B (by have := B.size; omega) (fun k hk => by have hk : k = _ := hk; omega)
          have hrowF := hrow9.ch insK cF (fun b hb h2 => by have h2 : b = w.heap.size := h2; have := hBD b hb; omega)
          have hldsF := hlds9.ch leaK cF (fun b hb => by cases hb)
          have hltF := hrowF.lt insK
          have hsz := cF.size
          have hCr := C.range; have eL := C.lt
          have HWF := Lib.hid hWF; clear hWF cF RF R C hrow9 hlds9
          repeat (first | ((with_reducible refine wpList_store_mid ?_ 67 (.tmp 2) (.tmp 78) ?_ w.heap.size 0 #[.int .i64 (v1 : Int), .int .i64 (v2 : Int), .slice A2 k c2, .slice none 0 0] ?_ ?_ ?_ ?_ hOne ?_); all_goals (first | rw [← HWF.out] | exact hRt | exact sizeNode | rfl)) | ((with_reducible refine wpList_load_o 67 (.tmp 7) h 0 [.int .i64 (v1 : Int), .int .i64 (v2 : Int), .slice A2 k c2, .slice none 0 0] _ hCr Try.underlying67 sizeNode ?_ ?_ ?_ ?_ ?_ ?_); (rfl); (rfl); (rfl); (rfl); (rfl)) | go_values | go_skip | go_guarded | go_step | go_upon | (simp only []; go_at_K))
          try simp only [Exit.inBlock, Exit.then]
          refine bodyPost_ret (results_cell_tmp Try.results38 rfl hWr Try.underlying67 rfl sizeNode) rfl ?_
          rw [HRR.out, HRB.out]
          have hV : nodV X (.slice A2 k c2) (.slice none 0 0) = .agg #[.int .i64 (v1 : Int), .int .i64 (v2 : Int), .slice A2 k c2, .slice none 0 0] := by rw [HX.out]; rfl
          exact ⟨⟨A2, k, c2, none, 0, 0, _, [], by rw [hV]; rfl, hrowF, hldsF, by rw [List.append_nil]; exact hND, fun b hb => by rw [List.append_nil] at hb; exact ⟨by have := hBD b hb; omega, hltF b hb⟩⟩, hBF⟩
        · rw [decide_eq_false htx] at hsb
          have HN := Lib.hid (show ldN s = nodNil ∧ ldNB s = false from ⟨hr, hrb⟩)
          clear htx hr hrb NO T hrow hlds C
          have hRt := R.there (n := 4) rfl
          obtain ⟨WF, hWF⟩ : ∃ W, W = w9.setCells w.heap.size 0 (#[.int .i64 0, .int .i64 0, .slice none 0 0, .slice none 0 0] : Array Value).toList := ⟨_, rfl⟩
          have cF : Ch (fun b => b = w.heap.size) w9 WF := by rw [hWF]; exact ch_setCells _ _ _
          have RF : BoxL WF w.heap.size [.int .i64 0, .int .i64 0, .slice none 0 0, .slice none 0 0] := by rw [hWF]; exact R.setCells rfl
          have hWr := RF.range
          have hgs := R.lt
          have hBF : Below w.heap.size w WF := cF.belowB B (by have := B.size; omega) (fun k hk => by have hk : k = _ := hk; omega)
          have HWF := Lib.hid hWF; clear hWF cF RF R
          repeat (first | ((with_reducible refine wpList_store_mid ?_ 67 (.tmp 2) (.tmp 77) ?_ w.heap.size 0 #[.int .i64 0, .int .i64 0, .slice none 0 0, .slice none 0 0] ?_ ?_ ?_ ?_ zOne4 ?_); all_goals (first | rw [← HWF.out] | exact hRt | exact sizeNode | rfl)) | go_values | go_skip | go_guarded | go_step | go_upon | (simp only []; go_at_K))
          try simp only [Exit.inBlock, Exit.then]
          refine bodyPost_ret (results_cell_tmp Try.results38 rfl hWr Try.underlying67 rfl sizeNode) rfl ?_
          rw [HN.out.1, HN.out.2]
          exact ⟨⟨none, 0, 0, none, 0, 0, [], [], rfl, RowO.nil, RowO.nil, List.nodup_nil, fun b hb => by cases hb⟩, hBF⟩
end Go.Proofs.Ytdphdnllhmnelaa
