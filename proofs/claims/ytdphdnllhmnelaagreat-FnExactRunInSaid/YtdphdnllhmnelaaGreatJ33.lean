/- Contracts and lemmas: PutSai. -/
import Derived.Test.YtdphdnllhmnelaaGreatJ28
/- The reference's l16Put. -/
namespace Go.Proofs.YtdphdnllhmnelaaGreat
open Go.RowKit
attribute [local go_sem] Grow.cell Grow.frozen
theorem sai_flat (l : List Sai) (x : Sai) : ((l ++ [x]).map saiL).flatten = (l.map saiL).flatten ++ [.int .i64 x.cl, .int .i64 x.no, .string x.tx] := by simp [saiL]
theorem sai_rowO {w : World} {n c : Nat} {A : Option Addr} {l : List Sai} (ho : w.ownsRow 0 114 3 (.slice A n c) n (l.map saiL).flatten) (hl : n = l.length) : RowO saiF 114 3 (blkL A) w A n c l :=
  saiO_of ho hl ⟨by simp, fun i x hx => ⟨saiL x, by simp [hx], rfl⟩⟩
theorem sai_one (l : List Sai) : ∀ v ∈ (l.map saiL).flatten, v.oneCell' = true := by
  intro v hv
  obtain ⟨cs, hc, hv⟩ := List.mem_flatten.1 hv
  obtain ⟨x, _, rfl⟩ := List.mem_map.1 hc
  simp only [saiL, List.mem_cons, List.not_mem_nil, or_false] at hv
  rcases hv with rfl | rfl | rfl <;> rfl
theorem blk_new {A A' : Option Addr} {n c n' c' m B : Nat} (h : (Value.slice A' n' c').ownBlock = (Value.slice A n c).ownBlock ∨ (Value.slice A' n' c').ownBlock = some m) (hA : ∀ b ∈ blkL A, B ≤ b) (hm : B ≤ m) : ∀ b ∈ blkL A', B ≤ b := fun b hb => by
  have h1 := blk_own (n := n') (c := c') (mem_blkL.1 hb)
  rcases h with h2 | h2
  · exact hA b (mem_blkL.2 (blk_of (h2.symm.trans h1)))
  · have := Option.some.inj (h1.symm.trans h2); omega
attribute [local irreducible] RowR putF
set_option maxRecDepth 8000 in
set_option maxHeartbeats 8000000 in
theorem put_spec (l : List Sai) (y : Sai) (A : Option Addr) (n c : Nat) (w : World) (h : RowR saiR 3 w A n c l) (hn : n ≤ 1000) :
    Calls Tryz.prog 129 #[.slice A n c, saiV y] w fun e w' => ∃ P m cp, e = .returned (.slice P m cp) ∧ RowO saiF 114 3 (blkL P) w' P m cp (putF l y false) ∧ (∀ b ∈ blkL P, w.heap.size ≤ b) ∧ Below w.heap.size w w' := by
  have HL := Lib.hid h.len
  have al1 := (Below.refl w.heap.size w).alloc (Nat.le_refl _) (.cells #[.int .i64 y.cl, .int .i64 y.no, .string y.tx] 114)
  have al2 := al1.alloc al1.size (.cells #[] 114)
  have hz1 : (w.alloc (.cells #[.int .i64 y.cl, .int .i64 y.no, .string y.tx] 114)).heap.size = w.heap.size + 1 := Array.size_push _
  have BX := (BoxL.new w [.int .i64 y.cl, .int .i64 y.no, .string y.tx] 114).keep ((Below.refl _ _).alloc (Nat.le_refl _) (.cells #[] 114))
  have own0 := own_empty (w.alloc (.cells #[.int .i64 y.cl, .int .i64 y.no, .string y.tx] 114)) 114 3 (base := 0) (Nat.zero_le _)
  unfold saiV
  go_enter Tryz.func129, Tryz.ntmps129
  go_wp2_with fail
  obtain ⟨W, hWW⟩ : ∃ W, W = (w.alloc (.cells #[.int .i64 y.cl, .int .i64 y.no, .string y.tx] 114)).alloc (.cells #[] 114) := ⟨_, rfl⟩
  obtain ⟨g, hg⟩ : ∃ g, w.heap.size = g := ⟨_, rfl⟩
  rw [hz1] at own0
  have HG := Lib.hid hg
  rw [← hWW] at al2 BX own0 ⊢
  simp only [hg] at BX own0 ⊢
  clear hWW hg al1 hz1
  have hgl := BX.lt
  go_loopw [5, 6, 7] (fun s p i wr => ∃ (k : Nat) (b : Bool) (P : Option Addr) (cp : Nat) (lO : List Sai), k ≤ n ∧ i = .int .i64 k ∧ p = .bool b ∧ s = .slice P lO.length cp ∧ lO.length ≤ 2 * k ∧ wr.ownsRow 0 114 3 (.slice P lO.length cp) lO.length (lO.map saiL).flatten ∧ (∀ x ∈ blkL P, g + 1 ≤ x) ∧
      putF l y false = lO ++ putF (l.drop k) y b ∧ BoxL wr g [.int .i64 y.cl, .int .i64 y.no, .string y.tx] ∧ Below w.heap.size w wr ∧ g + 1 ≤ wr.heap.size) (fun _ _ i _ => n - (intOf i).toNat)
  case atStart => exact ⟨0, false, _, _, [], Nat.zero_le _, rfl, rfl, rfl, Nat.le_refl _, own0, (fun x hx => by have h2 : x = g + 1 := (by simpa [blkL] using hx); omega), rfl, BX, al2, by omega⟩
  case round =>
    clear BX own0
    obtain ⟨k, b, P, cp, lO, hk, rfl, rfl, rfl, hlO, own1, hP, hpu, BX, hB, hgz⟩ := hrel
    have HI := Lib.hid hpu; clear hpu
    have HO := Lib.hid hlO
    have x0 := BX.cell 0 _ rfl; have x1 := BX.cell 1 _ rfl; have x2 := BX.cell 2 _ rfl; have xl := BX.lt
    by_cases hlt : k < n
    · have hR := h.keep saiK hB
      obtain ⟨qb, so, rfl⟩ := hR.head (by omega)
      obtain ⟨bl, s, hs, hcr⟩ := sai_el hR hlt
      have hqw := (sai_el h hlt).1
      have f0 : wr.cell? ⟨qb, so + k * 3, none⟩ = some (.int .i64 s.cl) := hcr 0 _ rfl
      have f1 : wr.cell? ⟨qb, so + k * 3 + 1, none⟩ = some (.int .i64 s.no) := hcr 1 _ rfl
      have f2 : wr.cell? ⟨qb, so + k * 3 + 2, none⟩ = some (.string s.tx) := hcr 2 _ rfl
      have HD := Lib.hid (putF_drop y b hs)
      have hlO3 : lO.length ≤ 2000 := by omega
      clear hs hcr hlO hR
      have w1e : ∃ w1, w1 = wr := ⟨_, rfl⟩
      obtain ⟨w1, hw1⟩ := Below.nam hB; subst hw1
      have BX1 := BX; have hB1 := hB; have hgz1 := hgz; have hPA := hP
      clear BX hB hgz hP
      obtain ⟨PA, hPAe⟩ : ∃ PA, PA = P := ⟨_, rfl⟩; subst hPAe
      obtain ⟨cpA, hcpe⟩ : ∃ cpA, cpA = cp := ⟨_, rfl⟩; subst hcpe
      cases b
      · by_cases hle : y.cl ≤ s.cl
        · have gd : decide (s.cl ≥ y.cl) = true := decide_eq_true hle
          go_wp2_with fail
          refine wp_region_grow (by kernel_rfl) (by kernel_rfl) ?_
          repeat (first | go_big_quiet_step (fail))
          refine wpQuiet_nil ?_
          intro _ hw'
          obtain ⟨⟨w2, hb2⟩, hw''⟩ := hw'
          change _ = w2 at hw''
          subst hw''
          obtain ⟨w2, hV⟩ := Below.nam hb2; subst hV
          have BX2 := BX1.keep hb2; have hB2 := bthen hB1 hb2; have own2 := own_chL own1 (Ch.of_below (S := fun _ => False) hb2) (fun _ _ h => h)
          have hgz2 := Nat.le_trans hgz1 hb2.size
          have f0_ := keep_cell hb2 f0; have f1_ := keep_cell hb2 f1; have f2_ := keep_cell hb2 f2
          clear x0 x1 x2 xl f0 f1 f2 bl
          have f0 := f0_; have f1 := f1_; have f2 := f2_; clear f0_ f1_ f2_
          have bl := cell_lt f0
          have x0 := BX2.cell 0 _ rfl; have x1 := BX2.cell 1 _ rfl; have x2 := BX2.cell 2 _ rfl; have xl := BX2.lt
          clear BX1 own1 hB1 hgz1 hb2
          go_wp2_with (first | (at_builtin; refine wpList_app1g (P := Tryz.prog) _ rfl (.tmp 27) (.tmp 29) 28 rfl 0 114 _ 3 32 Tryz.underlying28 saidInfo rfl (by omega) (.slice PA lO.length cpA) _ _ rfl own2 _ _ rfl (by simp) rfl (by simp [Value.oneCell']) (by unfold maxLen; omega) (by omega) (Nat.zero_le _) ?_; intro PB cpB w3 own3 hg3 hb3 hob3; refine stop_of ?_) | fail)
          unfold Stop
          have C3 : Ch (fun t => g + 1 ≤ t) w2 w3 := (Ch.of_grow hg3).mono (fun t ht => hPA t (mem_blkL.2 (blk_of ht)))
          have hPB := blk_new hob3 hPA (by omega)
          have BX3 := BX2.ch C3 (by omega)
          have hB3 : Below w.heap.size w w3 := C3.belowB hB2 hB2.size (fun t ht => by have ht : g + 1 ≤ t := ht; have := HG.out; omega)
          have hgz3 := Nat.le_trans hgz2 C3.size
          have f0_ := C3.cell f0 (by have := HG.out; omega); have f1_ := C3.cell f1 (by have := HG.out; omega); have f2_ := C3.cell f2 (by have := HG.out; omega)
          clear x0 x1 x2 xl f0 f1 f2 bl
          have f0 := f0_; have f1 := f1_; have f2 := f2_; clear f0_ f1_ f2_
          have bl := cell_lt f0
          have x0 := BX3.cell 0 _ rfl; have x1 := BX3.cell 1 _ rfl; have x2 := BX3.cell 2 _ rfl; have xl := BX3.lt
          clear BX2 hB2 hgz2 C3 hg3 hb3 hob3
          by_cases heq : s.cl = y.cl
          · have gn : (s.cl == y.cl) = true := beq_iff_eq.2 heq
            have gne : (s.cl != y.cl) = false := by simp [heq]
            have HJ := Lib.hid (show putF l y false = (lO ++ [y]) ++ putF (l.drop (k + 1)) y true by rw [HI.out, HD.out, if_pos (by simpa using hle), if_pos heq, decide_eq_true hle]; simp)
            clear hle heq
            go_wp2_with fail
            refine wp_region_grow (by kernel_rfl) (by kernel_rfl) ?_
            repeat (first | go_big_quiet_step (fail))
            refine wpQuiet_nil ?_
            intro _ hw'
            obtain ⟨⟨w4, hb4⟩, hw''⟩ := hw'
            change _ = w4 at hw''
            subst hw''
            obtain ⟨w4, hV⟩ := Below.nam hb4; subst hV
            have BX4 := BX3.keep hb4; have hB4 := bthen hB3 hb4; have own4 := own_chL own3 (Ch.of_below (S := fun _ => False) hb4) (fun _ _ h => h)
            have hgz4 := Nat.le_trans hgz3 hb4.size
            have f0_ := keep_cell hb4 f0; have f1_ := keep_cell hb4 f1; have f2_ := keep_cell hb4 f2
            clear x0 x1 x2 xl f0 f1 f2 bl
            have f0 := f0_; have f1 := f1_; have f2 := f2_; clear f0_ f1_ f2_
            have bl := cell_lt f0
            have x0 := BX4.cell 0 _ rfl; have x1 := BX4.cell 1 _ rfl; have x2 := BX4.cell 2 _ rfl; have xl := BX4.lt
            clear BX3 own3 hB3 hgz3 hb4
            have HX := Lib.hid (And.intro (And.intro BX4 hB4) (And.intro hgz4 hPB)); have HOW := Lib.hid own4; clear BX4 hB4 hgz4 hPB own4
            go_wp2
            exact ⟨⟨k + 1, true, PB, cpB, (lO ++ [y]), by omega, by go_num, (by first | rfl | trivial), (by first | rfl | trivial | simp), by have := HO.out; simp; omega, by have h5 := HOW.out; simpa [saiL] using h5, HX.out.2.2, HJ.out, HX.out.1.1, HX.out.1.2, HX.out.2.1⟩, by simp [intOf]; omega⟩
          · have gn : (s.cl == y.cl) = false := beq_eq_false_iff_ne.2 heq
            have gne : (s.cl != y.cl) = true := by simp [heq]
            have HJ := Lib.hid (show putF l y false = ((lO ++ [y]) ++ [s]) ++ putF (l.drop (k + 1)) y true by rw [HI.out, HD.out, if_pos (by simpa using hle), if_neg heq, decide_eq_true hle]; simp)
            clear hle heq
            go_wp2_with fail
            refine wp_region_grow (by kernel_rfl) (by kernel_rfl) ?_
            repeat (first | go_big_quiet_step (fail))
            refine wpQuiet_nil ?_
            intro _ hw'
            obtain ⟨⟨w4, hb4⟩, hw''⟩ := hw'
            change _ = w4 at hw''
            subst hw''
            obtain ⟨w4, hV⟩ := Below.nam hb4; subst hV
            have BX4 := BX3.keep hb4; have hB4 := bthen hB3 hb4; have own4 := own_chL own3 (Ch.of_below (S := fun _ => False) hb4) (fun _ _ h => h)
            have hgz4 := Nat.le_trans hgz3 hb4.size
            have f0_ := keep_cell hb4 f0; have f1_ := keep_cell hb4 f1; have f2_ := keep_cell hb4 f2
            clear x0 x1 x2 xl f0 f1 f2 bl
            have f0 := f0_; have f1 := f1_; have f2 := f2_; clear f0_ f1_ f2_
            have bl := cell_lt f0
            have x0 := BX4.cell 0 _ rfl; have x1 := BX4.cell 1 _ rfl; have x2 := BX4.cell 2 _ rfl; have xl := BX4.lt
            clear BX3 own3 hB3 hgz3 hb4
            go_wp2_with (first | (at_builtin; refine wpList_app1g (P := Tryz.prog) _ rfl (.tmp 39) (.tmp 44) 28 rfl 0 114 _ 3 32 Tryz.underlying28 saidInfo rfl (by omega) (.slice PB (lO.length + 1) cpB) _ _ rfl own4 _ _ rfl (by simp) rfl (by simp [Value.oneCell']) (by unfold maxLen; omega) (by omega) (Nat.zero_le _) ?_; intro PC cpC w5 own5 hg5 hb5 hob5; refine stop_of ?_) | fail)
            unfold Stop
            have C5 : Ch (fun t => g + 1 ≤ t) w4 w5 := (Ch.of_grow hg5).mono (fun t ht => hPB t (mem_blkL.2 (blk_of ht)))
            have hPC := blk_new hob5 hPB (by omega)
            have BX5 := BX4.ch C5 (by omega)
            have hB5 : Below w.heap.size w w5 := C5.belowB hB4 hB4.size (fun t ht => by have ht : g + 1 ≤ t := ht; have := HG.out; omega)
            have hgz5 := Nat.le_trans hgz4 C5.size
            have f0_ := C5.cell f0 (by have := HG.out; omega); have f1_ := C5.cell f1 (by have := HG.out; omega); have f2_ := C5.cell f2 (by have := HG.out; omega)
            clear x0 x1 x2 xl f0 f1 f2 bl
            have f0 := f0_; have f1 := f1_; have f2 := f2_; clear f0_ f1_ f2_
            have bl := cell_lt f0
            have x0 := BX5.cell 0 _ rfl; have x1 := BX5.cell 1 _ rfl; have x2 := BX5.cell 2 _ rfl; have xl := BX5.lt
            clear BX4 hB4 hgz4 C5 hg5 hb5 hob5
            have HX := Lib.hid (And.intro (And.intro BX5 hB5) (And.intro hgz5 hPC)); have HOW := Lib.hid own5; clear BX5 hB5 hgz5 hPC own5
            go_wp2
            exact ⟨⟨k + 1, true, PC, cpC, ((lO ++ [y]) ++ [s]), by omega, by go_num, (by first | rfl | trivial), (by first | rfl | trivial | simp), by have := HO.out; simp; omega, by have h5 := HOW.out; simpa [saiL] using h5, HX.out.2.2, HJ.out, HX.out.1.1, HX.out.1.2, HX.out.2.1⟩, by simp [intOf]; omega⟩
        · have gd : decide (s.cl ≥ y.cl) = false := decide_eq_false hle
          have hne : s.cl ≠ y.cl := by omega
          have gn : (s.cl == y.cl) = false := beq_eq_false_iff_ne.2 hne
          have gne : (s.cl != y.cl) = true := by simp [hne]
          have HJ := Lib.hid (show putF l y false = (lO ++ [s]) ++ putF (l.drop (k + 1)) y false by rw [HI.out, HD.out, if_neg (fun h => hle h.2), if_neg hne, decide_eq_false hle]; simp)
          clear hle hne
          go_wp2_with fail
          refine wp_region_grow (by kernel_rfl) (by kernel_rfl) ?_
          repeat (first | go_big_quiet_step (fail))
          refine wpQuiet_nil ?_
          intro _ hw'
          obtain ⟨⟨w2, hb2⟩, hw''⟩ := hw'
          change _ = w2 at hw''
          subst hw''
          obtain ⟨w2, hV⟩ := Below.nam hb2; subst hV
          have BX2 := BX1.keep hb2; have hB2 := bthen hB1 hb2; have own2 := own_chL own1 (Ch.of_below (S := fun _ => False) hb2) (fun _ _ h => h)
          have hgz2 := Nat.le_trans hgz1 hb2.size
          have f0_ := keep_cell hb2 f0; have f1_ := keep_cell hb2 f1; have f2_ := keep_cell hb2 f2
          clear x0 x1 x2 xl f0 f1 f2 bl
          have f0 := f0_; have f1 := f1_; have f2 := f2_; clear f0_ f1_ f2_
          have bl := cell_lt f0
          have x0 := BX2.cell 0 _ rfl; have x1 := BX2.cell 1 _ rfl; have x2 := BX2.cell 2 _ rfl; have xl := BX2.lt
          clear BX1 own1 hB1 hgz1 hb2
          go_wp2_with fail
          refine wp_region_grow (by kernel_rfl) (by kernel_rfl) ?_
          repeat (first | go_big_quiet_step (fail))
          refine wpQuiet_nil ?_
          intro _ hw'
          obtain ⟨⟨w3, hb3⟩, hw''⟩ := hw'
          change _ = w3 at hw''
          subst hw''
          obtain ⟨w3, hV⟩ := Below.nam hb3; subst hV
          have BX3 := BX2.keep hb3; have hB3 := bthen hB2 hb3; have own3 := own_chL own2 (Ch.of_below (S := fun _ => False) hb3) (fun _ _ h => h)
          have hgz3 := Nat.le_trans hgz2 hb3.size
          have f0_ := keep_cell hb3 f0; have f1_ := keep_cell hb3 f1; have f2_ := keep_cell hb3 f2
          clear x0 x1 x2 xl f0 f1 f2 bl
          have f0 := f0_; have f1 := f1_; have f2 := f2_; clear f0_ f1_ f2_
          have bl := cell_lt f0
          have x0 := BX3.cell 0 _ rfl; have x1 := BX3.cell 1 _ rfl; have x2 := BX3.cell 2 _ rfl; have xl := BX3.lt
          clear BX2 own2 hB2 hgz2 hb3
          go_wp2_with (first | (at_builtin; refine wpList_app1g (P := Tryz.prog) _ rfl (.tmp 39) (.tmp 44) 28 rfl 0 114 _ 3 32 Tryz.underlying28 saidInfo rfl (by omega) (.slice PA lO.length cpA) _ _ rfl own3 _ _ rfl (by simp) rfl (by simp [Value.oneCell']) (by unfold maxLen; omega) (by omega) (Nat.zero_le _) ?_; intro PC cpC w5 own5 hg5 hb5 hob5; refine stop_of ?_) | fail)
          unfold Stop
          have C5 : Ch (fun t => g + 1 ≤ t) w3 w5 := (Ch.of_grow hg5).mono (fun t ht => hPA t (mem_blkL.2 (blk_of ht)))
          have hPC := blk_new hob5 hPA (by omega)
          have BX5 := BX3.ch C5 (by omega)
          have hB5 : Below w.heap.size w w5 := C5.belowB hB3 hB3.size (fun t ht => by have ht : g + 1 ≤ t := ht; have := HG.out; omega)
          have hgz5 := Nat.le_trans hgz3 C5.size
          have f0_ := C5.cell f0 (by have := HG.out; omega); have f1_ := C5.cell f1 (by have := HG.out; omega); have f2_ := C5.cell f2 (by have := HG.out; omega)
          clear x0 x1 x2 xl f0 f1 f2 bl
          have f0 := f0_; have f1 := f1_; have f2 := f2_; clear f0_ f1_ f2_
          have bl := cell_lt f0
          have x0 := BX5.cell 0 _ rfl; have x1 := BX5.cell 1 _ rfl; have x2 := BX5.cell 2 _ rfl; have xl := BX5.lt
          clear BX3 hB3 hgz3 C5 hg5 hb5 hob5
          have HX := Lib.hid (And.intro (And.intro BX5 hB5) (And.intro hgz5 hPC)); have HOW := Lib.hid own5; clear BX5 hB5 hgz5 hPC own5
          go_wp2
          exact ⟨⟨k + 1, false, PC, cpC, (lO ++ [s]), by omega, by go_num, (by first | rfl | trivial), (by first | rfl | trivial | simp), by have := HO.out; simp; omega, by have h5 := HOW.out; simpa [saiL] using h5, HX.out.2.2, HJ.out, HX.out.1.1, HX.out.1.2, HX.out.2.1⟩, by simp [intOf]; omega⟩
      · by_cases heq : s.cl = y.cl
        · have gn : (s.cl == y.cl) = true := beq_iff_eq.2 heq
          have gne : (s.cl != y.cl) = false := by simp [heq]
          have HJ := Lib.hid (show putF l y false = lO ++ putF (l.drop (k + 1)) y true by rw [HI.out, HD.out, if_neg (by simp), if_pos heq]; simp)
          clear heq
          go_wp2_with fail
          refine wp_region_grow (by kernel_rfl) (by kernel_rfl) ?_
          repeat (first | go_big_quiet_step (fail))
          refine wpQuiet_nil ?_
          intro _ hw'
          obtain ⟨⟨w2, hb2⟩, hw''⟩ := hw'
          change _ = w2 at hw''
          subst hw''
          obtain ⟨w2, hV⟩ := Below.nam hb2; subst hV
          have BX2 := BX1.keep hb2; have hB2 := bthen hB1 hb2; have own2 := own_chL own1 (Ch.of_below (S := fun _ => False) hb2) (fun _ _ h => h)
          have hgz2 := Nat.le_trans hgz1 hb2.size
          have f0_ := keep_cell hb2 f0; have f1_ := keep_cell hb2 f1; have f2_ := keep_cell hb2 f2
          clear x0 x1 x2 xl f0 f1 f2 bl
          have f0 := f0_; have f1 := f1_; have f2 := f2_; clear f0_ f1_ f2_
          have bl := cell_lt f0
          have x0 := BX2.cell 0 _ rfl; have x1 := BX2.cell 1 _ rfl; have x2 := BX2.cell 2 _ rfl; have xl := BX2.lt
          clear BX1 own1 hB1 hgz1 hb2
          go_wp2_with fail
          refine wp_region_grow (by kernel_rfl) (by kernel_rfl) ?_
          repeat (first | go_big_quiet_step (fail))
          refine wpQuiet_nil ?_
          intro _ hw'
          obtain ⟨⟨w3, hb3⟩, hw''⟩ := hw'
          change _ = w3 at hw''
          subst hw''
          obtain ⟨w3, hV⟩ := Below.nam hb3; subst hV
          have BX3 := BX2.keep hb3; have hB3 := bthen hB2 hb3; have own3 := own_chL own2 (Ch.of_below (S := fun _ => False) hb3) (fun _ _ h => h)
          have hgz3 := Nat.le_trans hgz2 hb3.size
          have f0_ := keep_cell hb3 f0; have f1_ := keep_cell hb3 f1; have f2_ := keep_cell hb3 f2
          clear x0 x1 x2 xl f0 f1 f2 bl
          have f0 := f0_; have f1 := f1_; have f2 := f2_; clear f0_ f1_ f2_
          have bl := cell_lt f0
          have x0 := BX3.cell 0 _ rfl; have x1 := BX3.cell 1 _ rfl; have x2 := BX3.cell 2 _ rfl; have xl := BX3.lt
          clear BX2 own2 hB2 hgz2 hb3
          have HX := Lib.hid (And.intro (And.intro BX3 hB3) (And.intro hgz3 hPA)); have HOW := Lib.hid own3; clear BX3 hB3 hgz3 hPA own3
          go_wp2
          exact ⟨⟨k + 1, true, PA, cpA, lO, by omega, by go_num, (by first | rfl | trivial), (by first | rfl | trivial | simp), by have := HO.out; simp; omega, by have h5 := HOW.out; simpa [saiL] using h5, HX.out.2.2, HJ.out, HX.out.1.1, HX.out.1.2, HX.out.2.1⟩, by simp [intOf]; omega⟩
        · have gn : (s.cl == y.cl) = false := beq_eq_false_iff_ne.2 heq
          have gne : (s.cl != y.cl) = true := by simp [heq]
          have HJ := Lib.hid (show putF l y false = (lO ++ [s]) ++ putF (l.drop (k + 1)) y true by rw [HI.out, HD.out, if_neg (by simp), if_neg heq]; simp)
          clear heq
          go_wp2_with fail
          refine wp_region_grow (by kernel_rfl) (by kernel_rfl) ?_
          repeat (first | go_big_quiet_step (fail))
          refine wpQuiet_nil ?_
          intro _ hw'
          obtain ⟨⟨w2, hb2⟩, hw''⟩ := hw'
          change _ = w2 at hw''
          subst hw''
          obtain ⟨w2, hV⟩ := Below.nam hb2; subst hV
          have BX2 := BX1.keep hb2; have hB2 := bthen hB1 hb2; have own2 := own_chL own1 (Ch.of_below (S := fun _ => False) hb2) (fun _ _ h => h)
          have hgz2 := Nat.le_trans hgz1 hb2.size
          have f0_ := keep_cell hb2 f0; have f1_ := keep_cell hb2 f1; have f2_ := keep_cell hb2 f2
          clear x0 x1 x2 xl f0 f1 f2 bl
          have f0 := f0_; have f1 := f1_; have f2 := f2_; clear f0_ f1_ f2_
          have bl := cell_lt f0
          have x0 := BX2.cell 0 _ rfl; have x1 := BX2.cell 1 _ rfl; have x2 := BX2.cell 2 _ rfl; have xl := BX2.lt
          clear BX1 own1 hB1 hgz1 hb2
          go_wp2_with fail
          refine wp_region_grow (by kernel_rfl) (by kernel_rfl) ?_
          repeat (first | go_big_quiet_step (fail))
          refine wpQuiet_nil ?_
          intro _ hw'
          obtain ⟨⟨w3, hb3⟩, hw''⟩ := hw'
          change _ = w3 at hw''
          subst hw''
          obtain ⟨w3, hV⟩ := Below.nam hb3; subst hV
          have BX3 := BX2.keep hb3; have hB3 := bthen hB2 hb3; have own3 := own_chL own2 (Ch.of_below (S := fun _ => False) hb3) (fun _ _ h => h)
          have hgz3 := Nat.le_trans hgz2 hb3.size
          have f0_ := keep_cell hb3 f0; have f1_ := keep_cell hb3 f1; have f2_ := keep_cell hb3 f2
          clear x0 x1 x2 xl f0 f1 f2 bl
          have f0 := f0_; have f1 := f1_; have f2 := f2_; clear f0_ f1_ f2_
          have bl := cell_lt f0
          have x0 := BX3.cell 0 _ rfl; have x1 := BX3.cell 1 _ rfl; have x2 := BX3.cell 2 _ rfl; have xl := BX3.lt
          clear BX2 own2 hB2 hgz2 hb3
          go_wp2_with (first | (at_builtin; refine wpList_app1g (P := Tryz.prog) _ rfl (.tmp 39) (.tmp 44) 28 rfl 0 114 _ 3 32 Tryz.underlying28 saidInfo rfl (by omega) (.slice PA lO.length cpA) _ _ rfl own3 _ _ rfl (by simp) rfl (by simp [Value.oneCell']) (by unfold maxLen; omega) (by omega) (Nat.zero_le _) ?_; intro PC cpC w5 own5 hg5 hb5 hob5; refine stop_of ?_) | fail)
          unfold Stop
          have C5 : Ch (fun t => g + 1 ≤ t) w3 w5 := (Ch.of_grow hg5).mono (fun t ht => hPA t (mem_blkL.2 (blk_of ht)))
          have hPC := blk_new hob5 hPA (by omega)
          have BX5 := BX3.ch C5 (by omega)
          have hB5 : Below w.heap.size w w5 := C5.belowB hB3 hB3.size (fun t ht => by have ht : g + 1 ≤ t := ht; have := HG.out; omega)
          have hgz5 := Nat.le_trans hgz3 C5.size
          have f0_ := C5.cell f0 (by have := HG.out; omega); have f1_ := C5.cell f1 (by have := HG.out; omega); have f2_ := C5.cell f2 (by have := HG.out; omega)
          clear x0 x1 x2 xl f0 f1 f2 bl
          have f0 := f0_; have f1 := f1_; have f2 := f2_; clear f0_ f1_ f2_
          have bl := cell_lt f0
          have x0 := BX5.cell 0 _ rfl; have x1 := BX5.cell 1 _ rfl; have x2 := BX5.cell 2 _ rfl; have xl := BX5.lt
          clear BX3 hB3 hgz3 C5 hg5 hb5 hob5
          have HX := Lib.hid (And.intro (And.intro BX5 hB5) (And.intro hgz5 hPC)); have HOW := Lib.hid own5; clear BX5 hB5 hgz5 hPC own5
          go_wp2
          exact ⟨⟨k + 1, true, PC, cpC, (lO ++ [s]), by omega, by go_num, (by first | rfl | trivial), (by first | rfl | trivial | simp), by have := HO.out; simp; omega, by have h5 := HOW.out; simpa [saiL] using h5, HX.out.2.2, HJ.out, HX.out.1.1, HX.out.1.2, HX.out.2.1⟩, by simp [intOf]; omega⟩
    · have hkn : k = n := by omega
      subst hkn
      have he := putF_end (l := l) (k := k) y b (by have := HL.out; omega)
      have HI2 := Lib.hid (show putF l y false = lO ++ (if b then [] else [y]) by rw [HI.out, he])
      clear he
      have hlO3 : lO.length ≤ 2000 := by omega
      clear hlO
      cases b
      · go_wp2_with (first | (at_builtin; refine wpList_app1g (P := Tryz.prog) _ rfl (.tmp 48) (.tmp 50) 28 rfl 0 114 _ 3 32 Tryz.underlying28 saidInfo rfl (by omega) (.slice P lO.length cp) _ _ rfl own1 _ _ rfl (by simp) rfl (by simp [Value.oneCell']) (by unfold maxLen; omega) (by omega) (Nat.zero_le _) ?_; intro P3 cp3 w3 own3 hg3 hb3 hob3; refine stop_of ?_) | fail)
        unfold Stop
        have C3 : Ch (fun t => g + 1 ≤ t) wr w3 := (Ch.of_grow hg3).mono (fun t ht => hP t (mem_blkL.2 (blk_of ht)))
        have hP3 := blk_new hob3 hP (by omega)
        have hB3 : Below w.heap.size w w3 := C3.belowB hB hB.size (fun t ht => by have ht : g + 1 ≤ t := ht; have := HG.out; omega)
        have R3 := sai_rowO (l := lO ++ [y]) (by rw [sai_flat]; exact own3) (by simp)
        have HX := Lib.hid (And.intro hP3 hB3); clear hP3 hB3
        go_wp2
        go_returns
        rw [HI2.out]
        exact ⟨P3, _, cp3, rfl, by simpa using R3, fun t ht => by have := HX.out.1 t ht; have := HG.out; omega, HX.out.2⟩
      · have R3 := sai_rowO own1 rfl
        have HX := Lib.hid (And.intro hP hB); clear hP hB
        go_wp2
        go_returns
        rw [HI2.out]
        exact ⟨P, _, cp, rfl, by simpa using R3, fun t ht => by have := HX.out.1 t ht; have := HG.out; omega, HX.out.2⟩
end Go.Proofs.YtdphdnllhmnelaaGreat
