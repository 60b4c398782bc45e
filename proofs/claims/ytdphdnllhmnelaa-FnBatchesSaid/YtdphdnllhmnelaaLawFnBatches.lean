/- The law FnBatches holds: commands in batches come to the same catalog as one by one, in whatever order a batch is executed. Conditions: none. -/
import Derived.Test.YtdphdnllhmnelaaJ22
import Derived.Test.YtdphdnllhmnelaaJ23
import Derived.Test.YtdphdnllhmnelaaJ38
import Derived.Test.YtdphdnllhmnelaaJ31
import Derived.Test.YtdphdnllhmnelaaJ29
import Derived.Test.YtdphdnllhmnelaaJ32
import Derived.Test.YtdphdnllhmnelaaJ37
import Derived.Test.YtdphdnllhmnelaaJ12
namespace Go.Proofs.Ytdphdnllhmnelaa
open Go.ChangeShapes Go.WideShapes Go.ChangeAt Go.RowKit Go.Joins
theorem own_cap {α : Type} {F : List Nat → World → List Value → α → Prop} {e sz n c : Nat} {fp : List Nat} {w : World} {A : Option Addr} {l : List α} (h : RowO F e sz fp w A n c l) : n ≤ c := by
  obtain ⟨_, _, _, ho, _, _⟩ := h.ex
  exact (own_le ho).1
/-- 0, 1, .. -/
def upTo (k : Nat) : List Int := (List.range k).map (fun j : Nat => (j : Int))
theorem cms_each {l : List Cm} (h : cmsB l) : ∀ m ∈ l, cmB m := h.2
theorem iAt_some {y : List Int} {q : Nat} {z : Int} (hq : q < y.length) (h : iAt y q = z) : y[q]? = some z := by rw [iAt_get hq] at h; rw [List.getElem?_eq_getElem hq, h]
theorem ints_lenB {w : World} {A : Option Addr} {n : Nat} {l : List Int} (h : IntsAt w A n l) : l.length = n := h.1.symm
theorem upTo_zero : upTo 0 = [] := rfl
theorem upTo_succ (k : Nat) : upTo (k + 1) = upTo k ++ [(k : Int)] := by unfold upTo; rw [List.range_succ, List.map_append]; rfl
theorem upTo_len (k : Nat) : (upTo k).length = k := by simp [upTo]
theorem batch_ok {l : List Cm} (h : 0 < (batchL l).length) : cmsOkB l = true := by
  cases hq : cmsOkB l with
  | true => rfl
  | false => unfold batchL at h; rw [hq] at h; simp at h
theorem cms_cl {l : List Cm} (h : cmsOkB l = true) : ∀ m ∈ l, 0 ≤ m.cl ∧ m.cl ≤ 9 := fun m hm => by
  unfold cmsOkB at h
  simp only [Bool.and_eq_true, List.all_eq_true] at h
  have h1 := h.2 m hm
  have h2 : cmOkB m = true ∧ m.kd ≠ 0 := by simpa using h1
  have := (cm_nums h2.1 h2.2).1
  unfold inB at this
  simp at this
  omega
theorem cat_sm {x : Ctl} (h : catOkB x = true) : CatSm x ∧ ctlB x := by
  obtain ⟨a, b⟩ := catOk_bd h
  have c := (catOk_bd8 h).2
  refine ⟨⟨a, fun s hs => ⟨(b s hs).1, (b s hs).2.1, fun p hp => ⟨(b s hs).2.2 p hp, fun t ht => by have := ((c s hs).1.2.2 p hp).2.2.2 t ht; omega⟩⟩⟩, catBd_B ⟨by omega, fun s hs => (c s hs).1⟩⟩
theorem sta_cat {x : Sta} (h : staOkB x = true) : catOkB x.cat = true ∧ staOkB ⟨x.cat, []⟩ = true := by
  unfold staOkB at h ⊢
  rw [Bool.and_eq_true] at h
  exact ⟨h.2, by rw [h.2]; rfl⟩
theorem rev_sz {l : List Cm} (h : l.length ≤ 9) : intssSz ((batchL l).map List.reverse) ≤ 1048576 ∧ intssSz (batchL l) ≤ 1048576 := by
  obtain ⟨h1, h2⟩ := batch_small h
  refine ⟨intss_small (fun r hr => ?_) (by simpa using h2), intss_small (fun r hr => by have := h1 r hr; omega) h2⟩
  obtain ⟨q, hq, rfl⟩ := List.mem_map.1 hr
  have := h1 q hq
  rw [List.length_reverse]; omega
theorem field_cat (a b : Value) (w : World) : (Instr.field 87 (.agg #[a, b]) 0).run Try.prog w = .ok (.agg #[a]) w := by kernel_rfl
theorem build_sta (a : Value) (w : World) : (Instr.build 87 #[(0, .agg #[a])]).run Try.prog w = .ok (.agg #[a, .slice none 0 0]) w := by kernel_rfl
attribute [local go_sem] field_cat build_sta
theorem full_no (l : List Cm) (A : Option Addr) (n c : Nat) (w : World) (h : RowR cmR 8 w A n c l) (hcl : ∀ m ∈ l, 0 ≤ m.cl ∧ m.cl ≤ 9) (hl : l.length ≤ 1000) (hF : FewOk l) :
    Calls Try.prog 48 #[.slice A n c] w fun e w' => e = .returned (.bool false) ∧ Below w.heap.size w w' := (full_any l A n c w h hcl hl).mono fun e w' ⟨q, h1, h2, h3⟩ => ⟨by rw [h1, h2.2 hF], h3⟩
theorem full_yes (l : List Cm) (A : Option Addr) (n c : Nat) (w : World) (h : RowR cmR 8 w A n c l) (hcl : ∀ m ∈ l, 0 ≤ m.cl ∧ m.cl ≤ 9) (hl : l.length ≤ 1000) (hF : ¬ FewOk l) :
    Calls Try.prog 48 #[.slice A n c] w fun e w' => e = .returned (.bool true) ∧ Below w.heap.size w w' := (full_any l A n c w h hcl hl).mono fun e w' ⟨q, h1, h2, h3⟩ => ⟨by cases q with | true => exact h1 | false => exact absurd (h2.1 rfl) hF, h3⟩
theorem show_agg (x : Ctl) (A : Option Addr) (n c : Nat) (w : World) (h1 : RowR cstR 2 w A n c x.sets) (hok : staOkB ⟨x, []⟩ = true) (hc : catOkB x = true) :
    Calls Try.prog 49 #[.agg #[.slice A n c, .slice none 0 0]] w fun e w' => e = .returned (.string (catT x)) ∧ Below w.heap.size w w' := showState_spec x A n c w h1 hok (cat_sm hc).1 (cat_sm hc).2
theorem runs_same {l : List Cm} {R : List (List Int)} {k : Nat} (hF : FewOk l) (hok : cmsOkB l = true) (hk : k = l.length) (hR : R = (batchL l).map List.reverse) : ∃ X : Ctl, catOkB X = true ∧ staOkB ⟨X, []⟩ = true ∧ (runL l (upTo k)).cat = X ∧ (runL l (batchL l).flatten).cat = X ∧ (runL l R.flatten).cat = X := by
  obtain ⟨hc, N, hN, hl⟩ := hF
  have h1 := run_all hN hok hl hc
  have h2 := run_batches hN hok hl hc id (fun r => List.Perm.refl _)
  have h3 := run_batches hN hok hl hc List.reverse (fun r => List.reverse_perm r)
  rw [← batch_flat hok] at h2
  rw [← batch_turned hok, ← hR] at h3
  have h4 := sta_cat h1.2
  rw [h1.1] at h4
  exact ⟨catPlay ⟨[]⟩ l, h4.1, h4.2, by unfold upTo; rw [hk]; exact h1.1, h2.1, h3.1⟩
attribute [local irreducible] StrsAt IntsAt StrR StrO IntR IntO RowR RowO cmsOkB batchL fitsB cmsB cmsSz runL catPlay staOkB intssSz intRc
set_option maxRecDepth 20000 in
set_option maxHeartbeats 8000000 in
theorem fnBatches_any (A : Option Addr) (n c : Nat) (f : Nat → Int) (w : World) (h : CodeAt w A n f) (hn : n ≤ 9223372036854775807) :
    Calls Try.prog 9 #[.slice A n c] w fun e w' => e = .returned (.bool true) ∧ Below w.heap.size w w' := by
  by_cases hbig : (n : Int) > 1048576
  · have hd : decide ((n : Int) > 1048576) = true := by simpa using hbig
    go_enter Try.func9, Try.ntmps9
    go_wp2_with fail
    refine (big_any _ _ _ _).mono ?_
    rintro e w1 ⟨rfl, rfl⟩
    rw [hd]
    go_wp2
    go_returns
    exact ⟨rfl, Below.refl _ _⟩
  · have hd : decide ((n : Int) > 1048576) = false := by simpa using hbig
    have hn2 : n ≤ 1048576 := by omega
    go_enter Try.func9, Try.ntmps9
    go_wp2_with fail
    refine (big_any _ _ _ _).mono ?_
    rintro e w1 ⟨rfl, rfl⟩
    rw [hd]
    go_wp2_with fail
    refine (drawBatches_any _ _ _ _ _ h hn2).mono ?_
    rintro e w1 ⟨l, A1, n1, c1, fp1, rfl, hl9, hsm, RO1, hB1⟩
    obtain ⟨hcb, hcs⟩ := sm_bd hsm (by omega) hl9
    obtain ⟨zr, zb⟩ := rev_sz hl9
    have hcap := own_cap RO1
    have L1 := RO1.at_ cmK (by omega)
    clear RO1 hsm
    go_wp2_with fail
    refine (batches_impl l _ _ _ _ L1 hcb hcap).mono ?_
    rintro e w2 ⟨A2, n2, c2, rfl, I2, hb2⟩
    have b2 := I2.at_ intKc (by omega)
    clear I2
    go_wp2_with fail
    refine (batches_spec l _ _ _ _ (L1.keep cmK hb2) hcb).mono ?_
    rintro e w3 ⟨A3, n3, c3, rfl, I3, hb3⟩
    have b3 := I3.at_ intKc (by omega)
    clear I3
    obtain rfl : n2 = n3 := b2.len.trans b3.len.symm
    have b2a := b2.keep intKc hb3
    have hB3 := bthen (bthen hB1 hb2) hb3
    have L3 := (L1.keep cmK hb2).keep cmK hb3
    have HN := Lib.hid b2.len
    have HL := Lib.hid L1.len
    have hn29 : n2 ≤ 9 := by have := b2.len; have := (batch_small hl9).2; omega
    have hn19 : n1 ≤ 9 := by have := L1.len; omega
    clear b2 L1 hB1 hb2 hb3
    go_wp2_with fail
    refine (flat_impl _ _ _ _ _ b2a zb).mono ?_
    rintro e w4 ⟨A4, n4, c4, rfl, J4, hb4⟩
    go_wp2_with fail
    refine (flat_spec _ _ _ _ _ (b3.keep intKc hb4) zb).mono ?_
    rintro e w5 ⟨A5, n5, c5, rfl, J5, hb5⟩
    have f4 := J4.at_.keep hb5
    have f5 := J5.at_
    have hn4 : n4 ≤ 1048576 := ints_n f4 (flat_sz _ zb)
    clear J4 J5 b3
    go_wp2_with fail
    refine (sameInts_yes _ _ _ _ _ _ _ _ f4 f5 (by omega)).mono ?_
    rintro e w6 ⟨rfl, hb6⟩
    have hB6 := bthen (bthen (bthen hB3 hb4) hb5) hb6
    have L6 := ((L3.keep cmK hb4).keep cmK hb5).keep cmK hb6
    have b6 := ((b2a.keep intKc hb4).keep intKc hb5).keep intKc hb6
    clear f4 f5 hb4 hb5 hb6 L3 b2a hB3
    go_wp2_with fail
    refine (drawBatchFits_any _ _ _ _ _ (h.keep hB6) hn2).mono ?_
    rintro e w7 ⟨m, A7, n7, c7, fp7, d, A8, n8, c8, rfl, hm9, hms, RO7, D7, zd, hb7⟩
    obtain ⟨hmb, hmz⟩ := sm_bd hms (by omega) hm9
    have hcap7 := own_cap RO7
    have M7 := RO7.at_ cmK (by omega)
    clear RO7 hms
    go_wp2_with fail
    refine (batchFits_impl _ _ _ _ _ _ _ _ _ M7 D7 hmz zd hmb hcap7).mono ?_
    rintro e w8 ⟨rfl, hb8⟩
    go_wp2_with fail
    refine (batchFits_spec _ _ _ _ _ _ _ _ _ (M7.keep cmK hb8) (D7.keep intKc hb8) hmz zd hmb).mono ?_
    rintro e w9 ⟨rfl, hb9⟩
    have hB9 := bthen (bthen (bthen hB6 hb7) hb8) hb9
    have L9 := ((L6.keep cmK hb7).keep cmK hb8).keep cmK hb9
    have b9 := ((b6.keep intKc hb7).keep intKc hb8).keep intKc hb9
    clear M7 D7 hb7 hb8 hb9 L6 b6 hB6 hmz zd hmb hcap7 hm9
    generalize fitsB m d = q
    by_cases h0 : n2 = 0
    · subst h0
      go_wp2
      go_returns
      exact ⟨rfl, hB9⟩
    · have h0i : ((n2 : Int) == 0) = false := by simp; omega
      have HOK := Lib.hid (batch_ok (l := l) (by have := HN.out; omega))
      have own0 := own_empty w9 3 1 (Nat.le_refl w9.heap.size)
      have al0 := (Below.refl w9.heap.size w9).alloc (Nat.le_refl _) (.cells #[] 3)
      go_wp2
      go_loopw [8, 9] (fun o i wr => ∃ (k : Nat) (O : Option Addr) (cap : Nat), k ≤ n1 ∧ i = .int .i64 k ∧ o = .slice O k cap ∧ wr.ownsRow w9.heap.size 3 1 (.slice O k cap) k ((upTo k).map (Value.int .i64)) ∧ Below w9.heap.size w9 wr) (fun _ i _ => n1 - (intOf i).toNat)
      case atStart => exact ⟨0, _, _, Nat.zero_le _, rfl, rfl, own0, al0⟩
      case round =>
        clear own0 al0
        obtain ⟨k, O, cap, hk, rfl, rfl, own1, hb⟩ := hrel
        by_cases hlt : k < n1
        · have hlti : (k : Int) < (n1 : Int) := by omega
          go_wp2_with (first | (at_builtin; refine wpList_app1g (P := Try.prog) wr rfl (.tmp 59) (.tmp 61) 78 rfl w9.heap.size 3 _ 1 8 Try.underlying78 infoInt rfl (by omega) (.slice O k cap) _ _ rfl own1 _ _ rfl (by simp) rfl (by simp [Value.oneCell']) (by unfold maxLen; omega) (by omega) hb.size ?_; intro P' cp' w5 own5 hg5 hb5 hob5; refine stop_of ?_) | fail)
          unfold Stop
          go_wp2
          exact ⟨⟨k + 1, P', cp', by omega, by go_num, rfl, by rw [upTo_succ]; simpa using own5, hb.trans hb5⟩, by simp [intOf]; omega⟩
        · obtain rfl : k = n1 := by omega
          have hlti : ¬ ((k : Int) < (k : Int)) := by omega
          have ai := (IntsIn.of_own own1).at_
          have LU := L9.keep cmK hb
          have bU := b9.keep intKc hb
          have hBU := bthen hB9 hb
          clear own1 L9 b9 hB9
          obtain ⟨R, hR⟩ : ∃ R, R = (batchL l).map List.reverse := ⟨_, rfl⟩
          rw [← hR] at zr
          have HRk := Lib.hid (show ∀ (k : Nat) (y : List Int), (batchL l)[k]? = some y → R[k]? = some y.reverse from fun k y hy => by rw [hR, List.getElem?_map, hy]; rfl)
          have HR := Lib.hid hR
          clear hR
          obtain ⟨U, hU⟩ : ∃ U, U = wr := ⟨_, rfl⟩
          subst hU
          have own0 := own_empty U 3 1 (Nat.le_refl U.heap.size)
          have al0 := (Below.refl U.heap.size U).alloc (Nat.le_refl _) (.cells #[] 3)
          go_wp2
          go_loopw [10, 11] (fun o i wr => ∃ (j : Nat) (O : Option Addr) (cap : Nat), j ≤ n2 ∧ i = .int .i64 j ∧ o = .slice O (flatTo R j).length cap ∧ wr.ownsRow U.heap.size 3 1 (.slice O (flatTo R j).length cap) (flatTo R j).length ((flatTo R j).map (Value.int .i64)) ∧ Below U.heap.size U wr) (fun _ i _ => n2 - (intOf i).toNat)
          case atStart => exact ⟨0, _, _, Nat.zero_le _, rfl, by rw [flatTo_zero]; rfl, by rw [flatTo_zero]; exact own0, al0⟩
          case round =>
            clear own0 al0
            obtain ⟨j, P, cp, hj, rfl, rfl, own1, hb1⟩ := hrel
            have hle := flatTo_len R j
            by_cases hlt : j < n2
            · have hjn : (j : Int) < (n2 : Int) := by omega
              obtain ⟨b, off, rfl⟩ := bU.head (by omega)
              obtain ⟨hbl, y, cs, hy, hir, hc⟩ := bU.elem_at hlt
              unfold intRc at hir
              obtain ⟨Q1, m1, d1, rfl, hir2, _⟩ := hir
              unfold IntR at hir2
              obtain ⟨hat, hcq⟩ := hir2
              have hc0 : wr.cell? ⟨b, off + j, none⟩ = some (.slice Q1 m1 d1) := (hb1.cell (p := ⟨b, off + j, none⟩) hbl).trans (by have := hc 0 _ rfl; simpa using this)
              have hat2 := hat.keep hb1
              have hm := ints_lenB hat
              have hm9 : m1 ≤ 9 := by have := (batch_small hl9).1 y (List.mem_of_getElem? hy); omega
              have HY := Lib.hid hy
              have HS := Lib.hid (flatTo_succ (HRk.out j y hy))
              have HM := Lib.hid hm
              have hwr' : (m1 : Int) ≤ 9 := by omega
              have hwr : IntKind.i64.wrap ((m1 : Int) - 1) = (m1 : Int) - 1 := by rw [IntKind.wrap_i64]; omega
              have hcU : U.cell? ⟨b, off + j, none⟩ = some (.slice Q1 m1 d1) := by have := hc 0 _ rfl; simpa using this
              clear hy hm hc
              obtain ⟨Y, hY⟩ : ∃ Y, Y = wr := ⟨_, rfl⟩
              subst hY
              go_wp2
              go_loopw [10, 12] (fun o i wq => ∃ (r : Nat) (S : List Int) (v : Int) (P' : Option Addr) (cp' : Nat), r ≤ m1 ∧ i = .int .i64 v ∧ Hid (v + 1 = (r : Int)) ∧ Hid (S = flatTo R j ++ (y.drop r).reverse) ∧ o = .slice P' S.length cp' ∧ wq.ownsRow U.heap.size 3 1 (.slice P' S.length cp') S.length (S.map (Value.int .i64)) ∧ Below U.heap.size U wq) (fun _ i _ => (intOf i + 1).toNat)
              case atStart => exact ⟨m1, flatTo R j, (m1 : Int) - 1, P, cp, Nat.le_refl _, rfl, Lib.hid (by omega), Lib.hid (by rw [List.drop_of_length_le (by have := HM.out; omega)]; simp), rfl, own1, hb1⟩
              case round =>
                clear own1 hb1
                obtain ⟨r, S, v, P', cp', hr, rfl, HV, HS2, rfl, own2, hb2⟩ := hrel
                have hSl : S.length + r = (flatTo R j).length + m1 := by rw [HS2.out]; have := HM.out; simp; omega
                by_cases h0r : r = 0
                · obtain rfl : v = -1 := by have := HV.out; omega
                  obtain rfl : S = flatTo R (j + 1) := by rw [HS2.out, HS.out, h0r]; simp
                  go_wp2
                  exact ⟨⟨j + 1, P', cp', by omega, by go_num, rfl, own2, hb2⟩, by simp [intOf]; omega⟩
                · obtain ⟨q, rfl⟩ : ∃ q : Nat, v = (q : Int) := ⟨v.toNat, by have := HV.out; omega⟩
                  have hq : q + 1 = r := by have := HV.out; omega
                  have HQ := Lib.hid hq
                  have hqm : q < m1 := by omega
                  have hqi : (q : Int) < (m1 : Int) := by omega
                  obtain ⟨ob, oo, rfl, hob, hcs⟩ := hat.at_ (by omega)
                  have oc : wr.cell? ⟨ob, oo + q, none⟩ = some (.int .i64 (iAt y q)) := (hb2.cell (p := ⟨ob, oo + q, none⟩) hob).trans (hcs q hqm)
                  have oc0 : wr.cell? ⟨b, off + j, none⟩ = some (.slice (some ⟨ob, oo, none⟩) m1 d1) := (hb2.cell (p := ⟨b, off + j, none⟩) hbl).trans hcU
                  obtain ⟨z, hz⟩ : ∃ z, iAt y q = z := ⟨_, rfl⟩
                  rw [hz] at oc
                  have HZ := Lib.hid (iAt_some (by have := HM.out; omega) hz)
                  have hwq : IntKind.i64.wrap ((q : Int) - 1) = (q : Int) - 1 := by rw [IntKind.wrap_i64]; omega
                  have hSn : S.length ≤ 2000000 := by omega
                  clear hz hq hcs hSl HV
                  go_wp2_with (first | (at_builtin; refine wpList_app1g (P := Try.prog) wr rfl (.tmp 80) (.tmp 88) 78 rfl U.heap.size 3 _ 1 8 Try.underlying78 infoInt rfl (by omega) (.slice P' S.length cp') _ _ rfl own2 _ _ rfl (by simp) rfl (by simp [Value.oneCell']) (by unfold maxLen; omega) (by omega) hb2.size ?_; intro P3 cp3 w5 own5 hg5 hb5 hob5; refine stop_of ?_) | fail)
                  unfold Stop
                  go_wp2
                  exact ⟨⟨q, S ++ [z], (q : Int) - 1, P3, cp3, by omega, rfl, Lib.hid (by omega), Lib.hid (by rw [HS2.out, ← HQ.out, List.append_assoc, drop_one HZ.out, List.reverse_cons]), by simp, by simpa using own5, hb2.trans hb5⟩, by first | (simp [intOf]; done) | (simp [intOf]; omega)⟩
            · obtain rfl : j = n2 := by omega
              have hjn : ¬ ((j : Int) < (j : Int)) := by omega
              have e := flatTo_all R (n := j) (by rw [HR.out, List.length_map]; have := HN.out; omega)
              rw [e] at own1 hle ⊢
              have ti := (IntsIn.of_own own1).at_
              clear own1 e
              obtain ⟨nt, hnt⟩ : ∃ nt, R.flatten.length = nt := ⟨_, rfl⟩
              rw [hnt] at ti hle ⊢
              have hnt9 : nt ≤ 1048576 := by omega
              clear hnt
              obtain ⟨V, hV⟩ : ∃ V, V = wr := ⟨_, rfl⟩
              subst hV
              have LV := LU.keep cmK hb1
              have bV := bU.keep intKc hb1
              have aV := ai.keep hb1
              have hBV := bthen hBU hb1
              have hcm := cms_each hcb
              clear LU bU ai hBU hb1 hle
              go_wp2_with fail
              refine (runIn_impl l (upTo k) _ _ _ _ _ _ _ LV aV (by omega) (by omega) hcm).mono ?_
              rintro e wa ⟨B1, m1, d1, D1, p1, q1, f1, f2, rfl, RA, _, _, _, hba⟩
              simp only [staV]
              have R1 := RA.at_ cstK (by omega)
              clear RA
              have al1 := (Below.refl wa.heap.size wa).alloc (Nat.le_refl _) (.cells #[.slice B1 m1 d1, .slice none 0 0] 87)
              have X1 := BoxL.new wa [.slice B1 m1 d1, .slice none 0 0] 87
              go_wp2_with fail
              obtain ⟨wb, hwb⟩ : ∃ W, W = wa.alloc (.cells #[.slice B1 m1 d1, .slice none 0 0] 87) := ⟨_, rfl⟩
              rw [← hwb] at al1 X1 ⊢
              clear hwb
              have R1b := R1.keep cstK al1
              have Lb := (LV.keep cmK hba).keep cmK al1
              have bb := (bV.keep intKc hba).keep intKc al1
              have tb := (ti.keep hba).keep al1
              have hBb := bthen (bthen hBV hba) al1
              obtain ⟨g1, hg1⟩ : ∃ g, wa.heap.size = g := ⟨_, rfl⟩
              have HG1 := Lib.hid hg1
              simp only [hg1] at X1 ⊢
              clear LV bV ti aV hBV hba al1 R1 hg1
              refine (flat_impl _ _ _ _ _ bb zb).mono ?_
              rintro e wc ⟨A6, n6, c6, rfl, J6, hbc⟩
              have f6 := J6.at_
              have hn6 : n6 ≤ 1048576 := ints_n f6 (flat_sz _ zb)
              clear J6
              go_wp2_with fail
              refine (runIn_impl l (batchL l).flatten _ _ _ _ _ _ _ (Lb.keep cmK hbc) f6 (by omega) hn6 hcm).mono ?_
              rintro e wd ⟨B2, m2, d2, D2, p2, q2, f3, f4, rfl, RB, _, _, _, hbd⟩
              simp only [staV]
              have R2 := RB.at_ cstK (by omega)
              clear RB f6
              have al2 := (Below.refl wd.heap.size wd).alloc (Nat.le_refl _) (.cells #[.slice B2 m2 d2, .slice none 0 0] 87)
              have X2 := BoxL.new wd [.slice B2 m2 d2, .slice none 0 0] 87
              go_wp2_with fail
              obtain ⟨we, hwe⟩ : ∃ W, W = wd.alloc (.cells #[.slice B2 m2 d2, .slice none 0 0] 87) := ⟨_, rfl⟩
              rw [← hwe] at al2 X2 ⊢
              clear hwe
              obtain ⟨g2, hg2⟩ : ∃ g, wd.heap.size = g := ⟨_, rfl⟩
              have HG2 := Lib.hid hg2
              simp only [hg2] at X2 ⊢
              have R2e := R2.keep cstK al2
              have R1e := ((R1b.keep cstK hbc).keep cstK hbd).keep cstK al2
              have X1e := ((X1.keep hbc).keep hbd).keep al2
              have Le := ((Lb.keep cmK hbc).keep cmK hbd).keep cmK al2
              have be := ((bb.keep intKc hbc).keep intKc hbd).keep intKc al2
              have te := ((tb.keep hbc).keep hbd).keep al2
              have hBe := bthen (bthen (bthen hBb hbc) hbd) al2
              clear R2 R1b X1 Lb bb tb hBb hbc hbd al2 hg2
              refine (runIn_impl l R.flatten _ _ _ _ _ _ _ Le te (by omega) hnt9 hcm).mono ?_
              rintro e wf ⟨B3, m3, d3, D3, p3, q3, f5, f6, rfl, RC, _, _, _, hbf⟩
              simp only [staV]
              have R3 := RC.at_ cstK (by omega)
              clear RC te
              have al3 := (Below.refl wf.heap.size wf).alloc (Nat.le_refl _) (.cells #[.slice B3 m3 d3, .slice none 0 0] 87)
              have X3 := BoxL.new wf [.slice B3 m3 d3, .slice none 0 0] 87
              go_wp2_with fail
              obtain ⟨Z, hZ⟩ : ∃ W, W = wf.alloc (.cells #[.slice B3 m3 d3, .slice none 0 0] 87) := ⟨_, rfl⟩
              rw [← hZ] at al3 X3 ⊢
              clear hZ
              obtain ⟨g3, hg3⟩ : ∃ g, wf.heap.size = g := ⟨_, rfl⟩
              have HG3 := Lib.hid hg3
              simp only [hg3] at X3 ⊢
              have R3z := R3.keep cstK al3
              have R2z := (R2e.keep cstK hbf).keep cstK al3
              have R1z := (R1e.keep cstK hbf).keep cstK al3
              have X1z := (X1e.keep hbf).keep al3
              have X2z := (X2.keep hbf).keep al3
              have Lz := (Le.keep cmK hbf).keep cmK al3
              have bz := (be.keep intKc hbf).keep intKc al3
              have hBz := bthen (bthen hBe hbf) al3
              clear R3 R2e R1e X1e X2 Le be hBe hbf al3 hg3
              have BF := Lib.hid (batch_fits HOK.out)
              have l1 := X1z.lt; have l2 := X2z.lt; have l3 := X3.lt
              have x10 := X1z.cell 0 _ rfl; have x11 := X1z.cell 1 _ rfl
              have x20 := X2z.cell 0 _ rfl; have x21 := X2z.cell 1 _ rfl
              have x30 := X3.cell 0 _ rfl; have x31 := X3.cell 1 _ rfl
              have hl1000 : l.length ≤ 1000 := by omega
              have hcl := Lib.hid (cms_cl HOK.out)
              by_cases hF : FewOk l
              · obtain ⟨X, hx0, hs0, e1, e2, e3⟩ := runs_same hF HOK.out HL.out HR.out
                have HX0 := Lib.hid hx0; have HS0 := Lib.hid hs0
                rw [e1] at R1z
                rw [e2] at R2z
                rw [e3] at R3z
                clear e1 e2 e3 hx0 hs0
                refine wp_region_grow (by kernel_rfl) (by kernel_rfl) ?_
                repeat (first | ((with_reducible refine wpQuiet_load 87 (.tmp 13) (g1) (0) [.slice B1 m1 d1, .slice none 0 0] _ X1z.lt X1z.range Try.underlying87 sizeState0 ?_ ?_ ?_ ?_ ?_ ?_); (rfl); (rfl); (rfl); (rfl); (rfl); (simp only [Act.put, List.setIfInBounds_toArray, List.set_cons_succ, List.set_cons_zero])) | ((with_reducible refine wpQuiet_load 87 (.tmp 14) (g2) (0) [.slice B2 m2 d2, .slice none 0 0] _ X2z.lt X2z.range Try.underlying87 sizeState0 ?_ ?_ ?_ ?_ ?_ ?_); (rfl); (rfl); (rfl); (rfl); (rfl); (simp only [Act.put, List.setIfInBounds_toArray, List.set_cons_succ, List.set_cons_zero])) | ((with_reducible refine wpQuiet_load 87 (.tmp 15) (g3) (0) [.slice B3 m3 d3, .slice none 0 0] _ X3.lt X3.range Try.underlying87 sizeState0 ?_ ?_ ?_ ?_ ?_ ?_); (rfl); (rfl); (rfl); (rfl); (rfl); (simp only [Act.put, List.setIfInBounds_toArray, List.set_cons_succ, List.set_cons_zero])) | go_big_quiet_step (first | (go_at_call 22; exact grow_of (known BF.out (batchFits_impl _ _ _ _ _ _ _ _ _ (Lz.keep cmK (Grow.below _)) (bz.keep intKc (Grow.below _)) hcs zb hcb hcap))) | (go_at_call 48; exact grow_of (full_no l _ _ _ _ (Lz.keep cmK (Grow.below _)) hcl.out hl1000 hF)) | (go_at_call 49; with_reducible exact grow_of (show_agg X _ _ _ _ (R1z.keep cstK (Grow.below _)) HS0.out HX0.out)) | (go_at_call 49; with_reducible exact grow_of (show_agg X _ _ _ _ (R2z.keep cstK (Grow.below _)) HS0.out HX0.out)) | (go_at_call 49; with_reducible exact grow_of (show_agg X _ _ _ _ (R3z.keep cstK (Grow.below _)) HS0.out HX0.out))))
                refine wpQuiet_nil ?_
                intro _ hw'
                obtain ⟨⟨wn, hbn⟩, hw''⟩ := hw'
                change _ = wn at hw''
                subst hw''
                go_wp2
                go_returns
                exact ⟨rfl, bthen hBz hbn⟩
              · refine wp_region_grow (by kernel_rfl) (by kernel_rfl) ?_
                repeat (first | ((with_reducible refine wpQuiet_load 87 (.tmp 13) (g1) (0) [.slice B1 m1 d1, .slice none 0 0] _ X1z.lt X1z.range Try.underlying87 sizeState0 ?_ ?_ ?_ ?_ ?_ ?_); (rfl); (rfl); (rfl); (rfl); (rfl); (simp only [Act.put, List.setIfInBounds_toArray, List.set_cons_succ, List.set_cons_zero])) | ((with_reducible refine wpQuiet_load 87 (.tmp 14) (g2) (0) [.slice B2 m2 d2, .slice none 0 0] _ X2z.lt X2z.range Try.underlying87 sizeState0 ?_ ?_ ?_ ?_ ?_ ?_); (rfl); (rfl); (rfl); (rfl); (rfl); (simp only [Act.put, List.setIfInBounds_toArray, List.set_cons_succ, List.set_cons_zero])) | ((with_reducible refine wpQuiet_load 87 (.tmp 15) (g3) (0) [.slice B3 m3 d3, .slice none 0 0] _ X3.lt X3.range Try.underlying87 sizeState0 ?_ ?_ ?_ ?_ ?_ ?_); (rfl); (rfl); (rfl); (rfl); (rfl); (simp only [Act.put, List.setIfInBounds_toArray, List.set_cons_succ, List.set_cons_zero])) | go_big_quiet_step (first | (go_at_call 22; exact grow_of (known BF.out (batchFits_impl _ _ _ _ _ _ _ _ _ (Lz.keep cmK (Grow.below _)) (bz.keep intKc (Grow.below _)) hcs zb hcb hcap))) | (go_at_call 48; exact grow_of (full_yes l _ _ _ _ (Lz.keep cmK (Grow.below _)) hcl.out hl1000 hF))))
                refine wpQuiet_nil ?_
                intro _ hw'
                obtain ⟨⟨wn, hbn⟩, hw''⟩ := hw'
                change _ = wn at hw''
                subst hw''
                go_wp2
                go_returns
                exact ⟨rfl, bthen hBz hbn⟩

theorem fnBatches_shape {H : Type} {enc : TypeId × Value → H} {W : World} {args : Array Value} {ds : List (DataW H)} {p : List MemPlace}
    (hA : DataW.TrodAll enc Try.prog W 0 (fun _ => true) true Try.f9.params.toList args.toList ds p) : ∃ x0, ds = [x0] := by
  obtain ⟨v0, d0, rfl, rfl, h0⟩ := trodAll_one hA
  exact ⟨_, rfl⟩

set_option maxRecDepth 100000 in
theorem fnBatches_contract {H : Type} {enc : TypeId × Value → H} (W : World) (base : Nat) (args : Array Value) (ds : List (DataW H)) (p : List MemPlace)
    (hval : ∀ (j : Nat) t v, Try.f9.params[j]? = some t → args[j]? = some v → Value.okWide Try.prog W .any base t v)
    (hA : DataW.TrodAll enc Try.prog W 0 (fun _ => true) true Try.f9.params.toList args.toList ds p) :
    Calls Try.prog 9 args W fun e W' => e = .returned (.bool true) ∧ Below W.heap.size W W' := by
  obtain ⟨v0, d0, rfl, rfl, h0⟩ := trodAll_one hA
  obtain ⟨A0, n0, c0, f0, rfl, hr0, hn0⟩ := open_code (hval 0 74 v0 rfl rfl) h0
  exact fnBatches_any _ _ _ _ W hr0 hn0

set_option maxRecDepth 100000 in
theorem fnBatches_lifted (os : Os) (started : os.Started) (H : Type) (enc : TypeId × Value → H) :
    ReturnsInHanded {} Try.checked os 9 .any (Rows.fnBatchesSpec.pre6 enc Try.prog Try.f9 Rows.fnBatchesRow.domain false) (Rows.fnBatchesSpec.post enc Try.prog Try.f9 false true false false) := by
  refine returnsInHanded_of_change (C := Try.checked) Try.own started (by kernel_rfl) Try.func9
    (ChangeSpec.witness6 (enc := enc) (C := Try.checked) false ⟨#[], #[.slice none 0 0], []⟩ 8 (by kernel_rfl) (by kernel_rfl) (by kernel_rfl) (by kernel_rfl)) ?_
  intro W base args ds gs before hval0 hW _ _
  have hval : ∀ (j : Nat) t v, Try.f9.params[j]? = some t → args[j]? = some v → Value.okWide Try.prog W .any base t v := hval0
  have hW' := hW
  obtain ⟨p, q, hA0, hV, rfl, hfz, hnd⟩ := hW
  have hA : DataW.TrodAll enc Try.prog W 0 (fun _ => true) true Try.f9.params.toList args.toList ds p := hA0
  refine (fnBatches_contract W base args ds p hval hA).mono fun e W' ⟨he, hb⟩ => ?_
  subst he
  have hds := fnBatches_shape hA
  obtain ⟨hgs, _⟩ := trodVars_none hV
  subst hgs
  refine ⟨_, rfl, law_post (P := Try.prog) Try.laidOut (of_decide_eq_true (by kernel_rfl)) (by kernel_rfl) Try.underlying4 hW' rfl ?_ ?_ ?_ hb⟩
  all_goals (obtain ⟨x0, rfl⟩ := hds; rfl)

theorem fnBatches_holds : Rows.FnBatchesSaid :=
  OpenClaim.holds_of_wide 9 Try.f9 rfl rfl rfl rfl rfl rfl rfl ⟨rfl, rfl, rfl, rfl, rfl⟩ rfl rfl rfl rfl rfl (by kernel_rfl) Try.func9 (by kernel_rfl)
    (of_decide_eq_true (by kernel_rfl)) (by unfold Func.isWrapper; first | (rw [if_pos (by decide +kernel)]; kernel_rfl) | (rw [if_neg (by decide +kernel)]; exact ⟨rfl, rfl⟩))
    (fun os started H enc _ => fnBatches_lifted os started H enc)
end Go.Proofs.Ytdphdnllhmnelaa
