/- Contracts and lemmas: RunIn. -/
import Derived.Test.YtdphdnllhmnelaaGreatJ35
import Derived.Test.YtdphdnllhmnelaaGreatJ11
import Derived.Test.YtdphdnllhmnelaaGreatJ0
/- RunIn: both sides. -/
namespace Go.Proofs.YtdphdnllhmnelaaGreat
open Go.RowKit
attribute [local go_sem] Grow.cell Grow.frozen
/-- what a run leaves -/
def RunOut (s : Sta) (w : World) (e : Ending) (w' : World) : Prop :=
  ∃ B1 m1 d1 B2 m2 d2 f1 f2, e = .returned (staV s (.slice B1 m1 d1) (.slice B2 m2 d2)) ∧ RowO cstF 165 2 f1 w' B1 m1 d1 s.cat.sets ∧ RowO saiF 114 3 f2 w' B2 m2 d2 s.said ∧ (f1 ++ f2).Nodup ∧ (∀ b ∈ f1 ++ f2, w.heap.size ≤ b) ∧ Below w.heap.size w w'
theorem PlayOut.out {s : Sta} {w w' : World} {e : Ending} (h : PlayOut s w e w') : ∃ B1 m1 d1 B2 m2 d2 f1 f2 Z, e = .returned (.tuple #[staV s (.slice B1 m1 d1) (.slice B2 m2 d2), Z]) ∧ RowO cstF 165 2 f1 w' B1 m1 d1 s.cat.sets ∧ RowO saiF 114 3 f2 w' B2 m2 d2 s.said ∧ (f1 ++ f2).Nodup ∧ (∀ b ∈ f1 ++ f2, w.heap.size ≤ b) ∧ Below w.heap.size w w' := h
theorem run_out {s : Sta} {w w5 w6 : World} {B1 B2 : Option Addr} {m1 d1 m2 d2 g : Nat} {f1 f2 : List Nat} (R1 : RowO cstF 165 2 f1 w5 B1 m1 d1 s.cat.sets) (R2 : RowO saiF 114 3 f2 w5 B2 m2 d2 s.said) (hN : (f1 ++ f2).Nodup)
    (hF : ∀ b ∈ f1 ++ f2, g < b) (hb : Below g w w5) (hg : w.heap.size = g) (hg5 : g < w5.heap.size) (ha : Below (w5.setCells g 0 [.slice B1 m1 d1, .slice B2 m2 d2]).heap.size (w5.setCells g 0 [.slice B1 m1 d1, .slice B2 m2 d2]) w6) : RunOut s w (.returned (.agg #[.slice B1 m1 d1, .slice B2 m2 d2])) w6 := by
  have hch := ch_setCells (g := g) [.slice B1 m1 d1, .slice B2 m2 d2] 0 w5
  have hz := hch.size
  subst hg
  have hne : ∀ b ∈ f1 ++ f2, ¬ b = w.heap.size := fun b hb => by have := hF b hb; omega
  exact ⟨B1, m1, d1, B2, m2, d2, f1, f2, rfl, (R1.ch cstK hch (fun b hb => hne b (List.mem_append_left _ hb))).keep cstK ha, (R2.ch saiK hch (fun b hb => hne b (List.mem_append_right _ hb))).keep saiK ha, hN, fun b hb => by have := hF b hb; omega,
    (hch.belowB hb hb.size (fun k hk => by have hk : k = w.heap.size := hk; omega)).trans (ha.mono (by omega))⟩
theorem pick_drop (l : List Cm) {o : List Int} {k : Nat} (hk : k < o.length) : pickL l (o.drop k) = if 0 ≤ iAt o k ∧ iAt o k < (l.length : Int) then cmAt l (iAt o k).toNat :: pickL l (o.drop (k + 1)) else pickL l (o.drop (k + 1)) := by
  rw [List.drop_eq_getElem_cons hk, pickL, show iAt o k = o[k] by simp [iAt, hk]]
theorem pick_mem {l : List Cm} : ∀ {o : List Int}, ∀ m ∈ pickL l o, m ∈ l
  | [], m, h => by cases h
  | i :: o, m, h => by
    unfold pickL at h
    split at h
    · rename_i hi
      rcases List.mem_cons.1 h with rfl | h
      · have hj : i.toNat < l.length := by omega
        rw [show cmAt l i.toNat = l[i.toNat] by simp [cmAt, hj]]
        exact List.getElem_mem hj
      · exact pick_mem m h
    · exact pick_mem m h
theorem cm_els {css : List (List Value)} {l : List Cm} {m : Cm} {w : World} {A : Option Addr} {n c : Nat} (h : ElsR cmR w css l) (hs : StrR w A n c m.ch) : ElsR cmR w (css ++ [[.int .i64 m.kd, .int .i64 m.cl, .int .i64 m.no, .string m.s, .string m.nm, .string m.tg, .int .i64 m.n, .slice A n c]]) (l ++ [m]) := h.snoc ⟨A, n, c, rfl, hs⟩
theorem results_one {P : Program} {fn : Func} {c : Tmp} {ty : TypeId} (h : fn.results = #[.cell c ty]) {tmps : Array Value} {w : World} {b : Nat} {cs : List Value} {d : TypeDesc} (hp : tmps.getD c undef = .pointer (some ⟨b, 0, none⟩))
    (hc : w.rangeAt b 0 cs) (hu : P.underlying ty = some d) (hd : d.isRow = true) (hi : (P.info? ty).map (·.size) = some cs.length) : (results fn tmps).run P w = .ok (.agg cs.toArray) w := results_cell1 h hp hc hu hd hi
attribute [local irreducible] StrsAt StrR RowR RowO stPlay PlayOut RunOut pickL runL ElsR
set_option maxRecDepth 8000 in
set_option maxHeartbeats 8000000 in
theorem runIn_impl (l : List Cm) (or_ : List Int) (A : Option Addr) (n c : Nat) (A2 : Option Addr) (n2 c2 : Nat) (w : World) (h : RowR cmR 8 w A n c l) (h2 : IntsAt w A2 n2 or_) (hn : n ≤ 1048576) (hn2 : n2 ≤ 1048576) (hb : ∀ m ∈ l, cmB m) :
    Calls Tryz.prog 9 #[.slice A n c, .slice A2 n2 c2] w (RunOut (runL l or_) w) := by
  have HL := Lib.hid h.len
  have HL2 := Lib.hid h2.1
  have al1 := (Below.refl w.heap.size w).alloc (Nat.le_refl _) (.cells #[.slice none 0 0, .slice none 0 0] 30)
  have al2 := al1.alloc al1.size (.cells #[] 48)
  have hz1 : (w.alloc (.cells #[.slice none 0 0, .slice none 0 0] 30)).heap.size = w.heap.size + 1 := Array.size_push _
  have BO := (BoxL.new w [.slice none 0 0, .slice none 0 0] 30).keep ((Below.refl _ _).alloc (Nat.le_refl _) (.cells #[] 48))
  have own0 := own_empty (w.alloc (.cells #[.slice none 0 0, .slice none 0 0] 30)) 48 8 (base := 0) (Nat.zero_le _)
  go_enter Tryz.func9, Tryz.ntmps9
  go_wp2_with fail
  obtain ⟨W, hWW⟩ : ∃ W, W = (w.alloc (.cells #[.slice none 0 0, .slice none 0 0] 30)).alloc (.cells #[] 48) := ⟨_, rfl⟩
  obtain ⟨g, hg⟩ : ∃ g, w.heap.size = g := ⟨_, rfl⟩
  rw [hz1] at own0
  have HG := Lib.hid hg
  rw [← hWW] at al2 BO own0 ⊢
  simp only [hg] at BO own0 ⊢
  clear hWW hg al1 hz1
  have hgl := BO.lt
  go_loopw [5, 13] (fun s i wr => ∃ (k : Nat) (P : Option Addr) (cp : Nat) (css : List (List Value)) (lO : List Cm), k ≤ n2 ∧ i = .int .i64 k ∧ s = .slice P lO.length cp ∧ lO.length ≤ k ∧ wr.ownsRow 0 48 8 (.slice P lO.length cp) lO.length css.flatten ∧ (∀ x ∈ blkL P, g + 1 ≤ x) ∧
      ElsR cmR w css lO ∧ pickL l or_ = lO ++ pickL l (or_.drop k) ∧ BoxL wr g [.slice none 0 0, .slice none 0 0] ∧ Below w.heap.size w wr ∧ g + 1 ≤ wr.heap.size) (fun _ i _ => n2 - (intOf i).toNat)
  case atStart => exact ⟨0, _, _, [], [], Nat.zero_le _, rfl, rfl, Nat.le_refl _, own0, (fun x hx => by have h2 : x = g + 1 := (by simpa [blkL] using hx); omega), ElsR.nil, rfl, BO, al2, by omega⟩
  case round =>
    clear BO own0 al2
    obtain ⟨k, P, cp, css, lO, hk, rfl, rfl, hlO, own1, hP, hE, hpk, BO, hB, hgz⟩ := hrel
    have HI := Lib.hid hpk; clear hpk
    have HO := Lib.hid hlO
    have lg := BO.lt
    by_cases hlt : k < n2
    · have hki : (k : Int) < (n2 : Int) := by omega
      obtain ⟨ob, oo, rfl, hobl, hc2⟩ := (h2.keep hB).2 (by omega)
      have oc : wr.cell? ⟨ob, oo + k, none⟩ = some (.int .i64 (iAt or_ k)) := hc2 k hlt
      have HD := Lib.hid (pick_drop l (o := or_) (k := k) (by have := HL2.out; omega))
      have hlO3 : lO.length ≤ 1048576 := by omega
      obtain ⟨v, hv⟩ : ∃ v, iAt or_ k = v := ⟨_, rfl⟩
      rw [hv] at oc HD
      clear hv hc2 hlO
      by_cases hin : 0 ≤ v ∧ v < (n : Int)
      · obtain ⟨j, rfl⟩ : ∃ j : Nat, v = (j : Int) := ⟨v.toNat, by omega⟩
        have hjn : j < n := by omega
        have hji : (j : Int) < (n : Int) := by omega
        have hR := h.keep cmK hB
        obtain ⟨b, off, rfl⟩ := hR.head (by omega)
        obtain ⟨bl, m, C1, q1, e1, hm, hmc, hcr⟩ := cm_el hR hjn
        obtain ⟨_, m', C1', q1', e1', hm', hmc', hcr'⟩ := cm_el h hjn
        obtain rfl : m = m' := Option.some.inj (hm.symm.trans hm')
        have hq := hcr 7 _ rfl
        have hq' := (hB.cell (p := ⟨b, off + j * 8 + 7, none⟩) (cell_lt (hcr' 7 _ rfl))).trans (hcr' 7 _ rfl)
        have hqe := Option.some.inj (hq.symm.trans hq')
        injection hqe with e7 e8 e9
        subst e7 e8 e9
        have r0 : wr.cell? ⟨b, off + j * 8, none⟩ = some (.int .i64 m.kd) := hcr 0 _ rfl
        have r1 : wr.cell? ⟨b, off + j * 8 + 1, none⟩ = some (.int .i64 m.cl) := hcr 1 _ rfl
        have r2 : wr.cell? ⟨b, off + j * 8 + 2, none⟩ = some (.int .i64 m.no) := hcr 2 _ rfl
        have r3 : wr.cell? ⟨b, off + j * 8 + 3, none⟩ = some (.string m.s) := hcr 3 _ rfl
        have r4 : wr.cell? ⟨b, off + j * 8 + 4, none⟩ = some (.string m.nm) := hcr 4 _ rfl
        have r5 : wr.cell? ⟨b, off + j * 8 + 5, none⟩ = some (.string m.tg) := hcr 5 _ rfl
        have r6 : wr.cell? ⟨b, off + j * 8 + 6, none⟩ = some (.int .i64 m.n) := hcr 6 _ rfl
        have r7 : wr.cell? ⟨b, off + j * 8 + 7, none⟩ = some (.slice C1 q1 e1) := hq
        have HE2 := Lib.hid (cm_els hE hmc')
        have HJ := Lib.hid (show pickL l or_ = (lO ++ [m]) ++ pickL l (or_.drop (k + 1)) by
          rw [HI.out, HD.out, if_pos (by have := HL.out; omega), Int.toNat_natCast, show cmAt l j = m by unfold cmAt; simp [hm]]; simp)
        clear hm hm' hmc hmc' hcr hcr' hq hq' hE hR
        go_wp2_with fail
        refine (within_any _ _ _ _).mono ?_
        rintro e w' ⟨rfl, rfl⟩
        have hw : inB (j : Int) 0 ((n : Int) - 1) = true := by unfold inB; simp; omega
        rw [hw]
        go_wp2_with (first | (at_builtin; refine wpList_app1g (P := Tryz.prog) _ rfl (.tmp 22) (.tmp 27) 32 rfl 0 48 _ 8 104 Tryz.underlying32 infoCmd rfl (by omega) (.slice P lO.length cp) _ _ rfl own1 _ _ rfl (by simp) rfl (by simp [Value.oneCell']) (by unfold maxLen; omega) (by omega) (Nat.zero_le _) ?_; intro P3 cp3 w3 own3 hg3 hb3 hob3; refine stop_of ?_) | fail)
        unfold Stop
        have C3 : Ch (fun t => g + 1 ≤ t) wr w3 := (Ch.of_grow hg3).mono (fun t ht => hP t (mem_blkL.2 (blk_of ht)))
        have hP3 := blk_new hob3 hP (by omega)
        have hB3 : Below w.heap.size w w3 := C3.belowB hB hB.size (fun t ht => by have ht : g + 1 ≤ t := ht; have := HG.out; omega)
        have BO3 := BO.ch C3 (by omega)
        have hgz3 := Nat.le_trans hgz C3.size
        have HX := Lib.hid (And.intro (And.intro BO3 hB3) (And.intro hgz3 hP3)); have HOW := Lib.hid own3; clear BO3 hB3 hgz3 hP3 own3 C3 hg3 hb3 hob3 r0 r1 r2 r3 r4 r5 r6 r7 oc
        go_wp2
        exact ⟨⟨k + 1, P3, cp3, _, (lO ++ [m]), by omega, by go_num, by simp, by have := HO.out; simp; omega, by have h5 := HOW.out; simpa using h5, HX.out.2.2, HE2.out, HJ.out, HX.out.1.1, HX.out.1.2, HX.out.2.1⟩, by simp [intOf]; omega⟩
      · have HJ := Lib.hid (show pickL l or_ = lO ++ pickL l (or_.drop (k + 1)) by rw [HI.out, HD.out, if_neg (by have := HL.out; omega)])
        go_wp2_with fail
        refine (within_any _ _ _ _).mono ?_
        rintro e w' ⟨rfl, rfl⟩
        have hw : inB v 0 ((n : Int) - 1) = false := by unfold inB; simp; omega
        rw [hw]
        go_wp2
        exact ⟨⟨k + 1, P, cp, css, lO, by omega, by go_num, rfl, by have := HO.out; omega, own1, hP, hE, HJ.out, BO, hB, hgz⟩, by simp [intOf]; omega⟩
    · have hkn : k = n2 := by omega
      subst hkn
      have hpe : pickL l or_ = lO := by rw [HI.out, List.drop_eq_nil_of_le (by have := HL2.out; omega), pickL, List.append_nil]
      have HPE := Lib.hid hpe; clear hpe
      have hRO : RowR cmR 8 wr P lO.length cp lO := RowR.of_els cmK (by omega) own1 rfl (hE.keep cmK hB)
      have hbO : ∀ m ∈ lO, cmB m := fun m hm => hb m (pick_mem (o := or_) m (by rw [HPE.out]; exact hm))
      have hlO2 : lO.length ≤ 1048576 := by omega
      have hpl := staPlay_impl lO P lO.length cp wr hRO hlO2 hbO
      clear hlO
      go_wp2_with fail
      refine hpl.mono ?_
      intro e w5 hout
      obtain ⟨B1, m1, d1, B2, m2, d2, f1, f2, Z, rfl, R1, R2, N, F, hb5⟩ := hout.out
      unfold staV
      clear hpl hout own1 hE hRO
      have BO5 := BO.keep hb5
      have hB5 := bthen hB hb5
      rw [HG.out] at hB5
      have hz5 := hb5.size
      have o0 := BO5.cell 0 _ rfl; have o1 := BO5.cell 1 _ rfl; have of := BO5.fz 0 (by simp); have og := BO5.fz 1 (by simp); have l5 := BO5.lt
      have hFF : ∀ b ∈ f1 ++ f2, g < b := fun b hb => by have h5 := F b hb; omega
      have hBx := BO5.setCells (vs := [.slice B1 m1 d1, .slice B2 m2 d2]) rfl
      have ala := (Below.refl (w5.setCells g 0 [.slice B1 m1 d1, .slice B2 m2 d2]).heap.size (w5.setCells g 0 [.slice B1 m1 d1, .slice B2 m2 d2])).alloc (Nat.le_refl _) (.cells #[.slice B1 m1 d1, .slice B2 m2 d2] 30)
      have hWr := (hBx.keep ala).range
      have HWR := Lib.hid hWr; have HAL := Lib.hid ala; clear hWr ala hBx
      go_wp2
      refine bodyPost_ret (results_one Tryz.results9 rfl HWR.out Tryz.underlying30 rfl sizeState0) rfl ?_
      unfold runL
      rw [HPE.out]
      exact run_out R1 R2 N hFF hB5 HG.out l5 HAL.out
set_option maxRecDepth 8000 in
set_option maxHeartbeats 8000000 in
theorem runIn_spec (l : List Cm) (or_ : List Int) (A : Option Addr) (n c : Nat) (A2 : Option Addr) (n2 c2 : Nat) (w : World) (h : RowR cmR 8 w A n c l) (h2 : IntsAt w A2 n2 or_) (hn : n ≤ 1048576) (hn2 : n2 ≤ 1048576) (hb : ∀ m ∈ l, cmB m) :
    Calls Tryz.prog 6 #[.slice A n c, .slice A2 n2 c2] w (RunOut (runL l or_) w) := by
  have HL := Lib.hid h.len
  have HL2 := Lib.hid h2.1
  have al1 := (Below.refl w.heap.size w).alloc (Nat.le_refl _) (.cells #[.slice none 0 0, .slice none 0 0] 30)
  have al2 := al1.alloc al1.size (.cells #[] 48)
  have hz1 : (w.alloc (.cells #[.slice none 0 0, .slice none 0 0] 30)).heap.size = w.heap.size + 1 := Array.size_push _
  have BO := (BoxL.new w [.slice none 0 0, .slice none 0 0] 30).keep ((Below.refl _ _).alloc (Nat.le_refl _) (.cells #[] 48))
  have own0 := own_empty (w.alloc (.cells #[.slice none 0 0, .slice none 0 0] 30)) 48 8 (base := 0) (Nat.zero_le _)
  go_enter Tryz.func6, Tryz.ntmps6
  go_wp2_with fail
  obtain ⟨W, hWW⟩ : ∃ W, W = (w.alloc (.cells #[.slice none 0 0, .slice none 0 0] 30)).alloc (.cells #[] 48) := ⟨_, rfl⟩
  obtain ⟨g, hg⟩ : ∃ g, w.heap.size = g := ⟨_, rfl⟩
  rw [hz1] at own0
  have HG := Lib.hid hg
  rw [← hWW] at al2 BO own0 ⊢
  simp only [hg] at BO own0 ⊢
  clear hWW hg al1 hz1
  have hgl := BO.lt
  go_loopw [5, 6] (fun s i wr => ∃ (k : Nat) (P : Option Addr) (cp : Nat) (css : List (List Value)) (lO : List Cm), k ≤ n2 ∧ i = .int .i64 k ∧ s = .slice P lO.length cp ∧ lO.length ≤ k ∧ wr.ownsRow 0 48 8 (.slice P lO.length cp) lO.length css.flatten ∧ (∀ x ∈ blkL P, g + 1 ≤ x) ∧
      ElsR cmR w css lO ∧ pickL l or_ = lO ++ pickL l (or_.drop k) ∧ BoxL wr g [.slice none 0 0, .slice none 0 0] ∧ Below w.heap.size w wr ∧ g + 1 ≤ wr.heap.size) (fun _ i _ => n2 - (intOf i).toNat)
  case atStart => exact ⟨0, _, _, [], [], Nat.zero_le _, rfl, rfl, Nat.le_refl _, own0, (fun x hx => by have h2 : x = g + 1 := (by simpa [blkL] using hx); omega), ElsR.nil, rfl, BO, al2, by omega⟩
  case round =>
    clear BO own0 al2
    obtain ⟨k, P, cp, css, lO, hk, rfl, rfl, hlO, own1, hP, hE, hpk, BO, hB, hgz⟩ := hrel
    have HI := Lib.hid hpk; clear hpk
    have HO := Lib.hid hlO
    have lg := BO.lt
    by_cases hlt : k < n2
    · have hki : (k : Int) < (n2 : Int) := by omega
      obtain ⟨ob, oo, rfl, hobl, hc2⟩ := (h2.keep hB).2 (by omega)
      have oc : wr.cell? ⟨ob, oo + k, none⟩ = some (.int .i64 (iAt or_ k)) := hc2 k hlt
      have HD := Lib.hid (pick_drop l (o := or_) (k := k) (by have := HL2.out; omega))
      have hlO3 : lO.length ≤ 1048576 := by omega
      obtain ⟨v, hv⟩ : ∃ v, iAt or_ k = v := ⟨_, rfl⟩
      rw [hv] at oc HD
      clear hv hc2 hlO
      by_cases hin : 0 ≤ v ∧ v < (n : Int)
      · obtain ⟨j, rfl⟩ : ∃ j : Nat, v = (j : Int) := ⟨v.toNat, by omega⟩
        have hjn : j < n := by omega
        have hji : (j : Int) < (n : Int) := by omega
        have hR := h.keep cmK hB
        obtain ⟨b, off, rfl⟩ := hR.head (by omega)
        obtain ⟨bl, m, C1, q1, e1, hm, hmc, hcr⟩ := cm_el hR hjn
        obtain ⟨_, m', C1', q1', e1', hm', hmc', hcr'⟩ := cm_el h hjn
        obtain rfl : m = m' := Option.some.inj (hm.symm.trans hm')
        have hq := hcr 7 _ rfl
        have hq' := (hB.cell (p := ⟨b, off + j * 8 + 7, none⟩) (cell_lt (hcr' 7 _ rfl))).trans (hcr' 7 _ rfl)
        have hqe := Option.some.inj (hq.symm.trans hq')
        injection hqe with e7 e8 e9
        subst e7 e8 e9
        have r0 : wr.cell? ⟨b, off + j * 8, none⟩ = some (.int .i64 m.kd) := hcr 0 _ rfl
        have r1 : wr.cell? ⟨b, off + j * 8 + 1, none⟩ = some (.int .i64 m.cl) := hcr 1 _ rfl
        have r2 : wr.cell? ⟨b, off + j * 8 + 2, none⟩ = some (.int .i64 m.no) := hcr 2 _ rfl
        have r3 : wr.cell? ⟨b, off + j * 8 + 3, none⟩ = some (.string m.s) := hcr 3 _ rfl
        have r4 : wr.cell? ⟨b, off + j * 8 + 4, none⟩ = some (.string m.nm) := hcr 4 _ rfl
        have r5 : wr.cell? ⟨b, off + j * 8 + 5, none⟩ = some (.string m.tg) := hcr 5 _ rfl
        have r6 : wr.cell? ⟨b, off + j * 8 + 6, none⟩ = some (.int .i64 m.n) := hcr 6 _ rfl
        have r7 : wr.cell? ⟨b, off + j * 8 + 7, none⟩ = some (.slice C1 q1 e1) := hq
        have HE2 := Lib.hid (cm_els hE hmc')
        have HJ := Lib.hid (show pickL l or_ = (lO ++ [m]) ++ pickL l (or_.drop (k + 1)) by
          rw [HI.out, HD.out, if_pos (by have := HL.out; omega), Int.toNat_natCast, show cmAt l j = m by unfold cmAt; simp [hm]]; simp)
        clear hm hm' hmc hmc' hcr hcr' hq hq' hE hR
        have gd0 : decide ((j : Int) ≥ 0) = true := decide_eq_true (by omega)
        have gd1 : decide ((j : Int) < (n : Int)) = true := decide_eq_true hji
        go_wp2_with (first | (at_builtin; refine wpList_app1g (P := Tryz.prog) _ rfl (.tmp 30) (.tmp 38) 32 rfl 0 48 _ 8 104 Tryz.underlying32 infoCmd rfl (by omega) (.slice P lO.length cp) _ _ rfl own1 _ _ rfl (by simp) rfl (by simp [Value.oneCell']) (by unfold maxLen; omega) (by omega) (Nat.zero_le _) ?_; intro P3 cp3 w3 own3 hg3 hb3 hob3; refine stop_of ?_) | fail)
        unfold Stop
        have C3 : Ch (fun t => g + 1 ≤ t) wr w3 := (Ch.of_grow hg3).mono (fun t ht => hP t (mem_blkL.2 (blk_of ht)))
        have hP3 := blk_new hob3 hP (by omega)
        have hB3 : Below w.heap.size w w3 := C3.belowB hB hB.size (fun t ht => by have ht : g + 1 ≤ t := ht; have := HG.out; omega)
        have BO3 := BO.ch C3 (by omega)
        have hgz3 := Nat.le_trans hgz C3.size
        have HX := Lib.hid (And.intro (And.intro BO3 hB3) (And.intro hgz3 hP3)); have HOW := Lib.hid own3; clear BO3 hB3 hgz3 hP3 own3 C3 hg3 hb3 hob3 r0 r1 r2 r3 r4 r5 r6 r7 oc
        go_wp2
        exact ⟨⟨k + 1, P3, cp3, _, (lO ++ [m]), by omega, by go_num, by simp, by have := HO.out; simp; omega, by have h5 := HOW.out; simpa using h5, HX.out.2.2, HE2.out, HJ.out, HX.out.1.1, HX.out.1.2, HX.out.2.1⟩, by simp [intOf]; omega⟩
      · have HJ := Lib.hid (show pickL l or_ = lO ++ pickL l (or_.drop (k + 1)) by rw [HI.out, HD.out, if_neg (by have := HL.out; omega)])
        by_cases h0 : 0 ≤ v
        · have gd0 : decide (v ≥ 0) = true := decide_eq_true h0
          have gd1 : decide (v < (n : Int)) = false := decide_eq_false (fun h => hin ⟨h0, h⟩)
          have hvn : ¬ v < (n : Int) := fun h => hin ⟨h0, h⟩
          clear hin
          go_wp2
          exact ⟨⟨k + 1, P, cp, css, lO, by omega, by go_num, rfl, by have := HO.out; omega, own1, hP, hE, HJ.out, BO, hB, hgz⟩, by simp [intOf]; omega⟩
        · have gd0 : decide (v ≥ 0) = false := decide_eq_false h0
          clear hin
          go_wp2
          exact ⟨⟨k + 1, P, cp, css, lO, by omega, by go_num, rfl, by have := HO.out; omega, own1, hP, hE, HJ.out, BO, hB, hgz⟩, by simp [intOf]; omega⟩
    · have hkn : k = n2 := by omega
      subst hkn
      have hpe : pickL l or_ = lO := by rw [HI.out, List.drop_eq_nil_of_le (by have := HL2.out; omega), pickL, List.append_nil]
      have HPE := Lib.hid hpe; clear hpe
      have hRO : RowR cmR 8 wr P lO.length cp lO := RowR.of_els cmK (by omega) own1 rfl (hE.keep cmK hB)
      have hbO : ∀ m ∈ lO, cmB m := fun m hm => hb m (pick_mem (o := or_) m (by rw [HPE.out]; exact hm))
      have hlO2 : lO.length ≤ 1048576 := by omega
      have hpl := staPlay_spec lO P lO.length cp wr hRO hlO2 hbO
      clear hlO
      go_wp2_with fail
      refine hpl.mono ?_
      intro e w5 hout
      obtain ⟨B1, m1, d1, B2, m2, d2, f1, f2, Z, rfl, R1, R2, N, F, hb5⟩ := hout.out
      unfold staV
      clear hpl hout own1 hE hRO
      have BO5 := BO.keep hb5
      have hB5 := bthen hB hb5
      rw [HG.out] at hB5
      have hz5 := hb5.size
      have o0 := BO5.cell 0 _ rfl; have o1 := BO5.cell 1 _ rfl; have of := BO5.fz 0 (by simp); have og := BO5.fz 1 (by simp); have l5 := BO5.lt
      have hFF : ∀ b ∈ f1 ++ f2, g < b := fun b hb => by have h5 := F b hb; omega
      have hBx := BO5.setCells (vs := [.slice B1 m1 d1, .slice B2 m2 d2]) rfl
      have ala := (Below.refl (w5.setCells g 0 [.slice B1 m1 d1, .slice B2 m2 d2]).heap.size (w5.setCells g 0 [.slice B1 m1 d1, .slice B2 m2 d2])).alloc (Nat.le_refl _) (.cells #[.slice B1 m1 d1, .slice B2 m2 d2] 30)
      have hWr := (hBx.keep ala).range
      have HWR := Lib.hid hWr; have HAL := Lib.hid ala; clear hWr ala hBx
      go_wp2
      refine bodyPost_ret (results_one Tryz.results6 rfl HWR.out Tryz.underlying30 rfl sizeState0) rfl ?_
      unfold runL
      rw [HPE.out]
      exact run_out R1 R2 N hFF hB5 HG.out l5 HAL.out
end Go.Proofs.YtdphdnllhmnelaaGreat
