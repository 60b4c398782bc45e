/- Contract of the program's TreeRead. -/
import Derived.Test.YtbijkdpifnncmaaReadJ
import Derived.Test.YtbijkdpifnncmaaCopyEnts
namespace Go.Proofs.Ytbijkdpifnncmaa
open Go.RowKit
attribute [local irreducible] StrsAt EntsAt textF manyF cutF numF treeOkB treeText restL

/-- an entry under way in block h: its path, its chunks -/
structure EBox (w : World) (h : Nat) (p : ByteArray) (v : Value) : Prop where
  c0 : w.cell? ⟨h, 0, none⟩ = some (.string p)
  c1 : w.cell? ⟨h, 1, none⟩ = some v
  f1 : w.frozen? ⟨h, 1, none⟩ = false
theorem EBox.lt {w : World} {h : Nat} {p : ByteArray} {v : Value} (k : EBox w h p v) : h < w.heap.size := by
  have := World.block_lt_of_cell? w ⟨h, 0, none⟩ k.c0; simpa using this
theorem EBox.ch {S : Nat → Prop} {w w' : World} {h : Nat} {p : ByteArray} {v : Value} (k : EBox w h p v) (hc : Ch S w w') (hS : ¬ S h) : EBox w' h p v :=
  ⟨hc.cell k.c0 hS, hc.cell k.c1 hS, (World.frozen?_of_block (hc.block h k.lt hS)).trans k.f1⟩
theorem EBox.keep {w w' : World} {h : Nat} {p : ByteArray} {v : Value} (k : EBox w h p v) (hb : Below w.heap.size w w') : EBox w' h p v := k.ch (S := fun _ => False) (Ch.of_below hb) (fun h => h)
theorem EBox.set1 {w : World} {h : Nat} {p : ByteArray} {v u : Value} (k : EBox w h p v) : EBox (w.setCell ⟨h, 1, none⟩ u) h p u :=
  ⟨setoff k.c0 (.inr (by omega)), sethere k.c1, (World.frozen?_setCell _ _ _ _).trans k.f1⟩
theorem EBox.below {B : Nat} {w w' : World} {h : Nat} {p : ByteArray} {v : Value} (k : EBox w h p v) (hb : Below B w w') (hB : h < B) : EBox w' h p v :=
  ⟨(hb.cell (p := ⟨h, 0, none⟩) hB).trans k.c0, (hb.cell (p := ⟨h, 1, none⟩) hB).trans k.c1, (hb.frozen (p := ⟨h, 1, none⟩) hB).trans k.f1⟩
theorem Scn.below {B : Nat} {w w' : World} {g : Nat} {x : Sc} (k : Scn w g x) (hb : Below B w w') (hB : g < B) : Scn w' g x :=
  ⟨(hb.cell (p := ⟨g, 0, none⟩) hB).trans k.c0, (hb.cell (p := ⟨g, 1, none⟩) hB).trans k.c1, (hb.frozen (p := ⟨g, 0, none⟩) hB).trans k.f0, (hb.frozen (p := ⟨g, 1, none⟩) hB).trans k.f1, k.sz⟩
theorem ch_thenB {S : Nat → Prop} {w W W' : World} (h : Ch S w W) (hb : Below w.heap.size W W') : Ch S w W' :=
  ⟨hb.os.trans h.os, hb.tape.trans h.tape, hb.output.trans h.output, Nat.le_trans h.size hb.size, fun k hk hn => (hb.block k hk).trans (h.block k hk hn)⟩
def lenOf : Value → Nat
  | .slice _ n _ => n
  | _ => 0

set_option maxRecDepth 4000 in
set_option maxHeartbeats 1000000 in
theorem treeRead_impl (s : ByteArray) (w : World) (hs : s.size ≤ 1048576) :
    Calls Try.prog 8 #[.string s] w fun e w' => (∃ A n c, e = .returned (.tuple #[.slice A n c, .bool (trB s)]) ∧ EntsIn w.heap.size w'.heap.size w' A n c (trL s)) ∧ Below w.heap.size w w' := by
  go_enter Try.func8, Try.ntmps8
  go_wp2
  go_loopw [5] (fun o wr => ∃ (l : List Ent) (x : Sc) (O : Option Addr) (cap : Nat) (css : List (List Value)), o = .slice O l.length cap ∧ RowsIn FEnt 33 2 (w.heap.size + 1) wr.heap.size wr O l.length cap l css ∧ Scn wr w.heap.size x ∧ JR s l x ∧ entsSz l + x.1.size ≤ s.size + 5 * l.length ∧ l.length ≤ 13 ∧ Below w.heap.size w wr) (fun o _ => 13 - lenOf o)
  case atStart =>
    have al := (Below.refl w.heap.size w).alloc (Nat.le_refl _) (.cells #[.string s, .bool false] 53)
    refine ⟨[], (s, false), some ⟨w.heap.size + 1, 0, none⟩, 0, [], by simp, ⟨?_, SubsIn.nil, (fun _ h => by cases h), rfl⟩, ⟨by simp [go_sem], by simp [go_sem], by simp [go_sem], by simp [go_sem], by simp only; omega⟩, JR_start s, by simp [entsSz], by simp, by go_grown⟩
    have := own_empty (w.alloc (.cells #[.string s, .bool false] 53)) 33 2 (base := w.heap.size + 1) (by simp)
    simpa using RowIn.of_own this
  case round =>
    obtain ⟨l, ⟨t, q⟩, O, cap, css, rfl, hrow, hscn, hj, hcost, hlen, hb⟩ := hrel
    have HJ := Lib.hid hj; clear hj
    have k0 := hscn.c0
    have k1 := hscn.c1
    have hte : t.toList.isEmpty = decide (t = ByteArray.empty) := by
      have h0 : ByteArray.empty.toList = [] := by rw [Lib.toList_data]; rfl
      by_cases h : t = ByteArray.empty
      · rw [decide_eq_true h, h, h0]; rfl
      · rw [decide_eq_false h]
        cases hl : t.toList with
        | nil => exact absurd (by apply str_ext; rw [hl, h0]) h
        | cons a b => rfl
    simp only at hcost
    by_cases hstop : t = ByteArray.empty ∨ q = true ∨ 12 < l.length
    · have HE := Lib.hid (JR_end HJ.out hstop)
      have hat := (EntsIn.mk ⟨css, hrow⟩ : EntsIn _ _ _ _ _ _ _).at_
      have hes : entsSz l ≤ 1048704 := by omega
      have hgo : (q = true ∧ (t.toList.isEmpty = true ∨ t.toList.isEmpty = false)) ∨ (q = false ∧ (t.toList.isEmpty = true ∨ (t.toList.isEmpty = false ∧ ¬ (l.length : Int) ≤ 12))) := by
        by_cases h : t = ByteArray.empty
        · rw [hte, decide_eq_true h]; cases q <;> simp
        · rw [hte, decide_eq_false h]
          rcases hstop with h' | h' | h'
          · exact absurd h' h
          · exact .inl ⟨h', .inr rfl⟩
          · cases q
            · exact .inr ⟨rfl, .inr ⟨rfl, by omega⟩⟩
            · exact .inl ⟨rfl, .inr rfl⟩
      clear hstop hte
      by_cases hq : q = false ∧ treeOkB l = true ∧ treeText l = s
      · obtain ⟨rfl, hok, htx⟩ := hq
        have HY := Lib.hid (tr_yes hok htx (fun l0 h1 h2 => (HE.out l0 h1 h2).1))
        have g1 : ((treeText l).toList == s.toList) = true := by rw [htx]; simp
        have HK := Lib.hid hok; clear hok
        clear htx
        rcases hgo with ⟨h, _⟩ | ⟨_, he | ⟨he, h12⟩⟩
        · cases h
        all_goals
          go_wp2_with (first | (go_at_call 27; refine (treeOk_impl2 _ _ _ _ _ hat hes).mono ?_; rintro e w1 ⟨rfl, hb1⟩; rw [HK.out]) | (go_at_call 7; refine (treeText_impl2 _ _ _ _ _ (hat.keep hb1) hes).mono ?_; rintro e w2 ⟨rfl, hb2⟩))
          go_returns
          have hb3 := hb1.trans (hb2.mono hb1.size)
          rw [HY.out.1, HY.out.2]
          exact ⟨⟨O, _, cap, rfl, ⟨css, (hrow.keep elemEnt hb3).wide elemEnt (by omega) hb3.size⟩⟩, bthen hb hb3⟩
      · have HY := Lib.hid (tr_no (s := s) (fun l0 h1 h2 => hq (by have h3 := HE.out l0 h1 h2; exact ⟨h3.2, h3.1 ▸ h1, h3.1 ▸ h2⟩)))
        have hq2 : q = true ∨ (q = false ∧ (treeOkB l = false ∨ (treeOkB l = true ∧ ((treeText l).toList == s.toList) = false))) := by
          cases q
          · refine .inr ⟨rfl, ?_⟩
            cases hk : treeOkB l
            · exact .inl rfl
            · refine .inr ⟨rfl, ?_⟩
              rw [str_beq]
              simpa using fun h => hq ⟨rfl, hk, h⟩
          · exact .inl rfl
        clear hq
        rcases hgo with ⟨rfl, he | he⟩ | ⟨rfl, he | ⟨he, h12⟩⟩
        · clear hq2
          go_wp2
          go_returns
          rw [HY.out.1, HY.out.2]
          exact ⟨⟨none, 0, 0, rfl, EntsIn.nil⟩, hb⟩
        · clear hq2
          go_wp2
          go_returns
          rw [HY.out.1, HY.out.2]
          exact ⟨⟨none, 0, 0, rfl, EntsIn.nil⟩, hb⟩
        all_goals
          rcases hq2 with h | ⟨_, hok | ⟨hok, g1⟩⟩
          · cases h
          · have HK := Lib.hid hok; clear hok
            go_wp2_with (go_at_call 27; refine (treeOk_impl2 _ _ _ _ _ hat hes).mono ?_; rintro e w1 ⟨rfl, hb1⟩; rw [HK.out])
            go_returns
            rw [HY.out.1, HY.out.2]
            exact ⟨⟨none, 0, 0, rfl, EntsIn.nil⟩, bthen hb hb1⟩
          · have HK := Lib.hid hok; clear hok
            go_wp2_with (first | (go_at_call 27; refine (treeOk_impl2 _ _ _ _ _ hat hes).mono ?_; rintro e w1 ⟨rfl, hb1⟩; rw [HK.out]) | (go_at_call 7; refine (treeText_impl2 _ _ _ _ _ (hat.keep hb1) hes).mono ?_; rintro e w2 ⟨rfl, hb2⟩))
            go_returns
            rw [HY.out.1, HY.out.2]
            exact ⟨⟨none, 0, 0, rfl, EntsIn.nil⟩, bthen hb (hb1.trans (hb2.mono hb1.size))⟩
    · have ht : t ≠ ByteArray.empty := fun h => hstop (.inl h)
      have hq : q = false := by cases hq : q with | false => rfl | true => exact absurd (.inr (.inl hq)) hstop
      have hl12 : (l.length : Int) ≤ 12 := by have := fun h => hstop (.inr (.inr h)); omega
      subst hq
      rw [decide_eq_false ht] at hte
      clear hstop
      have hj2 := JR_step HJ.out ht (by simp only; omega)
      have htc := textF_cost (t, false)
      have hmc := manyF_le (textF (t, false)).2 4
      simp only at htc
      have HJ2 := Lib.hid hj2; clear hj2
      have hzr := hb.size
      have hgr := hscn.lt
      go_wp2_with fail
      refine (text_impl _ _ _ hscn).mono ?_
      rintro e w1 ⟨rfl, hs1, hc1⟩
      have hz1 := hc1.size
      generalize hx1 : textF (t, false) = x1 at *
      obtain ⟨p, x1⟩ := x1
      have HX1 := Lib.hid hx1; clear hx1
      go_wp2_with fail
      obtain ⟨W, hW⟩ : ∃ W, W = w1.alloc (.cells #[.string p, .slice none 0 0] 33) := ⟨_, rfl⟩
      have al : Below w1.heap.size w1 W := by rw [hW]; exact (Below.refl _ _).alloc (Nat.le_refl _) _
      have hzW : W.heap.size = w1.heap.size + 1 := by rw [hW]; simp
      have hbx : EBox W w1.heap.size p (.slice none 0 0) := by rw [hW]; exact ⟨by simp [go_sem], by simp [go_sem], by simp [go_sem]⟩
      rw [← hW]
      clear hW
      generalize hh : w1.heap.size = h at *
      refine (many_impl _ 4 _ _ (hs1.keep (by rw [hh]; exact al)) (by omega)).mono ?_
      rintro e w2 ⟨rfl, hs2, hc2⟩
      have hz2 := hc2.size
      generalize manyF x1 4 = x2 at *
      obtain ⟨n, x2⟩ := x2
      simp only at hmc hs2 HJ2 htc
      have hn4 : (n : Int) ≤ 4 := by omega
      have hbx2 := hbx.ch hc2 (by omega)
      have hrow2 := ((((hrow.ch elemEnt hc1 (fun k hk => by unfold Iv at hk; omega)).keep elemEnt (by rw [hh]; exact al)).ch elemEnt hc2 (fun k hk => by unfold Iv at hk; omega)).wide elemEnt (Nat.le_refl _) hz1)
      have hb2 : Below w.heap.size w w2 := ((hb.trans (hc1.below (fun k hk => by omega) hzr)).trans (al.mono (by omega))).trans (hc2.below (fun k hk => by omega) (by omega))
      clear hc2 al hc1 hs1 hbx hscn hrow hb k0 k1
      have hz2' : h + 1 ≤ w2.heap.size := by omega
      have hwh : w.heap.size < h := by omega
      go_wp2
      go_loopw [36] (fun i w3 => ∃ (cs : List ByteArray) (x : Sc) (C : Option Addr) (cap : Nat), i = .int .i64 (cs.length : Nat) ∧ cs.length ≤ n ∧ EBox w3 h p (.slice C cs.length cap) ∧ StrsIn w2.heap.size w3.heap.size w3 C cs.length cap cs ∧ Scn w3 w.heap.size x ∧ JI s l p n cs x ∧ strsSz cs + x.1.size ≤ x2.1.size + cs.length ∧ Ch (fun k => k = w.heap.size ∨ k = h) w2 w3) (fun i _ => n - (intOf i).toNat)
      case atStart => exact ⟨[], x2, none, 0, by simp, Nat.zero_le _, hbx2, StrsIn.nil, hs2, HJ2.out, by simp [strsSz], Ch.refl _⟩
      case round =>
        obtain ⟨cs, x, C, cp, rfl, hcl, hbx3, hst, hs3, hji, hco, hch⟩ := hrel
        have HJI := Lib.hid hji; clear hji
        have hg3 := hs3.lt
        have hz3 := hch.size
        by_cases hlt : cs.length < n
        · have hli : (cs.length : Int) < (n : Int) := by omega
          have hj4 := JI_step HJI.out hlt
          have hcc := cutF_cost x 8
          go_wp2_with fail
          refine (cut_impl _ 8 _ _ hs3 (by omega)).mono ?_
          rintro e w4 ⟨rfl, hs4, hc4⟩
          have hz4 := hc4.size
          generalize cutF x 8 = x4 at *
          obtain ⟨c, x4⟩ := x4
          simp only at hcc hs4 hj4
          have HJ4 := Lib.hid hj4; clear hj4
          have hbx4 := hbx3.ch hc4 (by omega)
          have e1 := hbx4.c1
          have hst4 := hst.ch hc4 (fun k hk => by unfold Iv at hk; omega)
          have hown4 := hst4.row.own
          go_wp2_with (at_builtin; refine wpList_app1g (P := Try.prog) w4 rfl (.tmp 41) (.tmp 43) 31 rfl w2.heap.size 9 _ 1 16 Try.underlying31 infoString rfl (by omega) (.slice C _ cp) _ _ rfl hown4 #[.string c] _ rfl (by simp) rfl (by simp [Value.oneCell']) (by unfold maxLen; omega) (by omega) (Nat.le_trans hz3 hz4) ?_; intro A' c' w5 hown5 hg5 hb5 _; have hbx5 := hbx4.below hb5 (by omega); have e51 := hbx5.c1; have f51 := hbx5.f1; have hs5 := hs4.below hb5 (by omega))
          have hz5 := hb5.size
          refine ⟨⟨cs ++ [c], x4, A', c', by simp, by rw [List.length_append]; simp; omega, ?_, ?_, hs5.ch (scn_one (g := h)) (by omega), HJ4.out, ?_, ?_⟩, by simp [intOf]; omega⟩
          · rw [List.length_append]; exact hbx5.set1
          · rw [List.length_append]
            have h6 : StrsIn w2.heap.size w5.heap.size w5 A' (cs.length + 1) c' (cs ++ [c]) := StrsIn.of_own (by rw [List.map_append]; exact hown5)
            simpa using h6.ch (scn_one (g := h) (o := 1) (v := .slice A' (cs.length + 1) c')) (fun k hk => by unfold Iv at hk; omega)
          · rw [strsSz_snoc, List.length_append]; simp only [List.length_cons, List.length_nil]; omega
          · exact (ch_thenB (hch.trans (hc4.mono (fun k hk => .inl hk))) hb5).setCell (p := ⟨h, 1, none⟩) (.inr rfl) _
        · have hni : ¬ (cs.length : Int) < (n : Int) := by omega
          have hne : n = cs.length := by omega
          subst hne
          have hjr := JI_end HJI.out rfl
          have HJR := Lib.hid hjr; clear hjr
          have hrow3 := (hrow2.ch elemEnt hch (fun k hk => by unfold Iv at hk; omega)).wide elemEnt (Nat.le_refl _) (show h ≤ wr.heap.size by omega)
          have hown3 := hrow3.row.own
          have e0 := hbx3.c0
          have e1 := hbx3.c1
          have hlo : ∀ b, BlkOf O b → b < h := fun b hb' => by have := (hrow2.row.blk hb').1; unfold Iv at this; omega
          go_wp2_with (at_builtin; refine wpList_app1g (P := Try.prog) wr rfl (.tmp 47) (.tmp 49) 24 rfl (w.heap.size + 1) 33 _ 2 40 Try.underlying24 infoEntry rfl (by omega) (.slice O l.length cap) _ _ rfl hown3 #[.string p, .slice C cs.length cp] _ rfl (by simp) rfl (by simp [Value.oneCell']) (by unfold maxLen; omega) (by omega) (Nat.le_of_lt (Nat.lt_of_lt_of_le (Nat.succ_lt_succ hwh) (Nat.le_trans hz2' hz3))) ?_; intro A' c' w5 hown5 hg5 hb5 hob5)
          have happ := hrow3.app elemEnt (cs := [.string p, .slice C cs.length cp]) (x := ⟨p, cs⟩) ⟨C, cs.length, cp, rfl, hst.wide (by omega) (Nat.le_refl _)⟩ (fun cs' h' b h1 h2 => by
            have q1 := (hrow2.subs.leads elemEnt h' h1).1
            have q2 := (hst.row.blk (blk_of (leads2 h2))).1
            unfold Iv at q1 q2; omega) (fun b h1 h2 => by
            have q1 := hlo b h2
            have q2 := (hst.row.blk (blk_of (leads2 h1))).1
            unfold Iv at q2; omega) hown5 hg5 hob5 (Nat.le_succ _)
          refine ⟨⟨l ++ [⟨p, cs⟩], x, A', c', css ++ [[.string p, .slice C cs.length cp]], by simp, by rw [List.length_append]; exact happ, hs3.below hb5 (by omega), HJR.out, ?_, by rw [List.length_append]; simp only [List.length_cons, List.length_nil]; omega, ?_⟩, by simp only [lenOf]; omega⟩
          · rw [entsSz_snoc, List.length_append]
            have e2 : entSz ⟨p, cs⟩ = p.size + strsSz cs := rfl
            rw [e2]
            simp only [List.length_cons, List.length_nil]
            omega
          · exact (hb2.trans (hch.below (fun k hk => by omega) (by omega))).trans (hb5.mono (by omega))
theorem treeRead_impl1 (s : ByteArray) (w : World) (hs : s.size ≤ 1048576) :
    Calls Try.prog 8 #[.string s] w fun e w' => ∃ A n c, e = .returned (.tuple #[.slice A n c, .bool (trB s)]) ∧ EntsIn w.heap.size w'.heap.size w' A n c (trL s) ∧ Below w.heap.size w w' :=
  (treeRead_impl s w hs).mono fun _ _ ⟨⟨A, n, c, h1, h2⟩, h3⟩ => ⟨A, n, c, h1, h2, h3⟩
end Go.Proofs.Ytbijkdpifnncmaa
