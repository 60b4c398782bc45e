/- The law FnExactTreePut holds: for every list of entries and every entry the program's TreePut answers what the reference's answers, in memory of its own. Conditions: none. (The walk is printed by putlaw.py.) -/
import Derived.Test.YtmichbgiaoopgaaTreePutS
import Derived.Test.YtmichbgiaoopgaaEntRow
import Derived.Deep.RegionHeld3
namespace Go.Proofs.Ytmichbgiaoopgaa
open Go.ChangeShapes Go.WideShapes Go.ChangeAt Go.RowKit Go.Joins

section
attribute [local irreducible] StrsAt
theorem entry_mark (p : ByteArray) (A : Option Addr) (n c : Nat) (ch : List ByteArray) (k : Int) (lo hi : Nat) (w : World) (h : StrsIn lo hi w A n c ch) (hs : strsSz ch ≤ 16777216) (hk0 : 0 < k) (hk1 : k ≤ 576460752303423488) :
    Calls Try.prog 27 #[.agg #[.string p, .slice A n c], .int .i64 k] w fun e w' => e = .returned (.int .i64 (k + (strsCnt ch : Nat))) ∧ StrsIn lo hi w' A n c (strsMk k ch) ∧ Ch (Iv lo hi) w w' := by
  have al := (Below.refl w.heap.size w).alloc (Nat.le_refl _) (.cells #[.string p, .slice A n c] 41)
  go_enter Try.func27, Try.ntmps27
  go_wp2_with fail
  refine (strs_mark _ _ _ ch _ lo hi _ (h.keep al) hs hk0 hk1).mono ?_
  rintro e w1 ⟨rfl, h1, hc1⟩
  go_wp2
  go_returns
  exact ⟨rfl, h1, (Ch.of_below al).trans hc1⟩
end
section
open Go.Deep
variable {H : Type} {enc : TypeId × Value → H} {w : World} {base : Nat} {spare : Nat → Bool} {held : Bool}
set_option maxRecDepth 8000 in
theorem open_entry {r : Reach} {b0 : Nat} {v : Value} {d : DataW H} {p : List MemPlace}
    (hv : Value.okWide Try.prog w r b0 38 v) (h : DataW.Trod enc Try.prog w base spare held 38 v d p) :
    ∃ (s : ByteArray) (A : Option Addr) (n c : Nat) (l : List ByteArray), v = .agg #[.string s, .slice A n c] ∧ s.size ≤ 9223372036854775807 ∧ StrsOk w A n l := by
  have hop := open_agg2 Try.underlying38 (by kernel_rfl) cellsEntryL hv h
  obtain ⟨v0, v1, y0, y1, m, rfl, _, _, hy0, hy1⟩ := hop
  obtain ⟨x, e3, wx⟩ := trod_str1 Try.underlying9 hy0
  obtain ⟨A, n, c, l, e1, q1, q2, q3, q4⟩ := trod_strs hy1
  simp at e3 e1
  subst e3 e1
  exact ⟨x, A, n, c, l, rfl, wx, ⟨q1, q3, q4⟩⟩
end

attribute [local irreducible] EntsAt StrsAt putL putOk
set_option maxRecDepth 20000 in
set_option maxHeartbeats 2000000 in
theorem fnExactTreePut_any (A0 : Option Addr) (n0 c0 : Nat) (l : List Ent) (p : ByteArray) (A1 : Option Addr) (n1 c1 : Nat) (ch : List ByteArray) (w : World) (h0 : EntsOk w A0 n0 l) (hp : p.size ≤ 9223372036854775807) (h1 : StrsOk w A1 n1 ch) :
    Calls Try.prog 6 #[.slice A0 n0 c0, .agg #[.string p, .slice A1 n1 c1]] w fun e w' => e = .returned (.bool true) ∧ Below w.heap.size w w' := by
  have al := (Below.refl w.heap.size w).alloc (Nat.le_refl _) (.cells #[.string p, .slice A1 n1 c1] 38)
  by_cases hsz0 : ((entsSz l : Nat) : Int) ≤ 1048576
  · have HR0 := Lib.hid (szR_yes hsz0)
    have hge0 : ¬ ((1048576 : Int) - ((entsSz l : Nat) : Int) < 0) := by omega
    by_cases hsz1 : ((entSz ⟨p, ch⟩ : Nat) : Int) ≤ 1048576 - ((entsSz l : Nat) : Int)
    · have HR1 := Lib.hid (szR_yes hsz1)
      have hge1 : ¬ ((1048576 : Int) - ((entsSz l : Nat) : Int) - ((entSz ⟨p, ch⟩ : Nat) : Int) < 0) := by omega
      have hsT : entsSz l + entSz ⟨p, ch⟩ ≤ 1048576 := by omega
      have hsn0 : entsSz l ≤ 1048576 := by omega
      have hsn1 : strsSz ch ≤ 1048576 := by unfold entSz at hsT; simp only at hsT; omega
      have hrs : entsSz (putL l ⟨p, ch⟩) ≤ 1048577 := putL_sz _ _ (by omega)
      have hcn0 := ents_cnt l
      have hcn1 : strsCnt ch ≤ strsSz ch := strs_cnt ch
      have hcr := ents_cnt (putL l ⟨p, ch⟩)
      have hgk : ¬ ((1 : Int) + (entsCnt l : Nat) + (strsCnt ch : Nat) < 0) := by omega
      go_enter Try.func6, Try.ntmps6
      go_wp2_with fail
      refine (ents_sz _ _ _ _ _ _ (h0.keep al) (by omega) (by omega)).mono ?_
      rintro e w1 ⟨rfl, hb1⟩; rw [HR0.out]
      have hB_w1 : Below w.heap.size w w1 := bthen al hb1
      have bE_0 : w1.cell? ⟨w.heap.size, 0, none⟩ = some (.string p) := keep_cell hb1 (by simp [go_sem])
      have bE_1 : w1.cell? ⟨w.heap.size, 1, none⟩ = some (.slice A1 n1 c1) := keep_cell hb1 (by simp [go_sem])
      have hz_w1 := hb1.size
      simp at hz_w1
      go_wp2_with fail
      refine (szEntry_any p _ _ _ ch _ _ (h1.keep hB_w1) hp (by omega) (by omega)).mono ?_
      rintro e w2 ⟨rfl, hb2⟩
      rw [HR1.out]
      have bE_0' := keep_cell hb2 bE_0; clear bE_0; have bE_0 := bE_0'; clear bE_0'
      have bE_1' := keep_cell hb2 bE_1; clear bE_1; have bE_1 := bE_1'; clear bE_1'
      have hB_w2 := bthen hB_w1 hb2
      have hz_w2 := hb2.size
      go_wp2
      go_region_held3 (fun w' => w'.cell? ⟨w.heap.size, 0, none⟩ = some (.string p) ∧ w'.cell? ⟨w.heap.size, 1, none⟩ = some (.slice A1 n1 c1) ∧ Below w2.heap.size w2 w') (first | (have hh := ‹_ ∧ _›; exact ⟨keep_cell hbw hh.1, keep_cell hbw hh.2.1, bthen hh.2.2 hbw⟩) | (have hh := ‹_ ∧ _›; exact ⟨hh.1, hh.2.1, hh.2.2.drew⟩) | exact ⟨bE_0, bE_1, (Below.refl _ _).drew⟩) (first | (go_at_call 13; refine (ents_to _ _ _ l _ (h0.at_.keep (by have hh := ‹_ ∧ _›; exact bthen hB_w2 hh.2.2)) hsn0).mono ?_; rintro e wa ⟨PA, Pn, Pc, rfl, P, hbw⟩) | (go_at_call 24; refine (toEntry_any p _ _ _ ch _ (h1.at_.keep (by have hh := ‹_ ∧ _›; exact bthen hB_w2 hh.2.2)) hsn1).mono ?_; rintro e wb ⟨QA, Qn, Qc, rfl, Q, hbw⟩; have P' := P.keep hbw) | (go_at_call 23; refine (treePut_spec _ _ _ l p _ _ _ ch _ P'.at_ Q.at_ (own_cap0 Q.row.own) hsT).mono ?_; rintro e wc ⟨SA, Sn, Sc, rfl, S, hbw⟩; have hzc := Nat.le_refl wb.heap.size) | fail)
      have hbr := (by have hh := ‹_ ∧ _›; exact hh.2.2 : Below w2.heap.size w2 wc)
      skip
      obtain ⟨w3, hw3⟩ : ∃ W, W = wc := ⟨_, rfl⟩
      rw [← hw3] at hbr S ⊢
      clear hw3 P Q P'
      have bE_0' := keep_cell hbr bE_0; clear bE_0; have bE_0 := bE_0'; clear bE_0'
      have bE_1' := keep_cell hbr bE_1; clear bE_1; have bE_1 := bE_1'; clear bE_1'
      have hB_w3 := bthen hB_w2 hbr
      have hz_w3 := hbr.size
      clear hbr
      go_wp2_with fail
      refine (ents_to _ _ _ l _ (h0.at_.keep hB_w3) hsn0).mono ?_
      rintro e w4 ⟨XA, Xn, Xc, rfl, X, hb4⟩
      have bE_0' := keep_cell hb4 bE_0; clear bE_0; have bE_0 := bE_0'; clear bE_0'
      have bE_1' := keep_cell hb4 bE_1; clear bE_1; have bE_1 := bE_1'; clear bE_1'
      have S' := S.keep hb4; clear S; have S := S'; clear S'
      have hB_w4 := bthen hB_w3 hb4
      have hz_w4 := hb4.size
      go_wp2_with fail
      refine (toEntry_any p _ _ _ ch _ (h1.at_.keep hB_w4) hsn1).mono ?_
      rintro e w5 ⟨YA, Yn, Yc, rfl, Y, hb5⟩
      have bE_0' := keep_cell hb5 bE_0; clear bE_0; have bE_0 := bE_0'; clear bE_0'
      have bE_1' := keep_cell hb5 bE_1; clear bE_1; have bE_1 := bE_1'; clear bE_1'
      have S' := S.keep hb5; clear S; have S := S'; clear S'
      have X' := X.keep hb5; clear X; have X := X'; clear X'
      have hB_w5 := bthen hB_w4 hb5
      have hz_w5 := hb5.size
      go_wp2_with fail
      obtain ⟨Vw5, hW⟩ : ∃ W, W = w5.alloc (.cells #[.string p, .slice YA Yn Yc] 41) := ⟨_, rfl⟩
      have bX_0 : Vw5.cell? ⟨w5.heap.size, 0, none⟩ = some (.string p) := by rw [hW]; simp [go_sem]
      have bX_1 : Vw5.cell? ⟨w5.heap.size, 1, none⟩ = some (.slice YA Yn Yc) := by rw [hW]; simp [go_sem]
      have hbA : Below w5.heap.size w5 Vw5 := by rw [hW]; exact (Below.refl _ _).alloc (Nat.le_refl _) _
      have hs_Vw5 : Vw5.heap.size = w5.heap.size + 1 := by rw [hW]; simp
      rw [← hW]
      clear hW
      have bE_0' := keep_cell hbA bE_0; clear bE_0; have bE_0 := bE_0'; clear bE_0'
      have bE_1' := keep_cell hbA bE_1; clear bE_1; have bE_1 := bE_1'; clear bE_1'
      have S' := S.keep hbA; clear S; have S := S'; clear S'
      have X' := X.keep hbA; clear X; have X := X'; clear X'
      have Y' := Y.keep hbA; clear Y; have Y := Y'; clear Y'
      have hB_Vw5 := bthen hB_w5 hbA
      have hz_Vw5 := hbA.size
      clear hbA
      go_wp2_with fail
      refine (treePut_impl _ _ _ l p _ _ _ ch _ X.at_ Y.at_ (own_cap0 Y.row.own) hsT).mono ?_
      rintro e w6 ⟨GA, Gn, Gc, rfl, G, hb6⟩
      have bE_0' := keep_cell hb6 bE_0; clear bE_0; have bE_0 := bE_0'; clear bE_0'
      have bE_1' := keep_cell hb6 bE_1; clear bE_1; have bE_1 := bE_1'; clear bE_1'
      have bX_0' := keep_cell hb6 bX_0; clear bX_0; have bX_0 := bX_0'; clear bX_0'
      have bX_1' := keep_cell hb6 bX_1; clear bX_1; have bX_1 := bX_1'; clear bX_1'
      have S' := S.keep hb6; clear S; have S := S'; clear S'
      have X' := X.keep hb6; clear X; have X := X'; clear X'
      have Y' := Y.keep hb6; clear Y; have Y := Y'; clear Y'
      have hB_w6 := bthen hB_Vw5 hb6
      have hz_w6 := hb6.size
      go_wp2_with fail
      refine (ents_eq _ _ _ _ _ _ _ _ G.at_ S.at_ (by omega)).mono ?_
      rintro e w7 ⟨rfl, hb7⟩
      have bE_0' := keep_cell hb7 bE_0; clear bE_0; have bE_0 := bE_0'; clear bE_0'
      have bE_1' := keep_cell hb7 bE_1; clear bE_1; have bE_1 := bE_1'; clear bE_1'
      have bX_0' := keep_cell hb7 bX_0; clear bX_0; have bX_0 := bX_0'; clear bX_0'
      have bX_1' := keep_cell hb7 bX_1; clear bX_1; have bX_1 := bX_1'; clear bX_1'
      have S' := S.keep hb7; clear S; have S := S'; clear S'
      have X' := X.keep hb7; clear X; have X := X'; clear X'
      have Y' := Y.keep hb7; clear Y; have Y := Y'; clear Y'
      have G' := G.keep hb7; clear G; have G := G'; clear G'
      have hB_w7 := bthen hB_w6 hb7
      have hz_w7 := hb7.size
      go_wp2_with fail
      refine (ents_to _ _ _ l _ (h0.at_.keep hB_w7) hsn0).mono ?_
      rintro e w8 ⟨TA, Tn, Tc, rfl, T, hb8⟩
      have bE_0' := keep_cell hb8 bE_0; clear bE_0; have bE_0 := bE_0'; clear bE_0'
      have bE_1' := keep_cell hb8 bE_1; clear bE_1; have bE_1 := bE_1'; clear bE_1'
      have bX_0' := keep_cell hb8 bX_0; clear bX_0; have bX_0 := bX_0'; clear bX_0'
      have bX_1' := keep_cell hb8 bX_1; clear bX_1; have bX_1 := bX_1'; clear bX_1'
      have S' := S.keep hb8; clear S; have S := S'; clear S'
      have X' := X.keep hb8; clear X; have X := X'; clear X'
      have Y' := Y.keep hb8; clear Y; have Y := Y'; clear Y'
      have G' := G.keep hb8; clear G; have G := G'; clear G'
      have hB_w8 := bthen hB_w7 hb8
      have hz_w8 := hb8.size
      go_wp2_with fail
      refine (ents_eq _ _ _ _ _ _ _ _ X.at_ T.at_ (by omega)).mono ?_
      rintro e w9 ⟨rfl, hb9⟩
      have bE_0' := keep_cell hb9 bE_0; clear bE_0; have bE_0 := bE_0'; clear bE_0'
      have bE_1' := keep_cell hb9 bE_1; clear bE_1; have bE_1 := bE_1'; clear bE_1'
      have bX_0' := keep_cell hb9 bX_0; clear bX_0; have bX_0 := bX_0'; clear bX_0'
      have bX_1' := keep_cell hb9 bX_1; clear bX_1; have bX_1 := bX_1'; clear bX_1'
      have S' := S.keep hb9; clear S; have S := S'; clear S'
      have X' := X.keep hb9; clear X; have X := X'; clear X'
      have Y' := Y.keep hb9; clear Y; have Y := Y'; clear Y'
      have G' := G.keep hb9; clear G; have G := G'; clear G'
      have T' := T.keep hb9; clear T; have T := T'; clear T'
      have hB_w9 := bthen hB_w8 hb9
      have hz_w9 := hb9.size
      clear T
      go_wp2
      have hYat := Y.at_
      go_region_held3 (fun w' => w'.cell? ⟨w.heap.size, 0, none⟩ = some (.string p) ∧ w'.cell? ⟨w.heap.size, 1, none⟩ = some (.slice A1 n1 c1) ∧ w'.cell? ⟨w5.heap.size, 0, none⟩ = some (.string p) ∧ w'.cell? ⟨w5.heap.size, 1, none⟩ = some (.slice YA Yn Yc) ∧ Below w9.heap.size w9 w') (first | (have hh := ‹_ ∧ _›; exact ⟨keep_cell hbw hh.1, keep_cell hbw hh.2.1, keep_cell hbw hh.2.2.1, keep_cell hbw hh.2.2.2.1, bthen hh.2.2.2.2 hbw⟩) | (have hh := ‹_ ∧ _›; exact ⟨hh.1, hh.2.1, hh.2.2.1, hh.2.2.2.1, hh.2.2.2.2.drew⟩) | exact ⟨bE_0, bE_1, bX_0, bX_1, (Below.refl _ _).drew⟩) (first | (go_at_call 24; refine (toEntry_any p _ _ _ ch _ (h1.at_.keep (by have hh := ‹_ ∧ _›; exact bthen hB_w9 hh.2.2.2.2)) hsn1).mono ?_; rintro e wa ⟨RA, Rn, Rc, rfl, R, hbw⟩) | (go_at_call 26; refine (eqEntry_same p _ _ _ _ _ _ ch _ (hYat.keep (by have hh := ‹_ ∧ _›; exact hh.2.2.2.2)) R.at_ (by omega)).mono ?_; rintro e wd ⟨rfl, hbw⟩) | fail)
      have hbr := (by have hh := ‹_ ∧ _›; exact hh.2.2.2.2 : Below w9.heap.size w9 wd)
      obtain ⟨w10, hw10⟩ : ∃ W, W = wd := ⟨_, rfl⟩
      rw [← hw10] at hbr ⊢
      clear hw10 R hYat
      have bE_0' := keep_cell hbr bE_0; clear bE_0; have bE_0 := bE_0'; clear bE_0'
      have bE_1' := keep_cell hbr bE_1; clear bE_1; have bE_1 := bE_1'; clear bE_1'
      have bX_0' := keep_cell hbr bX_0; clear bX_0; have bX_0 := bX_0'; clear bX_0'
      have bX_1' := keep_cell hbr bX_1; clear bX_1; have bX_1 := bX_1'; clear bX_1'
      have S' := S.keep hbr; clear S; have S := S'; clear S'
      have X' := X.keep hbr; clear X; have X := X'; clear X'
      have Y' := Y.keep hbr; clear Y; have Y := Y'; clear Y'
      have G' := G.keep hbr; clear G; have G := G'; clear G'
      have hB_w10 := bthen hB_w9 hbr
      have hz_w10 := hbr.size
      clear hbr
      go_wp2_with fail
      refine (ents_mark _ _ _ _ _ _ _ _ X (by omega) (by omega) (by omega)).mono ?_
      rintro e w11 ⟨rfl, XM, hc11⟩
      clear X
      have bE_0' := ch_cell hc11 bE_0 (by omega); clear bE_0; have bE_0 := bE_0'; clear bE_0'
      have bE_1' := ch_cell hc11 bE_1 (by omega); clear bE_1; have bE_1 := bE_1'; clear bE_1'
      have bX_0' := ch_cell hc11 bX_0 (by omega); clear bX_0; have bX_0 := bX_0'; clear bX_0'
      have bX_1' := ch_cell hc11 bX_1 (by omega); clear bX_1; have bX_1 := bX_1'; clear bX_1'
      have S' := S.ch hc11 (iv_off (by omega)); clear S; have S := S'; clear S'
      have Y' := Y.ch hc11 (iv_off (by omega)); clear Y; have Y := Y'; clear Y'
      have G' := G.ch hc11 (iv_off (by omega)); clear G; have G := G'; clear G'
      have hB_w11 : Below w.heap.size w w11 := hc11.ivb hB_w10 (by omega) (Nat.le_refl _)
      have hz_w11 := hc11.size
      clear XM
      go_wp2_with fail
      refine (entry_mark p _ _ _ ch _ _ _ _ Y (by omega) (by omega) (by omega)).mono ?_
      rintro e w12 ⟨rfl, YM, hc12⟩
      clear Y
      have bE_0' := ch_cell hc12 bE_0 (by omega); clear bE_0; have bE_0 := bE_0'; clear bE_0'
      have bE_1' := ch_cell hc12 bE_1 (by omega); clear bE_1; have bE_1 := bE_1'; clear bE_1'
      have bX_0' := ch_cell hc12 bX_0 (by omega); clear bX_0; have bX_0 := bX_0'; clear bX_0'
      have bX_1' := ch_cell hc12 bX_1 (by omega); clear bX_1; have bX_1 := bX_1'; clear bX_1'
      have S' := S.ch hc12 (iv_off (by omega)); clear S; have S := S'; clear S'
      have G' := G.ch hc12 (iv_off (by omega)); clear G; have G := G'; clear G'
      have hB_w12 : Below w.heap.size w w12 := hc12.ivb hB_w11 (by omega) (Nat.le_refl _)
      have hz_w12 := hc12.size
      clear YM
      go_wp2_with fail
      refine (ents_eq _ _ _ _ _ _ _ _ G.at_ S.at_ (by omega)).mono ?_
      rintro e w13 ⟨rfl, hb13⟩
      have bE_0' := keep_cell hb13 bE_0; clear bE_0; have bE_0 := bE_0'; clear bE_0'
      have bE_1' := keep_cell hb13 bE_1; clear bE_1; have bE_1 := bE_1'; clear bE_1'
      have bX_0' := keep_cell hb13 bX_0; clear bX_0; have bX_0 := bX_0'; clear bX_0'
      have bX_1' := keep_cell hb13 bX_1; clear bX_1; have bX_1 := bX_1'; clear bX_1'
      have S' := S.keep hb13; clear S; have S := S'; clear S'
      have G' := G.keep hb13; clear G; have G := G'; clear G'
      have hB_w13 := bthen hB_w12 hb13
      have hz_w13 := hb13.size
      go_wp2_with fail
      refine (ents_mark _ _ _ _ _ _ _ _ G (by omega) (by omega) (by omega)).mono ?_
      rintro e w14 ⟨rfl, GM, hc14⟩
      clear G
      have bE_0' := ch_cell hc14 bE_0 (by omega); clear bE_0; have bE_0 := bE_0'; clear bE_0'
      have bE_1' := ch_cell hc14 bE_1 (by omega); clear bE_1; have bE_1 := bE_1'; clear bE_1'
      have bX_0' := ch_cell hc14 bX_0 (by omega); clear bX_0; have bX_0 := bX_0'; clear bX_0'
      have bX_1' := ch_cell hc14 bX_1 (by omega); clear bX_1; have bX_1 := bX_1'; clear bX_1'
      have S' := S.ch hc14 (iv_off (by omega)); clear S; have S := S'; clear S'
      have hB_w14 : Below w.heap.size w w14 := hc14.ivb hB_w13 (by omega) (Nat.le_refl _)
      have hz_w14 := hc14.size
      go_wp2_with fail
      refine (ents_held _ _ _ _ _ _ GM.at_ (by omega) (by omega) (by omega)).mono ?_
      rintro e w15 ⟨rfl, hb15⟩
      have bE_0' := keep_cell hb15 bE_0; clear bE_0; have bE_0 := bE_0'; clear bE_0'
      have bE_1' := keep_cell hb15 bE_1; clear bE_1; have bE_1 := bE_1'; clear bE_1'
      have bX_0' := keep_cell hb15 bX_0; clear bX_0; have bX_0 := bX_0'; clear bX_0'
      have bX_1' := keep_cell hb15 bX_1; clear bX_1; have bX_1 := bX_1'; clear bX_1'
      have S' := S.keep hb15; clear S; have S := S'; clear S'
      have GM' := GM.keep hb15; clear GM; have GM := GM'; clear GM'
      have hB_w15 := bthen hB_w14 hb15
      have hz_w15 := hb15.size
      go_wp2
      go_region_held3 (fun w' => w'.cell? ⟨w.heap.size, 0, none⟩ = some (.string p) ∧ w'.cell? ⟨w.heap.size, 1, none⟩ = some (.slice A1 n1 c1) ∧ Below w15.heap.size w15 w') (first | (have hh := ‹_ ∧ _›; exact ⟨keep_cell hbw hh.1, keep_cell hbw hh.2.1, bthen hh.2.2 hbw⟩) | (have hh := ‹_ ∧ _›; exact ⟨hh.1, hh.2.1, hh.2.2.drew⟩) | exact ⟨bE_0, bE_1, (Below.refl _ _).drew⟩) (first | (go_at_call 13; refine (ents_to _ _ _ l _ (h0.at_.keep (by have hh := ‹_ ∧ _›; exact bthen hB_w15 hh.2.2)) hsn0).mono ?_; rintro e wa ⟨PA, Pn, Pc, rfl, P, hbw⟩) | (go_at_call 24; refine (toEntry_any p _ _ _ ch _ (h1.at_.keep (by have hh := ‹_ ∧ _›; exact bthen hB_w15 hh.2.2)) hsn1).mono ?_; rintro e wb ⟨QA, Qn, Qc, rfl, Q, hbw⟩; have P' := P.keep hbw) | (go_at_call 25; refine (treePut_impl _ _ _ l p _ _ _ ch _ P'.at_ Q.at_ (own_cap0 Q.row.own) hsT).mono ?_; rintro e wc ⟨HA, Hn, Hc, rfl, H, hbw⟩; have hzc := Nat.le_refl wb.heap.size) | fail)
      have hbr := (by have hh := ‹_ ∧ _›; exact hh.2.2 : Below w15.heap.size w15 wc)
      skip
      obtain ⟨w16, hw16⟩ : ∃ W, W = wc := ⟨_, rfl⟩
      rw [← hw16] at hbr H ⊢
      clear hw16 P Q P'
      have bE_0' := keep_cell hbr bE_0; clear bE_0; have bE_0 := bE_0'; clear bE_0'
      have bE_1' := keep_cell hbr bE_1; clear bE_1; have bE_1 := bE_1'; clear bE_1'
      have bX_0' := keep_cell hbr bX_0; clear bX_0; have bX_0 := bX_0'; clear bX_0'
      have bX_1' := keep_cell hbr bX_1; clear bX_1; have bX_1 := bX_1'; clear bX_1'
      have S' := S.keep hbr; clear S; have S := S'; clear S'
      have GM' := GM.keep hbr; clear GM; have GM := GM'; clear GM'
      have hB_w16 := bthen hB_w15 hbr
      have hz_w16 := hbr.size
      clear hbr
      go_wp2_with fail
      refine (ents_eq _ _ _ _ _ _ _ _ H.at_ S.at_ (by omega)).mono ?_
      rintro e w17 ⟨rfl, hb17⟩
      have bE_0' := keep_cell hb17 bE_0; clear bE_0; have bE_0 := bE_0'; clear bE_0'
      have bE_1' := keep_cell hb17 bE_1; clear bE_1; have bE_1 := bE_1'; clear bE_1'
      have bX_0' := keep_cell hb17 bX_0; clear bX_0; have bX_0 := bX_0'; clear bX_0'
      have bX_1' := keep_cell hb17 bX_1; clear bX_1; have bX_1 := bX_1'; clear bX_1'
      have S' := S.keep hb17; clear S; have S := S'; clear S'
      have GM' := GM.keep hb17; clear GM; have GM := GM'; clear GM'
      have H' := H.keep hb17; clear H; have H := H'; clear H'
      have hB_w17 := bthen hB_w16 hb17
      have hz_w17 := hb17.size
      clear H
      clear S
      go_wp2_with fail
      refine (ents_held _ _ _ _ _ _ GM.at_ (by omega) (by omega) (by omega)).mono ?_
      rintro e w18 ⟨rfl, hb18⟩
      have bE_0' := keep_cell hb18 bE_0; clear bE_0; have bE_0 := bE_0'; clear bE_0'
      have bE_1' := keep_cell hb18 bE_1; clear bE_1; have bE_1 := bE_1'; clear bE_1'
      have bX_0' := keep_cell hb18 bX_0; clear bX_0; have bX_0 := bX_0'; clear bX_0'
      have bX_1' := keep_cell hb18 bX_1; clear bX_1; have bX_1 := bX_1'; clear bX_1'
      have GM' := GM.keep hb18; clear GM; have GM := GM'; clear GM'
      have hB_w18 := bthen hB_w17 hb18
      have hz_w18 := hb18.size
      go_wp2
      go_returns
      exact ⟨rfl, hB_w18⟩
    · have HR1 := Lib.hid (szR_no (Int.not_le.1 hsz1))
      go_enter Try.func6, Try.ntmps6
      go_wp2_with fail
      refine (ents_sz _ _ _ _ _ _ (h0.keep al) (by omega) (by omega)).mono ?_
      rintro e w1 ⟨rfl, hb1⟩; rw [HR0.out]
      have hB_w1 : Below w.heap.size w w1 := bthen al hb1
      have bE_0 : w1.cell? ⟨w.heap.size, 0, none⟩ = some (.string p) := keep_cell hb1 (by simp [go_sem])
      have bE_1 : w1.cell? ⟨w.heap.size, 1, none⟩ = some (.slice A1 n1 c1) := keep_cell hb1 (by simp [go_sem])
      go_wp2_with fail
      refine (szEntry_any p _ _ _ ch _ _ (h1.keep hB_w1) hp (by omega) (by omega)).mono ?_
      rintro e w2 ⟨rfl, hb2⟩; rw [HR1.out]
      go_wp2
      go_returns
      exact ⟨rfl, bthen hB_w1 hb2⟩
  · have HR0 := Lib.hid (szR_no (Int.not_le.1 hsz0))
    go_enter Try.func6, Try.ntmps6
    go_wp2_with fail
    refine (ents_sz _ _ _ _ _ _ (h0.keep al) (by omega) (by omega)).mono ?_
    rintro e w1 ⟨rfl, hb1⟩; rw [HR0.out]
    go_wp2
    go_returns
    exact ⟨rfl, bthen al hb1⟩

theorem fnExactTreePut_shape {H : Type} {enc : TypeId × Value → H} {W : World} {args : Array Value} {ds : List (DataW H)} {p : List MemPlace}
    (hA : DataW.TrodAll enc Try.prog W 0 (fun _ => true) true Try.f6.params.toList args.toList ds p) : ∃ x0 x1, ds = [x0, x1] := by
  obtain ⟨v0, v1, d0, d1, p0, p1, rfl, rfl, rfl, h0, h1⟩ := trodAll_two hA
  exact ⟨_, _, rfl⟩

set_option maxRecDepth 100000 in
theorem fnExactTreePut_contract {H : Type} {enc : TypeId × Value → H} (W : World) (base : Nat) (args : Array Value) (ds : List (DataW H)) (p : List MemPlace)
    (hval : ∀ (j : Nat) t v, Try.f6.params[j]? = some t → args[j]? = some v → Value.okWide Try.prog W .any base t v)
    (hA : DataW.TrodAll enc Try.prog W 0 (fun _ => true) true Try.f6.params.toList args.toList ds p) :
    Calls Try.prog 6 args W fun e W' => e = .returned (.bool true) ∧ Below W.heap.size W W' := by
  obtain ⟨v0, v1, d0, d1, p0, p1, rfl, rfl, rfl, h0, h1⟩ := trodAll_two hA
  obtain ⟨A0, n0, c0, l0, rfl, hr0, hn0⟩ := open_entries (hval 0 22 v0 rfl rfl) h0
  obtain ⟨s1, A1, n1, c1, l1, rfl, hp1, hs1⟩ := open_entry (hval 1 38 v1 rfl rfl) h1
  exact fnExactTreePut_any _ _ _ _ _ _ _ _ _ W (EntsOk.of_row hr0 hn0) hp1 hs1

set_option maxRecDepth 100000 in
theorem fnExactTreePut_lifted (os : Os) (started : os.Started) (H : Type) (enc : TypeId × Value → H) :
    ReturnsInHanded {} Try.checked os 6 .any (Rows.fnExactTreePutSpec.pre6 enc Try.prog Try.f6 Rows.fnExactTreePutRow.domain false) (Rows.fnExactTreePutSpec.post enc Try.prog Try.f6 false true false false) := by
  refine returnsInHanded_of_change (C := Try.checked) Try.own started (by kernel_rfl) Try.func6
    (ChangeSpec.witness6 (enc := enc) (C := Try.checked) false ⟨#[], #[.slice none 0 0, .agg #[.string .empty, .slice none 0 0]], []⟩ 8 (by kernel_rfl) (by kernel_rfl) (by kernel_rfl) (by kernel_rfl)) ?_
  intro W base args ds gs before hval0 hW _ _
  have hval : ∀ (j : Nat) t v, Try.f6.params[j]? = some t → args[j]? = some v → Value.okWide Try.prog W .any base t v := hval0
  have hW' := hW
  obtain ⟨p, q, hA0, hV, rfl, hfz, hnd⟩ := hW
  have hA : DataW.TrodAll enc Try.prog W 0 (fun _ => true) true Try.f6.params.toList args.toList ds p := hA0
  refine (fnExactTreePut_contract W base args ds p hval hA).mono fun e W' ⟨he, hb⟩ => ?_
  subst he
  have hds := fnExactTreePut_shape hA
  obtain ⟨hgs, _⟩ := trodVars_none hV
  subst hgs
  refine ⟨_, rfl, law_post (P := Try.prog) Try.laidOut (of_decide_eq_true (by kernel_rfl)) (by kernel_rfl) Try.underlying4 hW' rfl ?_ ?_ ?_ hb⟩
  all_goals (obtain ⟨x0, x1, rfl⟩ := hds; rfl)

theorem fnExactTreePut_holds : Rows.FnExactTreePutSaid :=
  OpenClaim.holds_of_wide 6 Try.f6 rfl rfl rfl rfl rfl rfl rfl ⟨rfl, rfl, rfl, rfl, rfl⟩ rfl rfl rfl rfl rfl (by kernel_rfl) Try.func6 (by kernel_rfl)
    (of_decide_eq_true (by kernel_rfl)) (by unfold Func.isWrapper; first | (rw [if_pos (by decide +kernel)]; kernel_rfl) | (rw [if_neg (by decide +kernel)]; exact ⟨rfl, rfl⟩))
    (fun os started H enc _ => fnExactTreePut_lifted os started H enc)
end Go.Proofs.Ytmichbgiaoopgaa
