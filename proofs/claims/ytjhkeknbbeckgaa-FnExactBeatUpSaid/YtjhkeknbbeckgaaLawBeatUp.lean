/- The law FnExactBeatUp holds: for every Beat the program's BeatUp answers what the reference's answers, in memory of its own. Conditions: none. -/
import Derived.Test.YtjhkeknbbeckgaaBeatUp
import Derived.Test.YtjhkeknbbeckgaaMarkBeat3
import Derived.Deep.RegionHeld3
namespace Go.Proofs.Ytjhkeknbbeckgaa
open Go.ChangeShapes Go.WideShapes Go.ChangeAt Go.RowKit Go.Joins
attribute [local irreducible] BtOwn BtAt OwnV

theorem BtAt.drew {w : World} {A1 : Option Addr} {n1 : Nat} {f1 : Nat → Int} {A2 : Option Addr} {n2 : Nat} {f2 : Nat → Int} {A3 : Option Addr} {n3 : Nat} {f3 : Nat → Bool}
    (h : BtAt w A1 n1 f1 A2 n2 f2 A3 n3 f3) : BtAt w.drew A1 n1 f1 A2 n2 f2 A3 n3 f3 := h.keep (Below.refl _ _).drew
theorem OwnV.keep {w w' : World} {base e n : Nat} {v : Value} {f : Nat → Value} (h : OwnV w base e v n f) (hb : Below w.heap.size w w') : OwnV w' base e v n f :=
  h.ch (S := fun _ => False) (Ch.of_below hb) (fun _ _ h => h)

theorem fnExactBeatUp_any (A1 : Option Addr) (n1 c1 : Nat) (f1 : Nat → Int) (A2 : Option Addr) (n2 c2 : Nat) (f2 : Nat → Int) (A3 : Option Addr) (n3 c3 : Nat) (f3 : Nat → Bool) (w : World)
    (h : BtAt w A1 n1 f1 A2 n2 f2 A3 n3 f3) (h1 : n1 ≤ 9223372036854775807) (h2 : n2 ≤ 9223372036854775807) (h3 : n3 ≤ 9223372036854775807) :
    Calls Try.prog 8 #[.agg #[.slice A1 n1 c1, .slice A2 n2 c2, .slice A3 n3 c3]] w fun e w' => e = .returned (.bool true) ∧ Below w.heap.size w w' := by
  by_cases hsz : ((n1 + n2 + n3 : Nat) : Int) ≤ 1048576
  · have HR := Lib.hid (szR_yes hsz)
    have hge : ¬ ((1048576 : Int) - ((n1 + n2 + n3 : Nat) : Int) < 0) := by omega
    have m1 : n1 ≤ 16777216 := by omega
    have m2 : n2 ≤ 16777216 := by omega
    have m3 : n3 ≤ 16777216 := by omega
    obtain ⟨ok, hok⟩ : ∃ ok, beatOkB n1 n2 n3 f1 f2 = ok := ⟨_, rfl⟩
    obtain ⟨n, hN⟩ : ∃ n, nOf ok = n := ⟨_, rfl⟩
    have hn3 : n ≤ 3 := by rw [← hN]; unfold nOf; split <;> omega
    have HS := Lib.hid (fun A1 c1 A2 c2 A3 c3 w h => beatUp_spec A1 n1 c1 f1 A2 n2 c2 f2 A3 n3 c3 f3 w h h3)
    have HI := Lib.hid (fun A1 c1 A2 c2 A3 c3 w h => beatUp_impl A1 n1 c1 f1 A2 n2 c2 f2 A3 n3 c3 f3 w h)
    unfold BeatUpR at HS HI
    rw [hok, hN] at HS HI
    clear hok hN hsz
    go_enter Try.func8, Try.ntmps8
    go_wp2_with fail
    refine (szBeat_any _ _ _ _ _ _ _ _ _ _ _ h1 h2 h3 (by omega) (by omega)).mono ?_
    rintro e w1 ⟨rfl, hb1⟩
    obtain ⟨hc_w1, hf_w1⟩ := bcell hb1
    have hz_w1 := hb1.size
    try simp at hz_w1
    have hB_w1 : Below w.heap.size w w1 := bthen (by go_grown) hb1
    have hz_w1_w_0 : w.heap.size < w1.heap.size := by omega
    rw [HR.out]
    go_wp2_with fail
    refine (toBeat_any _ _ _ f1 _ _ _ f2 _ _ _ f3 _ (h.keep hB_w1) m1 m2 m3).mono ?_
    rintro e w2 ⟨g1, g2, g3, rfl, ho2, hb2⟩
    obtain ⟨hc_w2, hf_w2⟩ := bcell hb2
    have hz_w2 := hb2.size
    try simp at hz_w2
    have hB_w2 : Below w.heap.size w w2 := bthen (by go_grown) hb2
    have hz_w2_w_0 : w.heap.size < w2.heap.size := by omega
    go_wp2_with fail
    refine (HS.out _ _ _ _ _ _ _ ho2.at_).mono ?_
    rintro e w3 ⟨S, r3, cS, rfl, rfl, hS3, hb3⟩
    obtain ⟨hc_w3, hf_w3⟩ := bcell hb3
    have hz_w3 := hb3.size
    try simp at hz_w3
    have hB_w3 : Below w.heap.size w w3 := bthen (by go_grown) hb3
    have hz_w3_w_0 : w.heap.size < w3.heap.size := by omega
    clear ho2
    go_wp2_with fail
    refine (toBeat_any _ _ _ f1 _ _ _ f2 _ _ _ f3 _ (h.keep hB_w3) m1 m2 m3).mono ?_
    rintro e w4 ⟨p1, p2, p3, rfl, ho4, hb4⟩
    obtain ⟨hc_w4, hf_w4⟩ := bcell hb4
    have hz_w4 := hb4.size
    try simp at hz_w4
    have hB_w4 : Below w.heap.size w w4 := bthen (by go_grown) hb4
    have hz_w4_w_0 : w.heap.size < w4.heap.size := by omega
    have hS4 := hS3.keep hb4
    have hlS := fun k hk => hS3.blk (b := k) hk
    have hlX := fun k hk => ho4.lt (b := k) hk
    have Z2 := hb2.size
    have Z3 := hb3.size
    have Z4 := hb4.size
    have al4 := fun o => (Below.refl w4.heap.size w4).alloc (Nat.le_refl _) o
    go_wp2_with fail
    refine (HI.out _ _ _ _ _ _ _ (ho4.at_.keep (al4 _))).mono ?_
    rintro e w5 ⟨G, r5, cG, rfl, rfl, hG5, hb5⟩
    obtain ⟨hc_w5, hf_w5⟩ := bcell hb5
    have hz_w5 := hb5.size
    try simp at hz_w5
    have hB_w5 : Below w.heap.size w w5 := bthen (by go_grown) hb5
    have hz_w5_w_0 : w.heap.size < w5.heap.size := by omega
    have hz_w5_w4_0 : w4.heap.size < w5.heap.size := by omega
    have hX5 := (ho4.keep (al4 _)).keep hb5
    have hS5 := (hS4.keep (al4 _)).keep hb5
    go_wp2_with fail
    refine (eqBools_same _ _ _ _ _ _ _ hG5.vals hS5.vals (by omega)).mono ?_
    rintro e w6 ⟨rfl, hb6⟩
    obtain ⟨hc_w6, hf_w6⟩ := bcell hb6
    have hz_w6 := hb6.size
    try simp at hz_w6
    have hB_w6 : Below w.heap.size w w6 := bthen (by go_grown) hb6
    have hz_w6_w_0 : w.heap.size < w6.heap.size := by omega
    have hz_w6_w4_0 : w4.heap.size < w6.heap.size := by omega
    have hX6 := hX5.keep hb6
    have hS6 := hS5.keep hb6
    have hG6 := hG5.keep hb6
    have h6 := h.keep hB_w6
    have hlG := fun k hk => hG5.blk (b := k) hk
    simp only [World.size_alloc] at hG6 hlG
    have Z5 := hb5.size
    simp at Z5
    clear hX5 hS5 hG5 hS4 hS3 ho4
    go_wp2
    have y0 : w6.cell? ⟨w.heap.size, 0, none⟩ = some (.slice A1 n1 c1) := by simp [go_sem, *]
    have y1 : w6.cell? ⟨w.heap.size, 1, none⟩ = some (.slice A2 n2 c2) := by simp [go_sem, *]
    have y2 : w6.cell? ⟨w.heap.size, 2, none⟩ = some (.slice A3 n3 c3) := by simp [go_sem, *]
    have y3 : w6.cell? ⟨w4.heap.size, 0, none⟩ = some (.slice (some ⟨p1, 0, none⟩) n1 n1) := by simp [go_sem, *]
    have y4 : w6.cell? ⟨w4.heap.size, 1, none⟩ = some (.slice (some ⟨p2, 0, none⟩) n2 n2) := by simp [go_sem, *]
    have y5 : w6.cell? ⟨w4.heap.size, 2, none⟩ = some (.slice (some ⟨p3, 0, none⟩) n3 n3) := by simp [go_sem, *]
    go_region_held3 (fun w' => w'.cell? ⟨w.heap.size, 0, none⟩ = some (.slice A1 n1 c1) ∧ w'.cell? ⟨w.heap.size, 1, none⟩ = some (.slice A2 n2 c2) ∧ w'.cell? ⟨w.heap.size, 2, none⟩ = some (.slice A3 n3 c3) ∧ w'.cell? ⟨w4.heap.size, 0, none⟩ = some (.slice (some ⟨p1, 0, none⟩) n1 n1) ∧ w'.cell? ⟨w4.heap.size, 1, none⟩ = some (.slice (some ⟨p2, 0, none⟩) n2 n2) ∧ w'.cell? ⟨w4.heap.size, 2, none⟩ = some (.slice (some ⟨p3, 0, none⟩) n3 n3) ∧ BtAt w' (some ⟨p1, 0, none⟩) n1 f1 (some ⟨p2, 0, none⟩) n2 f2 (some ⟨p3, 0, none⟩) n3 f3 ∧ Below w6.heap.size w6 w') (first | (have hh := ‹_ ∧ _›; exact ⟨keep_cell hbw hh.1, keep_cell hbw hh.2.1, keep_cell hbw hh.2.2.1, keep_cell hbw hh.2.2.2.1, keep_cell hbw hh.2.2.2.2.1, keep_cell hbw hh.2.2.2.2.2.1, hh.2.2.2.2.2.2.1.keep hbw, bthen hh.2.2.2.2.2.2.2 hbw⟩) | (have hh := ‹_ ∧ _›; exact ⟨hh.1, hh.2.1, hh.2.2.1, hh.2.2.2.1, hh.2.2.2.2.1, hh.2.2.2.2.2.1, hh.2.2.2.2.2.2.1.drew, hh.2.2.2.2.2.2.2.drew⟩) | exact ⟨y0, y1, y2, y3, y4, y5, hX6.at_.drew, (Below.refl _ _).drew⟩) (first | (go_at_call 32; refine (toBeat_any _ _ _ f1 _ _ _ f2 _ _ _ f3 _ (h6.keep (by have hh := ‹_ ∧ _›; exact hh.2.2.2.2.2.2.2)) m1 m2 m3).mono ?_; rintro e wa ⟨q1, q2, q3, rfl, hoa, hbw⟩) | (go_at_call 34; refine (eqBeat_same _ _ _ f1 _ _ _ f2 _ _ _ f3 _ _ _ _ _ _ _ (by have hh := ‹_ ∧ _›; exact hh.2.2.2.2.2.2.1) (by first | exact hoa.at_ | exact hoa.at_.drew) (by omega) (by omega) (by omega)).mono ?_; rintro e wb ⟨rfl, hbw⟩))
    have hbr := (by have hh := ‹_ ∧ _›; exact hh.2.2.2.2.2.2.2 : Below w6.heap.size w6 _)
    have hX7 := hX6.keep hbr
    have hS7 := hS6.keep hbr
    have hG7 := hG6.keep hbr
    have x0 := keep_cell hbr y0
    have x1 := keep_cell hbr y1
    have x2 := keep_cell hbr y2
    have x3 := keep_cell hbr y3
    have x4 := keep_cell hbr y4
    have x5 := keep_cell hbr y5
    have hB7 := bthen hB_w6 hbr
    go_wp2_with fail
    refine (markBeat3_any _ _ _ _ _ _ _ _ _ _ _ hX7 m1 m2 m3).mono ?_
    rintro e w8 ⟨rfl, hc8⟩
    have hS8 := hS7.ch hc8 (fun k hk hb => by have := hlS k (Own3.ch.own_block hk); have := hlX k hb; omega)
    have hG8 := hG7.ch hc8 (fun k hk hb => by have := hlG k (Own3.ch.own_block hk); have := hlX k hb; omega)
    have t0 := hc8.cell x0 (fun hb => by have := hlX _ hb; omega)
    have t1 := hc8.cell x1 (fun hb => by have := hlX _ hb; omega)
    have t2 := hc8.cell x2 (fun hb => by have := hlX _ hb; omega)
    have hB8 : Below w.heap.size w w8 := hB7.trans (hc8.below (fun b hb => by have := hlX b hb; omega) (by have := hB7.size; omega))
    clear x0 x1 x2 x3 x4 x5 hS7 hG7 hX7
    go_wp2_with fail
    refine (eqBools_same _ _ _ _ _ _ _ hG8.vals hS8.vals (by omega)).mono ?_
    rintro e w9 ⟨rfl, hb9⟩
    have hS9 := hS8.keep hb9
    have hG9 := hG8.keep hb9
    have x0 := keep_cell hb9 t0
    have x1 := keep_cell hb9 t1
    have x2 := keep_cell hb9 t2
    have hB9 := bthen hB8 hb9
    clear t0 t1 t2 hS8 hG8
    go_wp2_with fail
    refine (markBools_any _ _ _ _ 1 _ _ _ hG9 (by omega) (by omega) (by omega)).mono ?_
    rintro e w10 ⟨rfl, hG10, hc10⟩
    have hS10 := hS9.ch hc10 (fun k hk hb => by have := hlS k (Own3.ch.own_block hk); have := hlG k hb; omega)
    have t0 := hc10.cell x0 (fun hb => by have := hlG _ hb; omega)
    have t1 := hc10.cell x1 (fun hb => by have := hlG _ hb; omega)
    have t2 := hc10.cell x2 (fun hb => by have := hlG _ hb; omega)
    have hB10 : Below w.heap.size w w10 := hB9.trans (hc10.below (fun b hb => by have := hlG b hb; omega) (by have := hB9.size; omega))
    clear x0 x1 x2 hS9 hG9
    go_wp2_with fail
    refine (heldBools_any _ _ _ 1 _ hG10.vals (by omega) (by omega) (by omega)).mono ?_
    rintro e w11 ⟨rfl, rfl⟩
    go_wp2_with fail
    refine (toBeat_any _ _ _ f1 _ _ _ f2 _ _ _ f3 _ (h.keep hB10) m1 m2 m3).mono ?_
    rintro e w12 ⟨q1, q2, q3, rfl, ho12, hb12⟩
    have hS12 := hS10.keep hb12
    have hG12 := hG10.keep hb12
    have hB12 := bthen hB10 hb12
    clear t0 t1 t2 hS10 hG10
    go_wp2_with fail
    refine (HI.out _ _ _ _ _ _ _ ho12.at_).mono ?_
    rintro e w13 ⟨H, r13, cH, rfl, rfl, hH13, hb13⟩
    have hS13 := hS12.keep hb13
    have hG13 := hG12.keep hb13
    have hB13 := bthen hB12 hb13
    clear ho12 hS12 hG12
    go_wp2_with fail
    refine (eqBools_same _ _ _ _ _ _ _ hH13.vals hS13.vals (by omega)).mono ?_
    rintro e w14 ⟨rfl, hb14⟩
    have hG14 := hG13.keep hb14
    have hB14 := bthen hB13 hb14
    go_wp2_with fail
    refine (heldBools_any _ _ _ 1 _ hG14.vals (by omega) (by omega) (by omega)).mono ?_
    rintro e w15 ⟨rfl, rfl⟩
    go_wp2
    go_returns
    exact ⟨rfl, hB14⟩
  · have HR := Lib.hid (szR_no (Int.not_le.1 hsz))
    go_enter Try.func8, Try.ntmps8
    go_wp2_with fail
    refine (szBeat_any _ _ _ _ _ _ _ _ _ _ _ h1 h2 h3 (by omega) (by omega)).mono ?_
    rintro e w1 ⟨rfl, hb1⟩
    obtain ⟨hc_w1, hf_w1⟩ := bcell hb1
    have hz_w1 := hb1.size
    try simp at hz_w1
    have hB_w1 : Below w.heap.size w w1 := bthen (by go_grown) hb1
    have hz_w1_w_0 : w.heap.size < w1.heap.size := by omega
    rw [HR.out]
    go_wp2
    go_returns
    exact ⟨rfl, hB_w1⟩
theorem fnExactBeatUp_shape {H : Type} {enc : TypeId × Value → H} {W : World} {args : Array Value} {ds : List (DataW H)} {p : List MemPlace}
    (hA : DataW.TrodAll enc Try.prog W 0 (fun _ => true) true Try.f8.params.toList args.toList ds p) : ∃ x0, ds = [x0] := by
  obtain ⟨v0, d0, rfl, rfl, h0⟩ := trodAll_one hA
  exact ⟨_, rfl⟩

set_option maxRecDepth 100000 in
theorem fnExactBeatUp_contract {H : Type} {enc : TypeId × Value → H} (W : World) (base : Nat) (args : Array Value) (ds : List (DataW H)) (p : List MemPlace)
    (hval : ∀ (j : Nat) t v, Try.f8.params[j]? = some t → args[j]? = some v → Value.okWide Try.prog W .any base t v)
    (hA : DataW.TrodAll enc Try.prog W 0 (fun _ => true) true Try.f8.params.toList args.toList ds p) :
    Calls Try.prog 8 args W fun e W' => e = .returned (.bool true) ∧ Below W.heap.size W W' := by
  obtain ⟨v0, d0, rfl, rfl, h0⟩ := trodAll_one hA
  obtain ⟨A1_0, n1_0, c1_0, f1_0, A2_0, n2_0, c2_0, f2_0, A3_0, n3_0, c3_0, f3_0, rfl, hr0, ha0, hb0, hc0⟩ := open_beat (hval 0 44 v0 rfl rfl) h0
  exact fnExactBeatUp_any _ _ _ _ _ _ _ _ _ _ _ _ W hr0 ha0 hb0 hc0

set_option maxRecDepth 100000 in
theorem fnExactBeatUp_lifted (os : Os) (started : os.Started) (H : Type) (enc : TypeId × Value → H) :
    ReturnsInHanded {} Try.checked os 8 .any (Rows.fnExactBeatUpSpec.pre6 enc Try.prog Try.f8 Rows.fnExactBeatUpRow.domain false) (Rows.fnExactBeatUpSpec.post enc Try.prog Try.f8 false true false false) := by
  refine returnsInHanded_of_change (C := Try.checked) Try.own started (by kernel_rfl) Try.func8
    (ChangeSpec.witness6 (enc := enc) (C := Try.checked) false ⟨#[], #[.agg #[.slice none 0 0, .slice none 0 0, .slice none 0 0]], []⟩ 8 (by kernel_rfl) (by kernel_rfl) (by kernel_rfl) (by kernel_rfl)) ?_
  intro W base args ds gs before hval0 hW _ _
  have hval : ∀ (j : Nat) t v, Try.f8.params[j]? = some t → args[j]? = some v → Value.okWide Try.prog W .any base t v := hval0
  have hW' := hW
  obtain ⟨p, q, hA0, hV, rfl, hfz, hnd⟩ := hW
  have hA : DataW.TrodAll enc Try.prog W 0 (fun _ => true) true Try.f8.params.toList args.toList ds p := hA0
  refine (fnExactBeatUp_contract W base args ds p hval hA).mono fun e W' ⟨he, hb⟩ => ?_
  subst he
  have hds := fnExactBeatUp_shape hA
  obtain ⟨hgs, _⟩ := trodVars_none hV
  subst hgs
  refine ⟨_, rfl, law_post (P := Try.prog) Try.laidOut (of_decide_eq_true (by kernel_rfl)) (by kernel_rfl) Try.underlying4 hW' rfl ?_ ?_ ?_ hb⟩
  all_goals (obtain ⟨x0, rfl⟩ := hds; rfl)

theorem fnExactBeatUp_holds : Rows.FnExactBeatUpSaid :=
  OpenClaim.holds_of_wide 8 Try.f8 rfl rfl rfl rfl rfl rfl rfl ⟨rfl, rfl, rfl, rfl, rfl⟩ rfl rfl rfl rfl rfl (by kernel_rfl) Try.func8 (by kernel_rfl)
    (of_decide_eq_true (by kernel_rfl)) (by unfold Func.isWrapper; first | (rw [if_pos (by decide +kernel)]; kernel_rfl) | (rw [if_neg (by decide +kernel)]; exact ⟨rfl, rfl⟩))
    (fun os started H enc _ => fnExactBeatUp_lifted os started H enc)
end Go.Proofs.Ytjhkeknbbeckgaa
