/- The law FnExactBeatOk holds: for every Beat the program's BeatOk answers what the reference's answers, and the Beat reads as before. Conditions: none. -/
import Derived.Test.YtjhkeknbbeckgaaLawBeats
import Derived.Deep.RegionHeld3
namespace Go.Proofs.Ytjhkeknbbeckgaa
open Go.ChangeShapes Go.WideShapes Go.ChangeAt Go.RowKit Go.Joins
attribute [local irreducible] BtOwn BtAt

theorem BtAt.drew {w : World} {A1 : Option Addr} {n1 : Nat} {f1 : Nat → Int} {A2 : Option Addr} {n2 : Nat} {f2 : Nat → Int} {A3 : Option Addr} {n3 : Nat} {f3 : Nat → Bool}
    (h : BtAt w A1 n1 f1 A2 n2 f2 A3 n3 f3) : BtAt w.drew A1 n1 f1 A2 n2 f2 A3 n3 f3 := h.keep (Below.refl _ _).drew

theorem fnExactBeatOk_any (A1 : Option Addr) (n1 c1 : Nat) (f1 : Nat → Int) (A2 : Option Addr) (n2 c2 : Nat) (f2 : Nat → Int) (A3 : Option Addr) (n3 c3 : Nat) (f3 : Nat → Bool) (w : World)
    (h : BtAt w A1 n1 f1 A2 n2 f2 A3 n3 f3) (h1 : n1 ≤ 9223372036854775807) (h2 : n2 ≤ 9223372036854775807) (h3 : n3 ≤ 9223372036854775807) :
    Calls Try.prog 5 #[.agg #[.slice A1 n1 c1, .slice A2 n2 c2, .slice A3 n3 c3]] w fun e w' => e = .returned (.bool true) ∧ Below w.heap.size w w' := by
  by_cases hsz : ((n1 + n2 + n3 : Nat) : Int) ≤ 1048576
  · have HR := Lib.hid (szR_yes hsz)
    have hge : ¬ ((1048576 : Int) - ((n1 + n2 + n3 : Nat) : Int) < 0) := by omega
    have m1 : n1 ≤ 16777216 := by omega
    have m2 : n2 ≤ 16777216 := by omega
    have m3 : n3 ≤ 16777216 := by omega
    obtain ⟨ok, hok⟩ : ∃ ok, beatOkB n1 n2 n3 f1 f2 = ok := ⟨_, rfl⟩
    have HK := Lib.hid hok
    clear hok hsz
    go_enter Try.func5, Try.ntmps5
    go_wp2_with fail
    refine (szBeat_any _ _ _ _ _ _ _ _ _ _ _ h1 h2 h3 (by omega) (by omega)).mono ?_
    rintro e w1 ⟨rfl, hb1⟩
    obtain ⟨hc_w1, hf_w1⟩ := bcell hb1
    have hz_w1 := hb1.size
    try simp at hz_w1
    have hB_w1 : Below w.heap.size w w1 := bthen (by go_grown) hb1
    have hz_w1_w_0 : w.heap.size < w1.heap.size := by omega
    rw [HR.out]
    go_wp2_with fail
    refine (toBeat_any _ _ _ f1 _ _ _ f2 _ _ _ f3 _ (h.keep hB_w1) m1 m2 m3).mono ?_
    rintro e w2 ⟨g1, g2, g3, rfl, ho2, hb2⟩
    obtain ⟨hc_w2, hf_w2⟩ := bcell hb2
    have hz_w2 := hb2.size
    try simp at hz_w2
    have hB_w2 : Below w.heap.size w w2 := bthen (by go_grown) hb2
    have hz_w2_w_0 : w.heap.size < w2.heap.size := by omega
    go_wp2_with fail
    refine (beatOk_spec _ _ _ f1 _ _ _ f2 _ _ _ f3 _ ho2.at_).mono ?_
    rintro e w3 ⟨rfl, hb3⟩
    obtain ⟨hc_w3, hf_w3⟩ := bcell hb3
    have hz_w3 := hb3.size
    try simp at hz_w3
    have hB_w3 : Below w.heap.size w w3 := bthen (by go_grown) hb3
    have hz_w3_w_0 : w.heap.size < w3.heap.size := by omega
    rw [HK.out]
    go_wp2_with fail
    refine (toBeat_any _ _ _ f1 _ _ _ f2 _ _ _ f3 _ (h.keep hB_w3) m1 m2 m3).mono ?_
    rintro e w4 ⟨p1, p2, p3, rfl, ho4, hb4⟩
    obtain ⟨hc_w4, hf_w4⟩ := bcell hb4
    have hz_w4 := hb4.size
    try simp at hz_w4
    have hB_w4 : Below w.heap.size w w4 := bthen (by go_grown) hb4
    have hz_w4_w_0 : w.heap.size < w4.heap.size := by omega
    have hx4 := ho4.at_
    clear ho4 ho2
    go_wp2_with fail
    refine (beatOk_impl _ _ _ f1 _ _ _ f2 _ _ _ f3 _ (hx4.keep (by go_grown))).mono ?_
    rintro e w5 ⟨rfl, hb5⟩
    obtain ⟨hc_w5, hf_w5⟩ := bcell hb5
    have hz_w5 := hb5.size
    try simp at hz_w5
    have hB_w5 : Below w.heap.size w w5 := bthen (by go_grown) hb5
    have hz_w5_w_0 : w.heap.size < w5.heap.size := by omega
    have hz_w5_w4_0 : w4.heap.size < w5.heap.size := by omega
    rw [HK.out]
    have hx5 := (hx4.keep ((Below.refl _ _).alloc (Nat.le_refl _) (.cells #[.slice (some ⟨p1, 0, none⟩) n1 n1, .slice (some ⟨p2, 0, none⟩) n2 n2, .slice (some ⟨p3, 0, none⟩) n3 n3] 27))).keep hb5
    clear hx4
    go_wp2
    have y0 : w5.cell? ⟨w.heap.size, 0, none⟩ = some (.slice A1 n1 c1) := by simp [go_sem, *]
    have y1 : w5.cell? ⟨w.heap.size, 1, none⟩ = some (.slice A2 n2 c2) := by simp [go_sem, *]
    have y2 : w5.cell? ⟨w.heap.size, 2, none⟩ = some (.slice A3 n3 c3) := by simp [go_sem, *]
    have y3 : w5.cell? ⟨w4.heap.size, 0, none⟩ = some (.slice (some ⟨p1, 0, none⟩) n1 n1) := by simp [go_sem, *]
    have y4 : w5.cell? ⟨w4.heap.size, 1, none⟩ = some (.slice (some ⟨p2, 0, none⟩) n2 n2) := by simp [go_sem, *]
    have y5 : w5.cell? ⟨w4.heap.size, 2, none⟩ = some (.slice (some ⟨p3, 0, none⟩) n3 n3) := by simp [go_sem, *]
    go_region_held3 (fun w' => w'.cell? ⟨w.heap.size, 0, none⟩ = some (.slice A1 n1 c1) ∧ w'.cell? ⟨w.heap.size, 1, none⟩ = some (.slice A2 n2 c2) ∧ w'.cell? ⟨w.heap.size, 2, none⟩ = some (.slice A3 n3 c3) ∧ w'.cell? ⟨w4.heap.size, 0, none⟩ = some (.slice (some ⟨p1, 0, none⟩) n1 n1) ∧ w'.cell? ⟨w4.heap.size, 1, none⟩ = some (.slice (some ⟨p2, 0, none⟩) n2 n2) ∧ w'.cell? ⟨w4.heap.size, 2, none⟩ = some (.slice (some ⟨p3, 0, none⟩) n3 n3) ∧ BtAt w' (some ⟨p1, 0, none⟩) n1 f1 (some ⟨p2, 0, none⟩) n2 f2 (some ⟨p3, 0, none⟩) n3 f3 ∧ Below w.heap.size w w') (first | (have hh := ‹_ ∧ _›; exact ⟨keep_cell hbw hh.1, keep_cell hbw hh.2.1, keep_cell hbw hh.2.2.1, keep_cell hbw hh.2.2.2.1, keep_cell hbw hh.2.2.2.2.1, keep_cell hbw hh.2.2.2.2.2.1, hh.2.2.2.2.2.2.1.keep hbw, bthen hh.2.2.2.2.2.2.2 hbw⟩) | (have hh := ‹_ ∧ _›; exact ⟨hh.1, hh.2.1, hh.2.2.1, hh.2.2.2.1, hh.2.2.2.2.1, hh.2.2.2.2.2.1, hh.2.2.2.2.2.2.1.drew, hh.2.2.2.2.2.2.2.drew⟩) | exact ⟨y0, y1, y2, y3, y4, y5, hx5.drew, hB_w5.drew⟩) (first | (go_at_call 32; refine (toBeat_any _ _ _ f1 _ _ _ f2 _ _ _ f3 _ (h.keep (by have hh := ‹_ ∧ _›; exact hh.2.2.2.2.2.2.2)) m1 m2 m3).mono ?_; rintro e w6 ⟨q1, q2, q3, rfl, ho6, hbw⟩) | (go_at_call 34; refine (eqBeat_same _ _ _ f1 _ _ _ f2 _ _ _ f3 _ _ _ _ _ _ _ (by have hh := ‹_ ∧ _›; exact hh.2.2.2.2.2.2.1) (by first | exact ho6.at_ | exact ho6.at_.drew) (by omega) (by omega) (by omega)).mono ?_; rintro e w7 ⟨rfl, hbw⟩))
    have hbr := (by have hh := ‹_ ∧ _›; exact hh.2.2.2.2.2.2.2 : Below w.heap.size w _)
    go_wp2
    go_returns
    exact ⟨rfl, hbr⟩
  · have HR := Lib.hid (szR_no (Int.not_le.1 hsz))
    go_enter Try.func5, Try.ntmps5
    go_wp2_with fail
    refine (szBeat_any _ _ _ _ _ _ _ _ _ _ _ h1 h2 h3 (by omega) (by omega)).mono ?_
    rintro e w1 ⟨rfl, hb1⟩
    obtain ⟨hc_w1, hf_w1⟩ := bcell hb1
    have hz_w1 := hb1.size
    try simp at hz_w1
    have hB_w1 : Below w.heap.size w w1 := bthen (by go_grown) hb1
    have hz_w1_w_0 : w.heap.size < w1.heap.size := by omega
    rw [HR.out]
    go_wp2
    go_returns
    exact ⟨rfl, hB_w1⟩

theorem fnExactBeatOk_shape {H : Type} {enc : TypeId × Value → H} {W : World} {args : Array Value} {ds : List (DataW H)} {p : List MemPlace}
    (hA : DataW.TrodAll enc Try.prog W 0 (fun _ => true) true Try.f5.params.toList args.toList ds p) : ∃ x0, ds = [x0] := by
  obtain ⟨v0, d0, rfl, rfl, h0⟩ := trodAll_one hA
  exact ⟨_, rfl⟩

set_option maxRecDepth 100000 in
theorem fnExactBeatOk_contract {H : Type} {enc : TypeId × Value → H} (W : World) (base : Nat) (args : Array Value) (ds : List (DataW H)) (p : List MemPlace)
    (hval : ∀ (j : Nat) t v, Try.f5.params[j]? = some t → args[j]? = some v → Value.okWide Try.prog W .any base t v)
    (hA : DataW.TrodAll enc Try.prog W 0 (fun _ => true) true Try.f5.params.toList args.toList ds p) :
    Calls Try.prog 5 args W fun e W' => e = .returned (.bool true) ∧ Below W.heap.size W W' := by
  obtain ⟨v0, d0, rfl, rfl, h0⟩ := trodAll_one hA
  obtain ⟨A1_0, n1_0, c1_0, f1_0, A2_0, n2_0, c2_0, f2_0, A3_0, n3_0, c3_0, f3_0, rfl, hr0, ha0, hb0, hc0⟩ := open_beat (hval 0 44 v0 rfl rfl) h0
  exact fnExactBeatOk_any _ _ _ _ _ _ _ _ _ _ _ _ W hr0 ha0 hb0 hc0

set_option maxRecDepth 100000 in
theorem fnExactBeatOk_lifted (os : Os) (started : os.Started) (H : Type) (enc : TypeId × Value → H) :
    ReturnsInHanded {} Try.checked os 5 .any (Rows.fnExactBeatOkSpec.pre6 enc Try.prog Try.f5 Rows.fnExactBeatOkRow.domain false) (Rows.fnExactBeatOkSpec.post enc Try.prog Try.f5 false true false false) := by
  refine returnsInHanded_of_change (C := Try.checked) Try.own started (by kernel_rfl) Try.func5
    (ChangeSpec.witness6 (enc := enc) (C := Try.checked) false ⟨#[], #[.agg #[.slice none 0 0, .slice none 0 0, .slice none 0 0]], []⟩ 8 (by kernel_rfl) (by kernel_rfl) (by kernel_rfl) (by kernel_rfl)) ?_
  intro W base args ds gs before hval0 hW _ _
  have hval : ∀ (j : Nat) t v, Try.f5.params[j]? = some t → args[j]? = some v → Value.okWide Try.prog W .any base t v := hval0
  have hW' := hW
  obtain ⟨p, q, hA0, hV, rfl, hfz, hnd⟩ := hW
  have hA : DataW.TrodAll enc Try.prog W 0 (fun _ => true) true Try.f5.params.toList args.toList ds p := hA0
  refine (fnExactBeatOk_contract W base args ds p hval hA).mono fun e W' ⟨he, hb⟩ => ?_
  subst he
  have hds := fnExactBeatOk_shape hA
  obtain ⟨hgs, _⟩ := trodVars_none hV
  subst hgs
  refine ⟨_, rfl, law_post (P := Try.prog) Try.laidOut (of_decide_eq_true (by kernel_rfl)) (by kernel_rfl) Try.underlying4 hW' rfl ?_ ?_ ?_ hb⟩
  all_goals (obtain ⟨x0, rfl⟩ := hds; rfl)

theorem fnExactBeatOk_holds : Rows.FnExactBeatOkSaid :=
  OpenClaim.holds_of_wide 5 Try.f5 rfl rfl rfl rfl rfl rfl rfl ⟨rfl, rfl, rfl, rfl, rfl⟩ rfl rfl rfl rfl rfl (by kernel_rfl) Try.func5 (by kernel_rfl)
    (of_decide_eq_true (by kernel_rfl)) (by unfold Func.isWrapper; first | (rw [if_pos (by decide +kernel)]; kernel_rfl) | (rw [if_neg (by decide +kernel)]; exact ⟨rfl, rfl⟩))
    (fun os started H enc _ => fnExactBeatOk_lifted os started H enc)
end Go.Proofs.Ytjhkeknbbeckgaa
