/- The law FnExactStampNow holds: for all arguments the program's StampNow answers what the reference's answers. Conditions: none. -/
import Derived.Test.YtapacjcaaipfdaaLawStamps
import Derived.Test.YtapacjcaaipfdaaStamps
namespace Go.Proofs.Ytapacjcaaipfdaa
open Go.ChangeShapes Go.WideShapes Go.ChangeAt Go.RowKit Go.Joins

theorem fnExactStampNow_any (a b c wall : Int) (w : World) :
    Calls Try.prog 9 #[.agg #[.int .i64 a, .int .i64 b, .int .i64 c], .int .i64 wall] w fun e w' => e = .returned (.bool true) ∧ Below w.heap.size w w' := by
  obtain ⟨⟨⟨p, q, r⟩, ok⟩, hnow⟩ : ∃ t, stampNow a b c wall = t := ⟨_, rfl⟩
  have hI := stampNow_impl a b c wall
  have hS := stampNow_spec a b c wall
  rw [hnow] at hI hS
  simp only [stampV] at hI hS
  have HI := Lib.hid hI; have HS := Lib.hid hS; clear hI hS hnow
  go_enter Try.func9, Try.ntmps9
  go_wp2_with fail
  refine (toStamp_any a b c _).mono ?_
  rintro e w1 ⟨rfl, hb1⟩
  obtain ⟨hc_w1, hf_w1⟩ := bcell hb1
  have hz_w1 := hb1.size
  try simp at hz_w1
  have hB_w1 : Below w.heap.size w w1 := bthen (by go_grown) hb1
  have hz_w1_w_0 : w.heap.size < w1.heap.size := by omega
  go_wp2_with fail
  refine (HS.out _).mono ?_
  rintro e w2 ⟨rfl, hb2⟩
  obtain ⟨hc_w2, hf_w2⟩ := bcell hb2
  have hz_w2 := hb2.size
  try simp at hz_w2
  have hB_w2 : Below w.heap.size w w2 := bthen (by go_grown) hb2
  have hz_w2_w_0 : w.heap.size < w2.heap.size := by omega
  go_wp2_with fail
  refine (toStamp_any a b c _).mono ?_
  rintro e w3 ⟨rfl, hb3⟩
  obtain ⟨hc_w3, hf_w3⟩ := bcell hb3
  have hz_w3 := hb3.size
  try simp at hz_w3
  have hB_w3 : Below w.heap.size w w3 := bthen (by go_grown) hb3
  have hz_w3_w_0 : w.heap.size < w3.heap.size := by omega
  have hz_w3_w2_0 : w2.heap.size < w3.heap.size := by omega
  go_wp2_with fail
  refine (HI.out _).mono ?_
  rintro e w4 ⟨rfl, hb4⟩
  obtain ⟨hc_w4, hf_w4⟩ := bcell hb4
  have hz_w4 := hb4.size
  try simp at hz_w4
  have hB_w4 : Below w.heap.size w w4 := bthen (by go_grown) hb4
  have hz_w4_w_0 : w.heap.size < w4.heap.size := by omega
  have hz_w4_w2_0 : w2.heap.size < w4.heap.size := by omega
  go_wp2_with fail
  refine (eqStamp_any p q r p q r _).mono ?_
  rintro e w5 ⟨rfl, hb5⟩
  obtain ⟨hc_w5, hf_w5⟩ := bcell hb5
  have hz_w5 := hb5.size
  try simp at hz_w5
  have hB_w5 : Below w.heap.size w w5 := bthen (by go_grown) hb5
  have hz_w5_w_0 : w.heap.size < w5.heap.size := by omega
  have hz_w5_w2_0 : w2.heap.size < w5.heap.size := by omega
  go_wp2
  all_goals go_returns
  exact ⟨rfl, hB_w5⟩

theorem fnExactStampNow_shape {H : Type} {enc : TypeId × Value → H} {W : World} {args : Array Value} {ds : List (DataW H)} {p : List MemPlace}
    (hA : DataW.TrodAll enc Try.prog W 0 (fun _ => true) true Try.f9.params.toList args.toList ds p) : ∃ x0 x1, ds = [x0, x1] := by
  obtain ⟨v0, v1, d0, d1, p0, p1, rfl, rfl, rfl, h0, h1⟩ := trodAll_two hA
  exact ⟨_, _, rfl⟩

theorem fnExactStampNow_contract {H : Type} {enc : TypeId × Value → H} (W : World) (base : Nat) (args : Array Value) (ds : List (DataW H)) (p : List MemPlace)
    (hval : ∀ (j : Nat) t v, Try.f9.params[j]? = some t → args[j]? = some v → Value.okWide Try.prog W .any base t v)
    (hA : DataW.TrodAll enc Try.prog W 0 (fun _ => true) true Try.f9.params.toList args.toList ds p) :
    Calls Try.prog 9 args W fun e W' => e = .returned (.bool true) ∧ Below W.heap.size W W' := by
  obtain ⟨v0, v1, d0, d1, p0, p1, rfl, rfl, rfl, h0, h1⟩ := trodAll_two hA
  obtain ⟨a0, b0, c0, rfl, ha0, hb0, hc0⟩ := open_stamp (hval 0 25 v0 rfl rfl) h0
  obtain ⟨x1, rfl, _, _, wx1⟩ := open_int Try.underlying3 (hval 1 3 v1 rfl rfl) h1
  exact fnExactStampNow_any a0 b0 c0 x1 W

set_option maxRecDepth 100000 in
theorem fnExactStampNow_lifted (os : Os) (started : os.Started) (H : Type) (enc : TypeId × Value → H) :
    ReturnsInHanded {} Try.checked os 9 .any (Rows.fnExactStampNowSpec.pre6 enc Try.prog Try.f9 Rows.fnExactStampNowRow.domain false) (Rows.fnExactStampNowSpec.post enc Try.prog Try.f9 false true false false) := by
  refine returnsInHanded_of_change (C := Try.checked) Try.own started (by kernel_rfl) Try.func9
    (ChangeSpec.witness6 (enc := enc) (C := Try.checked) false ⟨#[], #[.agg #[.int .i64 0, .int .i64 0, .int .i64 0], .int .i64 0], []⟩ 8 (by kernel_rfl) (by kernel_rfl) (by kernel_rfl) (by kernel_rfl)) ?_
  intro W base args ds gs before hval0 hW _ _
  have hval : ∀ (j : Nat) t v, Try.f9.params[j]? = some t → args[j]? = some v → Value.okWide Try.prog W .any base t v := hval0
  have hW' := hW
  obtain ⟨p, q, hA0, hV, rfl, hfz, hnd⟩ := hW
  have hA : DataW.TrodAll enc Try.prog W 0 (fun _ => true) true Try.f9.params.toList args.toList ds p := hA0
  refine (fnExactStampNow_contract W base args ds p hval hA).mono fun e W' ⟨he, hb⟩ => ?_
  subst he
  have hds := fnExactStampNow_shape hA
  obtain ⟨hgs, _⟩ := trodVars_none hV
  subst hgs
  refine ⟨_, rfl, law_post (P := Try.prog) Try.laidOut (of_decide_eq_true (by kernel_rfl)) (by kernel_rfl) Try.underlying4 hW' rfl ?_ ?_ ?_ hb⟩
  all_goals (obtain ⟨x0, x1, rfl⟩ := hds; rfl)

theorem fnExactStampNow_holds : Rows.FnExactStampNowSaid :=
  OpenClaim.holds_of_wide 9 Try.f9 rfl rfl rfl rfl rfl rfl rfl ⟨rfl, rfl, rfl, rfl, rfl⟩ rfl rfl rfl rfl rfl (by kernel_rfl) Try.func9 (by kernel_rfl)
    (of_decide_eq_true (by kernel_rfl)) (by unfold Func.isWrapper; first | (rw [if_pos (by decide +kernel)]; kernel_rfl) | (rw [if_neg (by decide +kernel)]; exact ⟨rfl, rfl⟩))
    (fun os started H enc _ => fnExactStampNow_lifted os started H enc)
end Go.Proofs.Ytapacjcaaipfdaa
