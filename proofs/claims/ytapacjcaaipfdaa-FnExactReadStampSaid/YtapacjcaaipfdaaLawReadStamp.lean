/- The law FnExactReadStamp holds: for all arguments the program's ReadStamp answers what the reference's answers. Conditions: none. -/
import Derived.Test.YtapacjcaaipfdaaLawStamps
import Derived.Test.YtapacjcaaipfdaaShowStamp
namespace Go.Proofs.Ytapacjcaaipfdaa
open Go.ChangeShapes Go.WideShapes Go.ChangeAt Go.RowKit Go.Joins

theorem fnExactReadStamp_any (s : ByteArray) (hs : s.size ≤ 9223372036854775807) (w : World) :
    Calls Try.prog 10 #[.string s] w fun e w' => e = .returned (.bool true) ∧ Below w.heap.size w w' := by
  obtain ⟨⟨⟨p, q, r⟩, ok⟩, hnow⟩ : ∃ t, readStamp s = t := ⟨_, rfl⟩
  have hI := fun w' => readStamp_impl s w' hs
  have hS := readStamp_spec s
  rw [hnow] at hI hS
  simp only [stampV] at hI hS
  have HI := Lib.hid hI; have HS := Lib.hid hS; clear hI hS hnow
  by_cases hbig : 1048576 < s.size
  · go_enter Try.func10, Try.ntmps10
    go_wp2
    go_returns
    exact ⟨rfl, Below.refl _ _⟩
  · go_enter Try.func10, Try.ntmps10
    go_wp2_with fail
    refine (HS.out _).mono ?_
    rintro e w1 ⟨rfl, hb1⟩
    obtain ⟨hc_w1, hf_w1⟩ := bcell hb1
    have hz_w1 := hb1.size
    try simp at hz_w1
    have hB_w1 : Below w.heap.size w w1 := bthen (by go_grown) hb1
    go_wp2_with fail
    refine (HI.out _).mono ?_
    rintro e w2 ⟨rfl, hb2⟩
    obtain ⟨hc_w2, hf_w2⟩ := bcell hb2
    have hz_w2 := hb2.size
    try simp at hz_w2
    have hB_w2 : Below w.heap.size w w2 := bthen (by go_grown) hb2
    have hz_w2_w1_0 : w1.heap.size < w2.heap.size := by omega
    go_wp2_with fail
    refine (eqStamp_any p q r p q r _).mono ?_
    rintro e w3 ⟨rfl, hb3⟩
    obtain ⟨hc_w3, hf_w3⟩ := bcell hb3
    have hz_w3 := hb3.size
    try simp at hz_w3
    have hB_w3 : Below w.heap.size w w3 := bthen (by go_grown) hb3
    have hz_w3_w1_0 : w1.heap.size < w3.heap.size := by omega
    go_wp2
    all_goals go_returns
    exact ⟨rfl, hB_w3⟩

theorem fnExactReadStamp_shape {H : Type} {enc : TypeId × Value → H} {W : World} {args : Array Value} {ds : List (DataW H)} {p : List MemPlace}
    (hA : DataW.TrodAll enc Try.prog W 0 (fun _ => true) true Try.f10.params.toList args.toList ds p) : ∃ x0, ds = [x0] := by
  obtain ⟨v0, d0, rfl, rfl, h0⟩ := trodAll_one hA
  exact ⟨_, rfl⟩

theorem fnExactReadStamp_contract {H : Type} {enc : TypeId × Value → H} (W : World) (base : Nat) (args : Array Value) (ds : List (DataW H)) (p : List MemPlace)
    (hval : ∀ (j : Nat) t v, Try.f10.params[j]? = some t → args[j]? = some v → Value.okWide Try.prog W .any base t v)
    (hA : DataW.TrodAll enc Try.prog W 0 (fun _ => true) true Try.f10.params.toList args.toList ds p) :
    Calls Try.prog 10 args W fun e W' => e = .returned (.bool true) ∧ Below W.heap.size W W' := by
  obtain ⟨v0, d0, rfl, rfl, h0⟩ := trodAll_one hA
  obtain ⟨s0, rfl, _, _, hs0⟩ := Go.ChangeMaps.open_string Try.underlying9 (hval 0 9 v0 rfl rfl) h0
  exact fnExactReadStamp_any s0 (by simpa [maxLen] using hs0) W

set_option maxRecDepth 100000 in
theorem fnExactReadStamp_lifted (os : Os) (started : os.Started) (H : Type) (enc : TypeId × Value → H) :
    ReturnsInHanded {} Try.checked os 10 .any (Rows.fnExactReadStampSpec.pre6 enc Try.prog Try.f10 Rows.fnExactReadStampRow.domain false) (Rows.fnExactReadStampSpec.post enc Try.prog Try.f10 false true false false) := by
  refine returnsInHanded_of_change (C := Try.checked) Try.own started (by kernel_rfl) Try.func10
    (ChangeSpec.witness6 (enc := enc) (C := Try.checked) false ⟨#[], #[.string .empty], []⟩ 8 (by kernel_rfl) (by kernel_rfl) (by kernel_rfl) (by kernel_rfl)) ?_
  intro W base args ds gs before hval0 hW _ _
  have hval : ∀ (j : Nat) t v, Try.f10.params[j]? = some t → args[j]? = some v → Value.okWide Try.prog W .any base t v := hval0
  have hW' := hW
  obtain ⟨p, q, hA0, hV, rfl, hfz, hnd⟩ := hW
  have hA : DataW.TrodAll enc Try.prog W 0 (fun _ => true) true Try.f10.params.toList args.toList ds p := hA0
  refine (fnExactReadStamp_contract W base args ds p hval hA).mono fun e W' ⟨he, hb⟩ => ?_
  subst he
  have hds := fnExactReadStamp_shape hA
  obtain ⟨hgs, _⟩ := trodVars_none hV
  subst hgs
  refine ⟨_, rfl, law_post (P := Try.prog) Try.laidOut (of_decide_eq_true (by kernel_rfl)) (by kernel_rfl) Try.underlying4 hW' rfl ?_ ?_ ?_ hb⟩
  all_goals (obtain ⟨x0, rfl⟩ := hds; rfl)

theorem fnExactReadStamp_holds : Rows.FnExactReadStampSaid :=
  OpenClaim.holds_of_wide 10 Try.f10 rfl rfl rfl rfl rfl rfl rfl ⟨rfl, rfl, rfl, rfl, rfl⟩ rfl rfl rfl rfl rfl (by kernel_rfl) Try.func10 (by kernel_rfl)
    (of_decide_eq_true (by kernel_rfl)) (by unfold Func.isWrapper; first | (rw [if_pos (by decide +kernel)]; kernel_rfl) | (rw [if_neg (by decide +kernel)]; exact ⟨rfl, rfl⟩))
    (fun os started H enc _ => fnExactReadStamp_lifted os started H enc)
end Go.Proofs.Ytapacjcaaipfdaa
