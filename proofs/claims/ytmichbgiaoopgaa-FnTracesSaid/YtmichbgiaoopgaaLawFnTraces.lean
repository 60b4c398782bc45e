/- The law FnTraces holds: doubles are told as by the reference; a gap is nobody's number and below the last one; the rest as by the reference. Conditions: none. -/
import Derived.Test.YtmichbgiaoopgaaTracesLaw
import Derived.Test.YtmichbgiaoopgaaDrawEv
import Derived.Test.YtmichbgiaoopgaaDoublesS
import Derived.Test.YtmichbgiaoopgaaGapsI
import Derived.Test.YtmichbgiaoopgaaGapsS
import Derived.Test.YtmichbgiaoopgaaLastOfS
import Derived.Test.YtmichbgiaoopgaaClientsW
namespace Go.Proofs.Ytmichbgiaoopgaa
open Go.ChangeShapes Go.WideShapes Go.ChangeAt Go.RowKit Go.Joins
attribute [local irreducible] EvsAt IntsAt

theorem sameInts_same (A A' : Option Addr) (n c c' : Nat) (l : List Int) (w : World) (h : IntsAt w A n l) (h' : IntsAt w A' n l) (hn : n ≤ 16777216) :
    Calls Try.prog 52 #[.slice A n c, .slice A' n c'] w fun e w' => e = .returned (.bool true) ∧ Below w.heap.size w w' := by
  unfold IntsAt at h h'
  go_enter Try.func52, Try.ntmps52
  go_wp2
  go_loopw [5] (fun i wr => ∃ (k : Nat), k ≤ n ∧ i = .int .i64 k ∧ Below w.heap.size w wr) (fun i _ => n - (intOf i).toNat)
  case atStart => exact ⟨0, Nat.zero_le _, rfl, Below.refl _ _⟩
  case round =>
    obtain ⟨k, hk, rfl, hb⟩ := hrel
    by_cases hlt : k < n
    · obtain ⟨b, off, rfl, hbl, hc⟩ := h.2 (by omega)
      have hck := (hb.cell (p := ⟨b, off + k, none⟩) hbl).trans (hc k hlt)
      clear hc
      obtain ⟨b', off', rfl, hbl', hc'⟩ := h'.2 (by omega)
      have hck' := (hb.cell (p := ⟨b', off' + k, none⟩) hbl').trans (hc' k hlt)
      clear hc'
      unfold intV at hck hck'
      go_wp2
      go_quiet (fail)
      go_wp2
      exact ⟨⟨k + 1, by omega, by go_num, below_drewN hb _⟩, by simp [intOf]; omega⟩
    · go_wp2
      go_returns
      exact ⟨rfl, hb⟩

set_option maxRecDepth 20000 in
set_option maxHeartbeats 4000000 in
theorem fnTraces_any (A : Option Addr) (n c : Nat) (f : Nat → Int) (w : World) (h : CodeAt w A n f) (hn : n ≤ 9223372036854775807) :
    Calls Try.prog 10 #[.slice A n c] w fun e w' => e = .returned (.bool true) ∧ Below w.heap.size w w' := by
  by_cases hbig : (n : Int) > 1048576
  · have hd : decide ((n : Int) > 1048576) = true := by simpa using hbig
    go_enter Try.func10, Try.ntmps10
    go_wp2_with fail
    refine (big_any _ _ _ _).mono ?_
    rintro e w1 ⟨rfl, rfl⟩
    rw [hd]
    go_wp2
    go_returns
    exact ⟨rfl, Below.refl _ _⟩
  · have hd : decide ((n : Int) > 1048576) = false := by simpa using hbig
    have hn2 : n ≤ 1048576 := by omega
    go_enter Try.func10, Try.ntmps10
    go_wp2_with fail
    refine (big_any _ _ _ _).mono ?_
    rintro e w1 ⟨rfl, rfl⟩
    rw [hd]
    go_wp2_with fail
    refine (drawDoubles_any _ _ _ _ _ h hn2).mono ?_
    rintro e w1 ⟨A1, n1, c1, l, rfl, hl1, hn1, hsm1, hb1⟩
    have hs1 : evsSz l ≤ 1048576 := by have := hsm1.sz; have := hl1.len; omega
    have H1 := h.keep hb1
    go_wp2_with fail
    refine (doubles_impl _ _ _ l _ _ _ hl1 hs1).mono ?_
    rintro e w2 ⟨A2, n2, c2, rfl, hl2, hb2⟩
    have hb2w := bthen hb1 hb2
    have hl1b := hl1.keep hb2
    go_wp2_with fail
    refine (doubles_spec _ _ _ l _ _ _ hl1b hs1).mono ?_
    rintro e w3 ⟨A3, n3, c3, rfl, hl3, hb3⟩
    have hb3w := bthen hb2w hb3
    have D2 := (hl2.keep hb3).at_
    have D3 := hl3.at_
    have L3 := (hl1b.keep hb3).at_
    have hnn := Lib.hid (show n2 = n3 by rw [hl2.len, hl3.len])
    have hn2b : n2 ≤ 1048576 := by have h1 := doubles_sz l (by omega); have := evs_n D2 h1; omega
    clear hl1 hl2 hl3 hl1b
    obtain rfl : n2 = n3 := hnn.out
    go_wp2
    go_loopw [6] (fun i wr => ∃ (k : Nat), k ≤ n2 ∧ i = .int .i64 k ∧ Below w3.heap.size w3 wr) (fun i _ => n2 - (intOf i).toNat)
    case atStart => exact ⟨0, Nat.zero_le _, rfl, Below.refl _ _⟩
    case round =>
      obtain ⟨k, hk, rfl, hb⟩ := hrel
      by_cases hlt : k < n2
      · unfold EvsAt at D2 D3
        obtain ⟨b, off, rfl, hbl, hc⟩ := D2.2 (by omega)
        have hc0 := (hb.cell (p := ⟨b, off + k * 4, none⟩) hbl).trans (hc k hlt).1
        have hc1 := (hb.cell (p := ⟨b, off + k * 4 + 1, none⟩) hbl).trans (hc k hlt).2.1
        have hc2 := (hb.cell (p := ⟨b, off + k * 4 + 2, none⟩) hbl).trans (hc k hlt).2.2.1
        have hc3 := (hb.cell (p := ⟨b, off + k * 4 + 3, none⟩) hbl).trans (hc k hlt).2.2.2
        obtain ⟨b', off', rfl, hbl', hc'⟩ := D3.2 (by omega)
        have hd0 := (hb.cell (p := ⟨b', off' + k * 4, none⟩) hbl').trans (hc' k hlt).1
        have hd1 := (hb.cell (p := ⟨b', off' + k * 4 + 1, none⟩) hbl').trans (hc' k hlt).2.1
        have hd2 := (hb.cell (p := ⟨b', off' + k * 4 + 2, none⟩) hbl').trans (hc' k hlt).2.2.1
        have hd3 := (hb.cell (p := ⟨b', off' + k * 4 + 3, none⟩) hbl').trans (hc' k hlt).2.2.2
        clear hc hc' D2 D3
        go_wp2
        go_quiet (fail)
        go_wp2
        exact ⟨⟨k + 1, by omega, by go_num, below_drewN hb _⟩, by simp [intOf]; omega⟩
      · clear D2 D3
        have hbw := bthen hb3w hb
        have L3 := L3.keep hb
        have H4 := h.keep hbw
        have hn1b := hn1
        clear H1
        go_wp2_with fail
        refine (drawGaps_any _ _ _ _ _ H4 hn2).mono ?_
        rintro e w4 ⟨A4, n4, c4, m, x, rfl, hm4, hn4, hsm4, hb4⟩
        have hs4 : evsSz m ≤ 1048576 := by have := hsm4.sz; have := hm4.len; omega
        have hb4w := bthen hbw hb4
        have L4 := L3.keep hb4
        have M4 := hm4.at_
        clear hm4 L3 H4
        go_wp2_with fail
        refine (gaps_impl _ _ _ m x _ M4 hs4).mono ?_
        rintro e w5 ⟨A5, n5, c5, rfl, hg5, hb5⟩
        have hb5w := bthen hb4w hb5
        have L5 := L4.keep hb5
        have M5 := M4.keep hb5
        have G5 := hg5.at_
        have hgl := Lib.hid (show n5 = (gaps m x).length from hg5.len)
        have hgs : n5 ≤ 1048576 := by have := gaps_sz m x; unfold intsSz at this; rw [hgl.out]; exact this
        clear L4 M4 hg5
        go_wp2_with fail
        refine (lastOf_impl _ _ _ m x _ M5 (by omega)).mono ?_
        rintro e w6 ⟨rfl, hb6⟩
        have hb6w := bthen hb5w hb6
        have L6 := L5.keep hb6
        have M6 := M5.keep hb6
        have G6 := G5.keep hb6
        clear L5 M5 G5
        obtain ⟨isS, his⟩ : ∃ b, (lastOf m x).isSome = b := ⟨_, rfl⟩
        have HIS := Lib.hid his
        obtain ⟨be, hbe⟩ : ∃ b, bestOf m (lastOf m x) = b := ⟨_, rfl⟩
        have HBE := Lib.hid hbe
        rw [his, hbe]
        clear his hbe
        unfold evV
        go_wp2
        have hX : EvBox (w6.alloc (.cells #[.int .i64 be.t, .int .i64 be.c, .int .i64 be.n, .string be.x] 63)) w6.heap.size be := EvBox.new w6 _ be
        have alX := (Below.refl w6.heap.size w6).alloc (Nat.le_refl _) (.cells #[.int .i64 be.t, .int .i64 be.c, .int .i64 be.n, .string be.x] 63)
        obtain ⟨w7, hw7⟩ : ∃ w7, w7 = w6.alloc (.cells #[.int .i64 be.t, .int .i64 be.c, .int .i64 be.n, .string be.x] 63) := ⟨_, rfl⟩
        rw [← hw7] at hX alX ⊢
        clear hw7
        have hb7w := bthen hb6w alX
        have L7 := L6.keep alX
        have M7 := M6.keep alX
        have G7 := G6.keep alX
        have hXc := hX.1.2.2.1
        clear L6 M6 G6
        go_loopw [12] (fun i wr => ∃ (k : Nat), k ≤ n5 ∧ i = .int .i64 k ∧ Below w7.heap.size w7 wr) (fun i _ => n5 - (intOf i).toNat)
        case atStart => exact ⟨0, Nat.zero_le _, rfl, Below.refl _ _⟩
        case round =>
          obtain ⟨q, hq, rfl, hb⟩ := hrel
          by_cases hlt : q < n5
          · have G7b := G7
            unfold IntsAt at G7b
            obtain ⟨bg, og, rfl, hbg, hcg⟩ := G7b.2 (by omega)
            have hgc := (hb.cell (p := ⟨bg, og + q, none⟩) hbg).trans (hcg q hlt)
            unfold intV at hgc
            have hgn := fun k hk => gaps_none (m := m) (c := x) (i := q) (k := k) (by have := hgl.out; omega) hk
            have hgb := gaps_below (m := m) (c := x) (i := q) (by have := hgl.out; omega)
            rw [HIS.out, HBE.out] at hgb
            have HGN := Lib.hid hgn
            generalize iAt (gaps m x) q = gv at *
            clear hcg G7b hgn
            go_wp2
            go_loopw [13] (fun i wr2 => ∃ (t : Nat), t ≤ n4 ∧ i = .int .i64 t ∧ Below wr.heap.size wr wr2) (fun i _ => n4 - (intOf i).toNat)
            case atStart => exact ⟨0, Nat.zero_le _, rfl, Below.refl _ _⟩
            case round =>
              obtain ⟨t, htn, rfl, hb2⟩ := hrel
              have hbb := bthen hb hb2
              by_cases hlt2 : t < n4
              · have M7b := M7
                unfold EvsAt at M7b
                have hml := Lib.hid M7b.1
                obtain ⟨bm, om, rfl, hbm, hcm⟩ := M7b.2 (by omega)
                have hm1 := (hbb.cell (p := ⟨bm, om + t * 4 + 1, none⟩) hbm).trans (hcm t hlt2).2.1
                have hm2 := (hbb.cell (p := ⟨bm, om + t * 4 + 2, none⟩) hbm).trans (hcm t hlt2).2.2.1
                have hgc2 := keep_cell hb2 hgc
                clear hcm M7b
                by_cases hcl : (eAt m t).c = x
                · have hdc : ((eAt m t).c == x) = true := by simpa using hcl
                  have hne := HGN.out t (by have := hml.out; omega) hcl
                  have hdn : ((eAt m t).n == gv) = false := by simpa using hne
                  go_wp2
                  go_quiet (fail)
                  go_wp2
                  exact ⟨⟨t + 1, by omega, by go_num, below_drewN hb2 _⟩, by simp [intOf]; omega⟩
                · have hdc : ((eAt m t).c == x) = false := by simpa using hcl
                  go_wp2
                  go_quiet (fail)
                  go_wp2
                  exact ⟨⟨t + 1, by omega, by go_num, below_drewN hb2 _⟩, by simp [intOf]; omega⟩
              · have hgc2 := keep_cell hb2 hgc
                have hxc2 := keep_cell hbb hXc
                cases isS
                · go_wp2
                  go_quiet (fail)
                  go_wp2
                  exact ⟨⟨q + 1, by omega, by go_num, below_drewN hbb _⟩, by simp [intOf]; omega⟩
                · have hlt3 := hgb rfl
                  have hdg : decide (be.n ≤ gv) = false := by simp; omega
                  go_wp2
                  go_quiet (fail)
                  go_wp2
                  exact ⟨⟨q + 1, by omega, by go_num, below_drewN hbb _⟩, by simp [intOf]; omega⟩
          · have hb8w := bthen hb7w hb
            have L8 := L7.keep hb
            have M8 := M7.keep hb
            have G8 := G7.keep hb
            clear L7 M7 G7 hX hXc
            go_wp2_with fail
            refine (lastOf_spec _ _ _ m x _ M8 (by omega)).mono ?_
            rintro e w9 ⟨rfl, hb9⟩
            rw [HIS.out, HBE.out]
            unfold evV
            have hb9w := bthen hb8w hb9
            have L9 := L8.keep hb9
            have M9 := M8.keep hb9
            have G9 := G8.keep hb9
            clear L8 M8 G8
            have alY := (Below.refl w9.heap.size w9).alloc (Nat.le_refl _) (.cells #[.int .i64 be.t, .int .i64 be.c, .int .i64 be.n, .string be.x] 63)
            have hbYw := bthen hb9w alY
            have L10 := L9.keep alY
            have M10 := M9.keep alY
            have G10 := G9.keep alY
            clear L9 M9 G9
            go_wp2_with fail
            refine (clients_impl _ _ _ l _ L10 hs1).mono ?_
            rintro e w11 ⟨A11, n11, c11, rfl, hc11, hb11⟩
            have hb11w := bthen hbYw hb11
            have L11 := L10.keep hb11
            have M11 := M10.keep hb11
            have G11 := G10.keep hb11
            have C11 := hc11.at_
            have hcl := Lib.hid (show n11 = (clients l).length from hc11.len)
            clear L10 M10 G10 hc11
            have hcs : n11 ≤ 1048576 := by have := clients_sz l; unfold intsSz at this; rw [hcl.out]; exact this
            go_wp2_with fail
            refine (gaps_spec _ _ _ m x _ M11 hs4).mono ?_
            rintro e w12 ⟨A12, n12, c12, rfl, hg12, hb12⟩
            have hb12w := bthen hb11w hb12
            have L12 := L11.keep hb12
            have G12 := G11.keep hb12
            have C12 := C11.keep hb12
            have K12 := hg12.at_
            have hkl := Lib.hid (show n5 = n12 by rw [hg12.len, hgl.out])
            clear L11 M11 G11 C11 hg12
            obtain rfl := hkl.out
            go_wp2_with fail
            refine (sameInts_same _ _ _ _ _ _ _ G12 K12 (by omega)).mono ?_
            rintro e w13 ⟨rfl, hb13⟩
            have hb13w := bthen hb12w hb13
            have L13 := L12.keep hb13
            have C13 := C12.keep hb13
            clear L12 C12 G12 K12
            go_wp2_with fail
            refine (clients_spec _ _ _ l _ L13 hs1).mono ?_
            rintro e w14 ⟨A14, n14, c14, rfl, hg14, hb14⟩
            have hb14w := bthen hb13w hb14
            have L14 := L13.keep hb14
            have C14 := C13.keep hb14
            have K14 := hg14.at_
            have hkl2 := Lib.hid (show n11 = n14 by rw [hg14.len, hcl.out])
            clear L13 C13 hg14
            obtain rfl := hkl2.out
            go_wp2_with fail
            refine (sameInts_same _ _ _ _ _ _ _ C14 K14 (by omega)).mono ?_
            rintro e w15 ⟨rfl, hb15⟩
            have hb15w := bthen hb14w hb15
            have L15 := L14.keep hb15
            clear L14 C14 K14
            go_wp2_with fail
            refine (eventsOk_impl _ _ _ l _ L15 (by omega)).mono ?_
            rintro e w16 ⟨rfl, hb16⟩
            have hb16w := bthen hb15w hb16
            have L16 := L15.keep hb16
            clear L15
            go_wp2_with fail
            refine (eventsOk_spec _ _ _ l _ L16 (by omega)).mono ?_
            rintro e w17 ⟨rfl, hb17⟩
            go_wp2
            go_returns
            exact ⟨by simp, bthen hb16w hb17⟩

theorem fnTraces_shape {H : Type} {enc : TypeId × Value → H} {W : World} {args : Array Value} {ds : List (DataW H)} {p : List MemPlace}
    (hA : DataW.TrodAll enc Try.prog W 0 (fun _ => true) true Try.f10.params.toList args.toList ds p) : ∃ x0, ds = [x0] := by
  obtain ⟨v0, d0, rfl, rfl, h0⟩ := trodAll_one hA
  exact ⟨_, rfl⟩

set_option maxRecDepth 100000 in
theorem fnTraces_contract {H : Type} {enc : TypeId × Value → H} (W : World) (base : Nat) (args : Array Value) (ds : List (DataW H)) (p : List MemPlace)
    (hval : ∀ (j : Nat) t v, Try.f10.params[j]? = some t → args[j]? = some v → Value.okWide Try.prog W .any base t v)
    (hA : DataW.TrodAll enc Try.prog W 0 (fun _ => true) true Try.f10.params.toList args.toList ds p) :
    Calls Try.prog 10 args W fun e W' => e = .returned (.bool true) ∧ Below W.heap.size W W' := by
  obtain ⟨v0, d0, rfl, rfl, h0⟩ := trodAll_one hA
  obtain ⟨A0, n0, c0, f0, rfl, hr0, hn0⟩ := open_code (hval 0 49 v0 rfl rfl) h0
  exact fnTraces_any _ _ _ _ W hr0 hn0

set_option maxRecDepth 100000 in
theorem fnTraces_lifted (os : Os) (started : os.Started) (H : Type) (enc : TypeId × Value → H) :
    ReturnsInHanded {} Try.checked os 10 .any (Rows.fnTracesSpec.pre6 enc Try.prog Try.f10 Rows.fnTracesRow.domain false) (Rows.fnTracesSpec.post enc Try.prog Try.f10 false true false false) := by
  refine returnsInHanded_of_change (C := Try.checked) Try.own started (by kernel_rfl) Try.func10
    (ChangeSpec.witness6 (enc := enc) (C := Try.checked) false ⟨#[], #[.slice none 0 0], []⟩ 8 (by kernel_rfl) (by kernel_rfl) (by kernel_rfl) (by kernel_rfl)) ?_
  intro W base args ds gs before hval0 hW _ _
  have hval : ∀ (j : Nat) t v, Try.f10.params[j]? = some t → args[j]? = some v → Value.okWide Try.prog W .any base t v := hval0
  have hW' := hW
  obtain ⟨p, q, hA0, hV, rfl, hfz, hnd⟩ := hW
  have hA : DataW.TrodAll enc Try.prog W 0 (fun _ => true) true Try.f10.params.toList args.toList ds p := hA0
  refine (fnTraces_contract W base args ds p hval hA).mono fun e W' ⟨he, hb⟩ => ?_
  subst he
  have hds := fnTraces_shape hA
  obtain ⟨hgs, _⟩ := trodVars_none hV
  subst hgs
  refine ⟨_, rfl, law_post (P := Try.prog) Try.laidOut (of_decide_eq_true (by kernel_rfl)) (by kernel_rfl) Try.underlying4 hW' rfl ?_ ?_ ?_ hb⟩
  all_goals (obtain ⟨x0, rfl⟩ := hds; rfl)

theorem fnTraces_holds : Rows.FnTracesSaid :=
  OpenClaim.holds_of_wide 10 Try.f10 rfl rfl rfl rfl rfl rfl rfl ⟨rfl, rfl, rfl, rfl, rfl⟩ rfl rfl rfl rfl rfl (by kernel_rfl) Try.func10 (by kernel_rfl)
    (of_decide_eq_true (by kernel_rfl)) (by unfold Func.isWrapper; first | (rw [if_pos (by decide +kernel)]; kernel_rfl) | (rw [if_neg (by decide +kernel)]; exact ⟨rfl, rfl⟩))
    (fun os started H enc _ => fnTraces_lifted os started H enc)
end Go.Proofs.Ytmichbgiaoopgaa
