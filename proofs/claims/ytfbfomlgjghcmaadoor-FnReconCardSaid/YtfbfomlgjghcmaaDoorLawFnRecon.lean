/- The law FnRecon holds: equal sets are told by their sums; two sets are merged; what one lacks the other has; the table of SHA-256's keys is tied to the program's text. Conditions: none. -/
import Derived.Test.YtfbfomlgjghcmaaDoorRecon
import Derived.Test.YtfbfomlgjghcmaaDoorReconLaw
import Derived.Test.YtfbfomlgjghcmaaDoorSame
import Derived.Test.YtfbfomlgjghcmaaDoorDrawT
import Derived.Test.YtfbfomlgjghcmaaDoorFrameL
import Derived.Test.YtfbfomlgjghcmaaDoorCards
import Derived.Test.YtfbfomlgjghcmaaDoorTie
import Derived.SevenTiedAt
namespace Go.Proofs.YtfbfomlgjghcmaaDoor
open Go.ChangeShapes Go.WideShapes Go.ChangeAt Go.RowKit Go.Joins
attribute [local irreducible] StrsAt IntsAt setOkB lacks reconL reconN unlL sumsL

theorem small_sz {l : List ByteArray} (h : l.length ≤ 11) (hs : ∀ x ∈ l, x.size ≤ 9) : strsSz l ≤ 200 := by
  have : ∀ l : List ByteArray, (∀ x ∈ l, x.size ≤ 9) → (l.map ByteArray.size).sum ≤ 9 * l.length := by
    intro l
    induction l with
    | nil => simp
    | cons a l ih =>
      intro hs
      have h1 := ih (fun x hx => hs x (List.mem_cons_of_mem _ hx))
      have h2 := hs a (List.mem_cons_self ..)
      simp only [List.map_cons, List.sum_cons, List.length_cons]
      omega
  have := this l hs
  unfold strsSz
  omega

set_option maxRecDepth 20000 in
set_option maxHeartbeats 4000000 in
theorem fnRecon_any (A : Option Addr) (n c : Nat) (f : Nat → Int) (w : World) (hkeys : KeysAt w) (h : CodeAt w A n f) (hn : n ≤ 9223372036854775807) :
    Calls Tryd.prog 6 #[.slice A n c] w fun e w' => e = .returned (.bool true) ∧ Below w.heap.size w w' := by
  by_cases hbig : (n : Int) > 1048576
  · have hd : decide ((n : Int) > 1048576) = true := by simpa using hbig
    go_enter Tryd.func6, Tryd.ntmps6
    go_wp2_with fail
    refine (big_any _ _ _ _).mono ?_
    rintro e w1 ⟨rfl, rfl⟩
    rw [hd]
    go_wp2
    go_returns
    exact ⟨rfl, Below.refl _ _⟩
  · have hd : decide ((n : Int) > 1048576) = false := by simpa using hbig
    have hn2 : n ≤ 1048576 := by omega
    go_enter Tryd.func6, Tryd.ntmps6
    go_wp2_with fail
    refine (big_any _ _ _ _).mono ?_
    rintro e w1 ⟨rfl, rfl⟩
    rw [hd]
    go_wp2_with fail
    refine (drawRecon_any _ _ _ _ _ h hn2).mono ?_
    rintro e w1 ⟨_, _, A0, n0, c0, a, A1, n1, c1, b, rfl, ra, rb, hla, hlb, hsa, hsb, hB1⟩
    have za := small_sz hla hsa
    have zb := small_sz hlb hsb
    have na0 := ra.nilcap
    have nb0 := rb.nilcap
    have fa0 := ra.at_
    have fb0 := rb.at_
    have hna : n0 ≤ 11 := by have := strsLen fa0; omega
    have hnb : n1 ≤ 11 := by have := strsLen fb0; omega
    have zr := reconL_sz a b (m := 400) (by omega)
    clear ra rb hsa hsb hla hlb
    go_wp2_with fail
    refine (recon_impl _ _ _ _ _ _ _ _ _ fa0 fb0 na0 nb0 (by omega) (by omega) (hkeys.keep hB1)).mono ?_
    rintro e w2 ⟨Ax, nx, cx, rfl, rx, hb2⟩
    have fa2 := fa0.keep hb2
    have fb2 := fb0.keep hb2
    clear fa0 fb0
    have hB2 := bthen hB1 hb2
    have nx0 := rx.nilcap
    have fx0 := rx.at_
    clear rx
    go_wp2_with fail
    refine (recon_spec _ _ _ _ _ _ _ _ _ fa2 fb2 (by omega) (by omega)).mono ?_
    rintro e w3 ⟨Ay, ny, cy, rfl, ry, hb3⟩
    have fa3 := fa2.keep hb3
    have fb3 := fb2.keep hb3
    have fx3 := fx0.keep hb3
    clear fa2 fb2 fx0
    have hB3 := bthen hB2 hb3
    have fy0 := ry.at_
    clear ry
    have hnx : nx ≤ 400 := strs_n fx3 zr
    have HNX := Lib.hid (strsLen fx3)
    have HNA := Lib.hid (strsLen fa3)
    go_wp2_with fail
    refine (sameTexts_yes _ _ _ _ _ _ _ _ fx3 fy0 (by omega)).mono ?_
    rintro e w4 ⟨rfl, hb4⟩
    have fa4 := fa3.keep hb4
    have fb4 := fb3.keep hb4
    have fx4 := fx3.keep hb4
    have fy4 := fy0.keep hb4
    clear fa3 fb3 fx3 fy0
    have hB4 := bthen hB3 hb4
    go_wp2_with fail
    refine (unlike_impl _ _ _ _ _ _ _ _ _ fa4 fb4 (by omega) (by omega) (hkeys.keep hB4)).mono ?_
    rintro e w5 ⟨Au, nu, cu, rfl, ru, hb5⟩
    have fa5 := fa4.keep hb5
    have fb5 := fb4.keep hb5
    have fx5 := fx4.keep hb5
    have fy5 := fy4.keep hb5
    clear fa4 fb4 fx4 fy4
    have hB5 := bthen hB4 hb5
    have fu0 := ru.at_
    clear ru
    go_wp2_with fail
    refine (unlike_spec _ _ _ _ _ _ _ _ _ fa5 fb5 (by omega) (by omega)).mono ?_
    rintro e w6 ⟨Av, nv, cv, rfl, rv, hb6⟩
    have fa6 := fa5.keep hb6
    have fb6 := fb5.keep hb6
    have fx6 := fx5.keep hb6
    have fy6 := fy5.keep hb6
    have fu6 := fu0.keep hb6
    clear fa5 fb5 fx5 fy5 fu0
    have hB6 := bthen hB5 hb6
    have fv0 := rv.at_
    clear rv
    have hnu : nu ≤ 1048576 := ints_n fu6 (unlL_sz _ _)
    go_wp2_with fail
    refine (sameInts_yes _ _ _ _ _ _ _ _ fu6 fv0 (by omega)).mono ?_
    rintro e w7 ⟨rfl, hb7⟩
    have fa7 := fa6.keep hb7
    have fb7 := fb6.keep hb7
    have fx7 := fx6.keep hb7
    have fy7 := fy6.keep hb7
    have fu7 := fu6.keep hb7
    have fv7 := fv0.keep hb7
    clear fa6 fb6 fx6 fy6 fu6 fv0
    have hB7 := bthen hB6 hb7
    clear fu7 fv7 fy7
    obtain ⟨q1, hq1⟩ : ∃ q, setOkB a = q := ⟨_, rfl⟩
    obtain ⟨q2, hq2⟩ : ∃ q, setOkB b = q := ⟨_, rfl⟩
    have Q1 := Lib.hid hq1; have Q2 := Lib.hid hq2
    clear hq1 hq2
    cases q1
    · skip
      have hno := recon_no (a := a) (b := b) (by rw [Q1.out, Q2.out]; simp)
      have hx0 : nx = 0 := by rw [HNX.out, hno.1]; rfl
      have HN0 := Lib.hid hno.2
      subst hx0
      clear hno
      rw [HN0.out]
      go_wp2_with fail
      refine (setOk_spec _ _ _ _ _ fa7 (by omega)).mono ?_
      rintro e w8 ⟨rfl, hb8⟩
      have fa8 := fa7.keep hb8
      have fb8 := fb7.keep hb8
      have fx8 := fx7.keep hb8
      clear fa7 fb7 fx7
      have hB8 := bthen hB7 hb8
      rw [Q1.out]
      go_wp2
      go_returns
      exact ⟨rfl, hB8⟩
    · cases q2
      · skip
        have hno := recon_no (a := a) (b := b) (by rw [Q1.out, Q2.out]; simp)
        have hx0 : nx = 0 := by rw [HNX.out, hno.1]; rfl
        have HN0 := Lib.hid hno.2
        subst hx0
        clear hno
        rw [HN0.out]
        go_wp2_with fail
        refine (setOk_spec _ _ _ _ _ fa7 (by omega)).mono ?_
        rintro e w8 ⟨rfl, hb8⟩
        have fa8 := fa7.keep hb8
        have fb8 := fb7.keep hb8
        have fx8 := fx7.keep hb8
        clear fa7 fb7 fx7
        have hB8 := bthen hB7 hb8
        rw [Q1.out]
        go_wp2_with fail
        refine (setOk_spec _ _ _ _ _ fb8 (by omega)).mono ?_
        rintro e w9 ⟨rfl, hb9⟩
        have fa9 := fa8.keep hb9
        have fb9 := fb8.keep hb9
        have fx9 := fx8.keep hb9
        clear fa8 fb8 fx8
        have hB9 := bthen hB8 hb9
        rw [Q2.out]
        go_wp2
        go_returns
        exact ⟨rfl, hB9⟩
      · skip
        go_wp2_with fail
        refine (setOk_spec _ _ _ _ _ fa7 (by omega)).mono ?_
        rintro e w8 ⟨rfl, hb8⟩
        have fa8 := fa7.keep hb8
        have fb8 := fb7.keep hb8
        have fx8 := fx7.keep hb8
        clear fa7 fb7 fx7
        have hB8 := bthen hB7 hb8
        rw [Q1.out]
        go_wp2_with fail
        refine (setOk_spec _ _ _ _ _ fb8 (by omega)).mono ?_
        rintro e w9 ⟨rfl, hb9⟩
        have fa9 := fa8.keep hb9
        have fb9 := fb8.keep hb9
        have fx9 := fx8.keep hb9
        clear fa8 fb8 fx8
        have hB9 := bthen hB8 hb9
        rw [Q2.out]
        have LH := Lib.hid (fun i (hi : i < (lacks a b).length) => lacks_has Q1.out Q2.out hi)
        have LL := Lib.hid (recon_len Q1.out Q2.out)
        have XO := Lib.hid (recon_ok Q1.out Q2.out)
        go_wp2_with fail
        refine (lacks_impl _ _ _ _ _ _ _ _ _ fa9 fb9 (by omega) (by omega)).mono ?_
        rintro e w10 ⟨Al, nl, cl, rfl, rl, hb10⟩
        have fa10 := fa9.keep hb10
        have fb10 := fb9.keep hb10
        have fx10 := fx9.keep hb10
        clear fa9 fb9 fx9
        have hB10 := bthen hB9 hb10
        have fl0 := rl.at_
        clear rl
        have hnl : nl ≤ 11 := by have h1 := strsLen fl0; have h2 := lacks_len a b; have h3 := strsLen fb10; omega
        have HNL := Lib.hid (strsLen fl0)
        generalize reconL a b = x at *
        generalize lacks a b = l at *
        go_wp2
        go_loopw [10] (fun i wr => ∃ k : Nat, k ≤ nl ∧ i = .int .i64 k ∧ wr = w10) (fun i _ => nl - (intOf i).toNat)
        case atStart => exact ⟨0, Nat.zero_le _, rfl, rfl⟩
        case round =>
          obtain ⟨k, hk, rfl, rfl⟩ := hrel
          by_cases hlt : k < nl
          · obtain ⟨g0, g1, g2⟩ := LH.out k (by have := HNL.out; omega)
            have G0 := Lib.hid g0; have G1 := Lib.hid g1; have G2 := Lib.hid g2
            clear g0 g1 g2
            obtain ⟨b0, off, rfl, hbl, hc⟩ := fl0.at_ (by omega)
            have hck := hc k hlt
            clear hc
            go_wp2_with fail
            refine (hasText_any _ _ _ _ _ _ fa10 (by omega)).mono ?_
            rintro e w' ⟨rfl, rfl⟩
            rw [G0.out]
            go_wp2_with fail
            refine (hasText_any _ _ _ _ _ _ fb10 (by omega)).mono ?_
            rintro e w' ⟨rfl, rfl⟩
            rw [G1.out]
            go_wp2_with fail
            refine (hasText_any _ _ _ _ _ _ fx10 (by omega)).mono ?_
            rintro e w' ⟨rfl, rfl⟩
            rw [G2.out]
            go_wp2
            exact ⟨⟨k + 1, by omega, by go_num, trivial⟩, by simp [intOf]; omega⟩
          · have hlen : (nx : Int) = (n0 : Int) + (nl : Int) := by have h1 := LL.out; have h2 := HNX.out; have h3 := HNA.out; have h4 := HNL.out; omega
            have RS := Lib.hid (recon_self XO.out)
            have RN := Lib.hid (reconN_self x)
            have US := Lib.hid (unl_self a)
            have SL := Lib.hid (show (sumsL a).length = 16 by rw [sumsL_len, Q1.out]; rfl)
            go_wp2_with fail
            refine (recon_impl _ _ _ _ _ _ _ _ _ fx10 fx10 nx0 nx0 (by omega) (by omega) (hkeys.keep hB10)).mono ?_
            rintro e w11 ⟨Az, nz, cz, rfl, rz, hb11⟩
            have fa11 := fa10.keep hb11
            have fb11 := fb10.keep hb11
            have fx11 := fx10.keep hb11
            have fl11 := fl0.keep hb11
            clear fa10 fb10 fx10 fl0
            have hB11 := bthen hB10 hb11
            rw [RN.out]
            rw [RS.out] at rz
            have fz0 := rz.at_
            clear rz
            have hnz : nz ≤ 400 := by have h1 := strsLen fz0; have h2 := HNX.out; omega
            go_wp2_with fail
            refine (sameTexts_yes _ _ _ _ _ _ _ _ fz0 fx11 (by omega)).mono ?_
            rintro e w12 ⟨rfl, hb12⟩
            have fa12 := fa11.keep hb12
            have fb12 := fb11.keep hb12
            have fx12 := fx11.keep hb12
            have fl12 := fl11.keep hb12
            have fz12 := fz0.keep hb12
            clear fa11 fb11 fx11 fl11 fz0
            have hB12 := bthen hB11 hb12
            go_wp2_with fail
            refine (unlike_impl _ _ _ _ _ _ _ _ _ fa12 fa12 (by omega) (by omega) (hkeys.keep hB12)).mono ?_
            rintro e w13 ⟨Ag, ng, cg, rfl, rg, hb13⟩
            have fa13 := fa12.keep hb13
            have fb13 := fb12.keep hb13
            have fx13 := fx12.keep hb13
            have fl13 := fl12.keep hb13
            have fz13 := fz12.keep hb13
            clear fa12 fb12 fx12 fl12 fz12
            have hB13 := bthen hB12 hb13
            rw [US.out] at rg
            have hng : ng = 0 := rg.len
            subst hng
            clear rg
            go_wp2_with fail
            refine (bucketSums_impl _ _ _ _ _ fa13 (by omega) (hkeys.keep hB13)).mono ?_
            rintro e w14 ⟨As, ns, cs, rfl, rs, hb14⟩
            have fa14 := fa13.keep hb14
            have fb14 := fb13.keep hb14
            have fx14 := fx13.keep hb14
            have fl14 := fl13.keep hb14
            have fz14 := fz13.keep hb14
            clear fa13 fb13 fx13 fl13 fz13
            have hB14 := bthen hB13 hb14
            have hns : ns = 16 := by have h1 := strsLen rs.at_; have h2 := SL.out; omega
            subst hns
            clear rs
            go_wp2_with fail
            refine (setOk_impl _ _ _ _ _ fx14 (by omega)).mono ?_
            rintro e w' ⟨rfl, rfl⟩
            rw [XO.out]
            go_wp2
            go_returns
            exact ⟨rfl, hB14⟩

theorem fnRecon_shape {H : Type} {enc : TypeId × Value → H} {W : World} {args : Array Value} {ds : List (DataW H)} {p : List MemPlace}
    (hA : DataW.TrodAll enc Tryd.prog W 0 (fun _ => true) true Tryd.f6.params.toList args.toList ds p) : ∃ x0, ds = [x0] := by
  obtain ⟨v0, d0, rfl, rfl, h0⟩ := trodAll_one hA
  exact ⟨_, rfl⟩

set_option maxRecDepth 100000 in
theorem fnRecon_contract {H : Type} {enc : TypeId × Value → H} (W : World) (base : Nat) (args : Array Value) (ds : List (DataW H)) (p : List MemPlace)
    (hval : ∀ (j : Nat) t v, Tryd.f6.params[j]? = some t → args[j]? = some v → Value.okWide Tryd.prog W .any base t v)
    (hA : DataW.TrodAll enc Tryd.prog W 0 (fun _ => true) true Tryd.f6.params.toList args.toList ds p) (hk : KeysAt W) :
    Calls Tryd.prog 6 args W fun e W' => e = .returned (.bool true) ∧ Below W.heap.size W W' := by
  obtain ⟨v0, d0, rfl, rfl, h0⟩ := trodAll_one hA
  obtain ⟨A0, n0, c0, f0, rfl, hr0, hn0⟩ := open_code (hval 0 33 v0 rfl rfl) h0
  exact fnRecon_any _ _ _ _ W hk hr0 hn0

set_option maxRecDepth 100000 in
theorem fnRecon_lifted (os : Os) (started : os.Started) (H : Type) (enc : TypeId × Value → H) :
    ReturnsInHanded {} Tryd.checked os 6 .any (fun w args => (Rows.fnReconSpec.pre enc Tryd.prog Tryd.f6 [] false w args ∧ laidMetH Tryd.prog laidS w) ∧ sizedMet enc Tryd.prog Tryd.f6 (OpenSpec.ofChange Rows.fnReconSpec) false w args)
      (Rows.fnReconSpec.post enc Tryd.prog Tryd.f6 false true false false) := by
  refine returnsInHanded_of_change_and (C := Tryd.checked) (X := fun w _ => laidMetH Tryd.prog laidS w) (fun _ _ _ hh h => h.of_heap hh) Tryd.own started (by kernel_rfl) Tryd.func6
    (ChangeSpec.witness_shaped (enc := enc) (C := Tryd.checked) (os := os) (X := fun w _ => laidMetH Tryd.prog laidS w) false (World.doorLaid Tryd.prog 400 os) #[.slice none 0 0] 8 rfl (World.shaped_of_RefB (by kernel_rfl) (by kernel_rfl)) (by kernel_rfl) (by kernel_rfl) (by kernel_rfl) (door_met os _)) ?_
  intro W base args ds gs before hval0 hW _ _ hL _
  have hval : ∀ (j : Nat) t v, Tryd.f6.params[j]? = some t → args[j]? = some v → Value.okWide Tryd.prog W .any base t v := hval0
  have hW' := hW
  obtain ⟨p, q, hA0, hV, rfl, hfz, hnd⟩ := hW
  have hA : DataW.TrodAll enc Tryd.prog W 0 (fun _ => true) true Tryd.f6.params.toList args.toList ds p := hA0
  refine (fnRecon_contract W base args ds p hval hA (keys_of_laid hL)).mono fun e W' ⟨he, hb⟩ => ?_
  subst he
  have hds := fnRecon_shape hA
  obtain ⟨gg, gt, gcs, gfu, gd, gp, rfl, _, _, _, _, _⟩ := trodVars_one (n := "loop.example/g00954/impl.shaWords") hV
  refine ⟨_, rfl, law_post_vars (P := Tryd.prog) Tryd.laidOut (of_decide_eq_true (by kernel_rfl)) (by kernel_rfl) Tryd.underlying4 hW' ?_ ?_ ?_ ?_ hb⟩
  · intro n hn g t h1 h2
    have hn' : n ∈ ["loop.example/g00954/impl.shaWords"] := hn
    simp only [List.mem_singleton] at hn'
    subst hn'
    obtain rfl := Option.some.inj (gWords.symm.trans h1)
    obtain rfl := Option.some.inj (tWords.symm.trans h2)
    exact of_decide_eq_true (by kernel_rfl)
  all_goals (obtain ⟨x0, rfl⟩ := hds; rfl)

theorem fnRecon_holds : Rows.FnReconSaid :=
  OpenClaim.holds_of_wide 6 Tryd.f6 rfl rfl rfl rfl rfl rfl rfl ⟨rfl, rfl, rfl, rfl, rfl⟩ rfl rfl rfl rfl rfl (by kernel_rfl) Tryd.func6 (by kernel_rfl)
    (of_decide_eq_true (by kernel_rfl)) (by unfold Func.isWrapper; first | (rw [if_pos (by decide +kernel)]; kernel_rfl) | (rw [if_neg (by decide +kernel)]; exact ⟨rfl, rfl⟩))
    (fun os started H enc _ => fnRecon_lifted os started H enc)

theorem fnRecon_card_holds : Rows.FnReconCardSaid :=
  Claim7.holds_tied_plain_at .later [] [.data] true (true, "6390478afabca9f827fdb370f858e1db9fa19eb9d670c146331534b7908023c9") false
    fnRecon_holds (fun _ h => by cases h) (by kernel_rfl) (fun _ h => by cases h) fnRecon_row_tie rfl ⟨rfl, rfl⟩ (by kernel_rfl) rfl
    (fun f fn hf hfn => by
      obtain rfl : f = 6 := Option.some.inj ((show Tryd.prog.funcNamed "loop.example/g00954/laws.FnRecon" = some 6 by kernel_rfl).symm.trans hf) |>.symm
      obtain rfl : fn = Tryd.f6 := (Option.some.inj (Tryd.func6.symm.trans hfn)).symm
      exact ⟨by kernel_rfl, fun j t ht => by
        rw [Tryd.params6] at ht
        have hm : t ∈ [33] := by simpa using Array.mem_of_getElem? ht
        have hall : ([33].all fun u => !Tryd.prog.wantsStandIn u) = true := by kernel_rfl
        exact (show Tryd.prog.wantsStandIn t = false by simpa using List.all_eq_true.1 hall t hm)⟩)
    (by kernel_rfl)
end Go.Proofs.YtfbfomlgjghcmaaDoor
