/- Contracts and lemmas: LawStrs, Grow. -/
import Derived.Test.YtdphdnllhmnelaaGreatJ0
import Derived.Test.YtdphdnllhmnelaaGreatRows
import Derived.BigQuiet
import Derived.Deep.QuietTactic
import Derived.Deep.Quiet
/- Contracts of the laws' helpers on lists of strings: size, copy, comparison. -/
namespace Go.Proofs.YtdphdnllhmnelaaGreat
open Go.RowKit

theorem szStrs_any (A : Option Addr) (n c : Nat) (l : List ByteArray) (left : Int) (w : World) (h : StrsAt w A n l) (hn : n ≤ 9223372036854775807) (hl0 : 0 ≤ left) (hl1 : left ≤ 4611686018427387904)
    (hs : ∀ i, i < n → (sAt l i).size ≤ 9223372036854775807) :
    Calls Tryz.prog 78 #[.slice A n c, .int .i64 left] w fun e w' => e = .returned (.int .i64 (szR left (strsSz l))) ∧ w = w' := by
  have hL : l.length = n := h.1.symm
  have HL := Lib.hid hL; clear hL
  by_cases h0 : left - n < 0
  · go_enter Tryz.func78, Tryz.ntmps78
    go_wp2
    go_returns
    refine ⟨ret_int (szR_no ?_).symm, rfl⟩
    have := HL.out; unfold strsSz; omega
  · go_enter Tryz.func78, Tryz.ntmps78
    go_wp2
    have e0 := sumTo_zero ByteArray.size l
    have E0 := Lib.hid e0; clear e0
    go_loop [1, 5] (fun u i => ∃ k : Nat, k ≤ n ∧ i = .int .i64 k ∧ u = .int .i64 (left - n - (sumTo ByteArray.size l k : Nat)) ∧ 0 ≤ left - n - (sumTo ByteArray.size l k : Nat)) (fun _ i => n - (intOf i).toNat)
    case atStart => exact ⟨0, Nat.zero_le _, rfl, by rw [E0.out]; simp, by rw [E0.out]; omega⟩
    case round =>
      obtain ⟨k, hk, rfl, rfl, hge⟩ := hrel
      by_cases hlt : k < n
      · obtain ⟨b, off, rfl, hb, hc⟩ := h.at_ (by omega)
        have hck := hc k hlt
        have hsk := hs k hlt
        clear hc
        have hsu : sumTo ByteArray.size l (k + 1) = sumTo ByteArray.size l k + (sAt l k).size := by
          rw [sumTo_succ _ _ _ (by have := HL.out; omega), sAt_get (by have := HL.out; omega)]
        have HSU := Lib.hid hsu; clear hsu
        have hle := sumTo_le ByteArray.size l (k + 1)
        have HLE := Lib.hid hle; clear hle
        go_wp2
        · go_returns
          refine ⟨ret_int (szR_no ?_).symm, rfl⟩
          have := HL.out; have := HSU.out; have := HLE.out; unfold strsSz; omega
        · refine ⟨⟨k + 1, by omega, by go_num, ?_, ?_⟩, by simp [intOf]; omega⟩
          · rw [HSU.out]; congr 1; push_cast; omega
          · rw [HSU.out]; push_cast; omega
      · go_wp2
        go_returns
        refine ⟨ret_int ?_, rfl⟩
        have h3 := sumTo_all ByteArray.size l k (by have := HL.out; omega)
        have := HL.out
        rw [szR_yes (by unfold strsSz; omega)]; unfold strsSz; push_cast; omega

theorem infoString : (Tryz.prog.info? 9).map (fun i => (i.zero, i.size, i.bytes)) = some (some (.string ByteArray.empty), 1, 16) := by kernel_rfl

theorem toStrs_any (A : Option Addr) (n c : Nat) (l : List ByteArray) (w : World) (h : StrsAt w A n l) (hn : n ≤ 16777216) :
    Calls Tryz.prog 80 #[.slice A n c] w fun e w' => ∃ g, e = .returned (.slice (some ⟨g, 0, none⟩) n n) ∧ w'.ownsRow w.heap.size 9 1 (.slice (some ⟨g, 0, none⟩) n n) n (l.map Value.string) ∧ Below w.heap.size w w' := by
  have hL : l.length = n := h.1.symm
  have HL := Lib.hid hL; clear hL
  obtain ⟨i0, hi, hz0, hz1, hz2⟩ := info_parts infoString
  go_enter Tryz.func80, Tryz.ntmps80
  go_wp2_with (refine wpList_make_full _ rfl _ _ 46 rfl w.heap.size 9 i0 _ 1 Tryz.underlying46 hi hz0 hz1 _ _ _ _ n rfl rfl rfl rfl (by rw [hz2]; omega) (by unfold maxLen; omega) (Nat.le_refl _) ?_; intro w1 hown1 hg1)
  have hb1 : Below w.heap.size w w1 := (Below.refl _ _).grown hg1 (Nat.le_refl _) (by simp)
  clear hg1
  go_loopw [4] (fun i wr => ∃ (k : Nat) (xs : List Value), k ≤ n ∧ i = .int .i64 k ∧ wr.ownsRow w.heap.size 9 1 (.slice (some ⟨w.heap.size, 0, none⟩) n n) n xs ∧ (∀ j, j < k → xs[j]? = some (.string (sAt l j))) ∧ Below w.heap.size w wr) (fun i _ => n - (intOf i).toNat)
  case atStart => exact ⟨0, _, Nat.zero_le _, rfl, hown1, fun j hj => absurd hj (by omega), hb1⟩
  case round =>
    obtain ⟨k, xs, hk, rfl, hown, hx, hb⟩ := hrel
    have HX := Lib.hid hx; clear hx
    by_cases hlt : k < n
    · obtain ⟨b, off, rfl, hbl, hc⟩ := h.at_ (by omega)
      have hck := (hb.cell (p := ⟨b, off + k, none⟩) hbl).trans (hc k hlt)
      clear hc
      obtain ⟨old, hold⟩ := own_cell hown (j := k) (by omega)
      have hfr := hown.frozenAt k
      go_wp2
      obtain ⟨hown2, hg2⟩ := hown.stored k (.string (sAt l k))
      refine ⟨⟨k + 1, _, by omega, by go_num, hown2, set_upto (n := n) (by simpa using hown.1) hlt HX.out rfl, hb.grown hg2 hb.size (by simp)⟩, by simp [intOf]; omega⟩
    · go_wp2
      go_returns
      have : k = n := by omega
      subst this
      refine ⟨_, rfl, ?_, hb⟩
      have e := list_of_get (n := k) (by simpa using hown.1) HX.out
      rw [← HL.out, map_sAt] at e
      rw [← e]; exact hown

theorem eqStrs_any (A A' : Option Addr) (n c n' c' : Nat) (l l' : List ByteArray) (w : World) (h : StrsAt w A n l) (h' : StrsAt w A' n' l') (hn : n ≤ 9223372036854775807) (hn' : n' ≤ 9223372036854775807) :
    Calls Tryz.prog 84 #[.slice A n c, .slice A' n' c'] w fun e w' => e = .returned (.bool (decide (l = l'))) ∧ Below w.heap.size w w' := by
  have hL : l.length = n := h.1.symm
  have HL := Lib.hid hL; clear hL
  have hL' : l'.length = n' := h'.1.symm
  have HL' := Lib.hid hL'; clear hL'
  by_cases hnn : n = n'
  · subst hnn
    go_enter Tryz.func84, Tryz.ntmps84
    go_wp2
    go_loopw [5] (fun i wr => ∃ (k : Nat), k ≤ n ∧ i = .int .i64 k ∧ (∀ j, j < k → sAt l j = sAt l' j) ∧ Below w.heap.size w wr) (fun i _ => n - (intOf i).toNat)
    case atStart => exact ⟨0, Nat.zero_le _, rfl, fun j hj => absurd hj (by omega), Below.refl _ _⟩
    case round =>
      obtain ⟨k, hk, rfl, hx, hb⟩ := hrel
      have HX := Lib.hid hx; clear hx
      by_cases hlt : k < n
      · obtain ⟨b, off, rfl, hbl, hc⟩ := h.at_ (by omega)
        have hck := (hb.cell (p := ⟨b, off + k, none⟩) hbl).trans (hc k hlt)
        clear hc
        obtain ⟨b', off', rfl, hbl', hc'⟩ := h'.at_ (by omega)
        have hck' := (hb.cell (p := ⟨b', off' + k, none⟩) hbl').trans (hc' k hlt)
        clear hc'
        go_wp2
        go_quiet (fail)
        go_wp2
        · go_returns
          refine ⟨ret_bool ?_, below_drewN hb _⟩
          have hne := str_beq_no (by assumption : (!(sAt l k).toList == (sAt l' k).toList) = true)
          rw [eq_comm, decide_eq_false_iff_not]
          rintro rfl
          exact hne rfl
        · have he := str_beq_yes (by assumption : (!(sAt l k).toList == (sAt l' k).toList) = false)
          refine ⟨⟨k + 1, by omega, by go_num, ?_, below_drewN hb _⟩, by simp [intOf]; omega⟩
          intro j hj
          by_cases e : j = k
          · rw [e, he]
          · exact HX.out j (by omega)
      · go_wp2
        go_returns
        refine ⟨ret_bool ?_, hb⟩
        rw [eq_comm, decide_eq_true_iff]
        exact sAt_ext (by rw [HL.out, HL'.out]) (fun j hj => HX.out j (by have := HL.out; omega))
  · go_enter Tryz.func84, Tryz.ntmps84
    go_wp2
    go_returns
    refine ⟨ret_bool ?_, Below.refl _ _⟩
    rw [eq_comm, decide_eq_false_iff_not]
    rintro rfl
    exact hnn (by rw [← HL.out, HL'.out])
end Go.Proofs.YtdphdnllhmnelaaGreat
/- A region that draws its order and holds loads of old cells and calls that make memory: one walk in the order of the text, over the class of worlds in which all that lay lies. -/
namespace Go.Proofs.YtdphdnllhmnelaaGreat
open Go.RowKit

/-- a world in which all that lay in w lies -/
def Grow (w : World) : Type := { X : World // Below w.heap.size w X }
instance {w : World} : Nonempty (Grow w) := ⟨⟨w, Below.refl _ _⟩⟩
def Grow.at_ {w : World} (X : Grow w) : World := X.1
theorem Grow.below {w : World} (X : Grow w) : Below w.heap.size w X.at_ := X.2
theorem Grow.cell {w : World} (X : Grow w) {b o : Nat} (h : b < w.heap.size) : X.at_.cell? ⟨b, o, none⟩ = w.cell? ⟨b, o, none⟩ := X.2.cell h
theorem Grow.frozen {w : World} (X : Grow w) {b o : Nat} (h : b < w.heap.size) : X.at_.frozen? ⟨b, o, none⟩ = w.frozen? ⟨b, o, none⟩ := X.2.frozen h
theorem Grow.cell_of {w : World} (X : Grow w) {b o : Nat} {v : Value} (h : b < w.heap.size) (hc : w.cell? ⟨b, o, none⟩ = some v) : X.at_.cell? ⟨b, o, none⟩ = some v := (X.cell h).trans hc
def Grow.mk' {w W : World} (h : Below w.heap.size w W) : Grow w := ⟨W, h⟩
theorem wp_region_grow {P : Program} {id : Nat} {Q : Exit → Act → World → Prop} {a : Act} {w : World} {l : List Oper} (hm : P.follows .mixedOrders = true) (hB : Region.lexB .any l.toArray = true)
    (h : wpQuiet P l.toArray (fun w' => ∃ X : Grow w, w' = X.at_) (fun a' => ∀ w', (∃ X : Grow w, w' = X.at_) → Q .normal a' w') l a) : (Code.region id l.toArray true).wp P Q a w :=
  wp_region_quiet (C := fun w' => ∃ X : Grow w, w' = X.at_) hm hB ⟨⟨w.drew, (Below.refl _ _).drew⟩, rfl⟩ (by simpa using h)
theorem grow_of {P : Program} {f : FuncId} {args : Array Value} {w : World} {X : Grow w} {v : Value} (h : Calls P f args X.at_ fun e w' => e = .returned v ∧ Below X.at_.heap.size X.at_ w') :
    Calls P f args X.at_ fun e w'' => e = .returned v ∧ ∃ Y : Grow w, w'' = Y.at_ :=
  h.mono fun _ w' ⟨he, hb⟩ => ⟨he, Grow.mk' (bthen X.below hb), rfl⟩
theorem grow_same {P : Program} {f : FuncId} {args : Array Value} {w : World} {X : Grow w} {v : Value} (h : Calls P f args X.at_ fun e w' => e = .returned v ∧ X.at_ = w') :
    Calls P f args X.at_ fun e w'' => e = .returned v ∧ ∃ Y : Grow w, w'' = Y.at_ :=
  h.mono fun _ w' ⟨he, hb⟩ => ⟨he, X, hb.symm⟩
/-- an answer that is known -/
theorem known {P : Program} {f : FuncId} {args : Array Value} {w : World} {T : World → Prop} {x y : Bool} (hx : x = y) (h : Calls P f args w fun e w' => e = .returned (.bool x) ∧ T w') : Calls P f args w fun e w' => e = .returned (.bool y) ∧ T w' := by
  subst hx; exact h
end Go.Proofs.YtdphdnllhmnelaaGreat
