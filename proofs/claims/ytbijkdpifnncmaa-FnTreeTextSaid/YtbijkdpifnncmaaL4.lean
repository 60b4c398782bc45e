/- Contracts of l4Vars and l4Take, the reference's readers. -/
import Derived.Test.YtbijkdpifnncmaaReadJ
import Derived.Test.YtbijkdpifnncmaaRow
namespace Go.Proofs.Ytbijkdpifnncmaa
open Go.RowKit
attribute [local irreducible] rvF
theorem infoIntV : (Try.prog.info? 3).map (fun i => (i.zero, i.size, i.bytes)) = some (some (.int .i64 0), 1, 8) := by kernel_rfl

def natL4 (n : Nat) : Value := .int .i64 (n : Int)
/-- k numbers behind those in o, from at on; -1 where one is missing -/
noncomputable def vsF (s : ByteArray) : Nat → List Nat × Int → List Nat × Int
  | 0, r => r
  | k + 1, (o, at_) => if at_ < 0 ∨ (s.size : Int) < at_ ∨ (rvF (s.extract at_.toNat s.size)).2 = 0 then (o, -1) else vsF s k (o ++ [(rvF (s.extract at_.toNat s.size)).1], at_ + ((rvF (s.extract at_.toNat s.size)).2 : Nat))
theorem vsF_no {s : ByteArray} {k : Nat} {o : List Nat} {at_ : Int} (h : at_ < 0 ∨ (s.size : Int) < at_ ∨ (rvF (s.extract at_.toNat s.size)).2 = 0) : vsF s (k + 1) (o, at_) = (o, -1) := by rw [vsF, if_pos h]
theorem vsF_yes {s : ByteArray} {k : Nat} {o : List Nat} {a v m : Nat} (h : a ≤ s.size) (hr : rvF (s.extract a s.size) = (v, m)) (hm : m ≠ 0) : vsF s (k + 1) (o, (a : Int)) = vsF s k (o ++ [v], ((a + m : Nat) : Int)) := by
  rw [vsF, Int.toNat_natCast, hr, if_neg (by simp; omega)]
  rfl
theorem vsF_in (s : ByteArray) : ∀ (k : Nat) (o : List Nat) (at_ : Int), at_ ≤ s.size → -1 ≤ at_ → (∀ v ∈ o, v ≤ 562949953421311) → -1 ≤ (vsF s k (o, at_)).2 ∧ (vsF s k (o, at_)).2 ≤ s.size ∧ ∀ v ∈ (vsF s k (o, at_)).1, v ≤ 562949953421311 := by
  intro k
  induction k with
  | zero => intro o at_ h1 h0 h2; exact ⟨h0, h1, h2⟩
  | succ k ih =>
    intro o at_ h1 h0 h2
    have hz := rvF_size (s.extract at_.toNat s.size)
    rw [ByteArray.size_extract] at hz
    rw [vsF]
    split
    · exact ⟨by simp only; omega, by simp only; omega, h2⟩
    · refine ih _ _ (by omega) (by omega) (fun v hv => ?_)
      rcases List.mem_append.1 hv with hv | hv
      · exact h2 v hv
      · have : v = (rvF (s.extract at_.toNat s.size)).1 := by simpa using hv
        omega

set_option maxRecDepth 4000 in
set_option maxHeartbeats 1000000 in
theorem l4Vars_spec (s : ByteArray) (at0 : Int) (n : Nat) (w : World) (hs : s.size ≤ 16777216) (ha : -1 ≤ at0) (ha2 : at0 ≤ 1152921504606846976) (hn : n ≤ 16) :
    Calls Try.prog 37 #[.string s, .int .i64 at0, .int .i64 n] w fun e w' => (∃ A c, e = .returned (.tuple #[.slice A (vsF s n ([], at0)).1.length c, .int .i64 (vsF s n ([], at0)).2]) ∧ RowIn 3 1 w.heap.size w'.heap.size w' A (vsF s n ([], at0)).1.length c ((vsF s n ([], at0)).1.map natL4)) ∧ Below w.heap.size w w' := by
  obtain ⟨r, hr⟩ : ∃ r, vsF s n ([], at0) = r := ⟨_, rfl⟩
  rw [hr]
  go_enter Try.func37, Try.ntmps37
  go_wp2
  go_loopw [1, 8, 9] (fun a o k wr => ∃ (at_ : Int) (O : Option Addr) (cap : Nat) (L : List Nat), a = .int .i64 at_ ∧ o = .slice O L.length cap ∧ k = .int .i64 (L.length : Nat) ∧ L.length ≤ n ∧ -1 ≤ at_ ∧ at_ ≤ 1152921504606846976 ∧ vsF s (n - L.length) (L, at_) = r ∧ wr.ownsRow w.heap.size 3 1 (.slice O L.length cap) L.length (L.map natL4) ∧ Below w.heap.size w wr) (fun _ _ k _ => n - (intOf k).toNat)
  case atStart => exact ⟨at0, some ⟨w.heap.size, 0, none⟩, 0, [], rfl, rfl, rfl, Nat.zero_le _, ha, ha2, hr, by simpa using own_empty w 3 1 (base := w.heap.size) (Nat.le_refl _), (Below.refl _ _).alloc (Nat.le_refl _) _⟩
  case round =>
    obtain ⟨at_, O, cap, L, rfl, rfl, rfl, hj, h1, h2, hv, hown, hb⟩ := hrel
    have HV := Lib.hid hv; clear hv hr
    have hzr := hb.size
    by_cases hlt : L.length < n
    · have ij : (L.length : Int) < (n : Int) := by omega
      obtain ⟨q, hq⟩ : ∃ q, n - L.length = q + 1 := ⟨n - L.length - 1, by omega⟩
      have HQ := Lib.hid hq; clear hq
      by_cases hneg : at_ < 0
      · have HR := Lib.hid (show r = (L, -1) by rw [← HV.out, HQ.out, vsF_no (.inl hneg)])
        go_wp2
        go_returns
        rw [HR.out]
        exact ⟨⟨O, cap, rfl, RowIn.of_own hown⟩, hb⟩
      · by_cases hbig : (s.size : Int) < at_
        · have HR := Lib.hid (show r = (L, -1) by rw [← HV.out, HQ.out, vsF_no (.inr (.inl hbig))])
          go_wp2
          go_returns
          rw [HR.out]
          exact ⟨⟨O, cap, rfl, RowIn.of_own hown⟩, hb⟩
        · obtain ⟨a, rfl⟩ : ∃ a : Nat, at_ = a := ⟨at_.toNat, by omega⟩
          have hna : ¬ ((a : Int) < 0) := by omega
          have has : a ≤ s.size := by omega
          have hz := rvF_size (s.extract a s.size)
          rw [ByteArray.size_extract] at hz
          clear hneg
          go_wp2_with fail
          refine (readVar_spec _ _ (by rw [ByteArray.size_extract]; omega)).mono ?_
          rintro e w1 ⟨rfl, hb1⟩
          obtain ⟨v, m, hvm⟩ : ∃ v m, rvF (s.extract a s.size) = (v, m) := ⟨_, _, rfl⟩
          rw [hvm] at hz ⊢
          simp only at hz
          have HVM := Lib.hid hvm; clear hvm
          have hz1 := hb1.size
          by_cases hm : m = 0
          · have HR := Lib.hid (show r = (L, -1) by rw [← HV.out, HQ.out, vsF_no (.inr (.inr (by rw [Int.toNat_natCast, HVM.out]; exact hm)))])
            subst hm
            go_wp2
            go_returns
            rw [HR.out]
            exact ⟨⟨O, cap, rfl, (RowIn.of_own hown).keep hb1 |>.wide (Nat.le_refl _) hz1⟩, bthen hb hb1⟩
          · have hm0 : ¬ ((m : Int) = 0) := by omega
            have HR := Lib.hid (show vsF s q (L ++ [v], ((a + m : Nat) : Int)) = r by rw [← HV.out, HQ.out, vsF_yes has HVM.out hm])
            have hown1 := ((RowIn.of_own hown).keep hb1).own
            have hz2 := Nat.le_trans hzr hz1
            go_wp2_with (at_builtin; refine wpList_app1g (P := Try.prog) w1 rfl (.tmp 37) (.tmp 39) 60 rfl w.heap.size 3 _ 1 8 Try.underlying60 infoIntV rfl (by omega) (.slice O _ cap) _ _ rfl hown1 #[.int .i64 (v : Int)] _ rfl (by simp) rfl (by simp [Value.oneCell']) (by unfold maxLen; omega) (by omega) hz2 ?_; intro A' c' w2 hown2 hg2 hb2 _)
            refine ⟨⟨((a + m : Nat) : Int), A', c', L ++ [v], by go_num, by simp, by simp, by rw [List.length_append]; simp only [List.length_cons, List.length_nil]; omega, by omega, by omega, ?_, ?_, (bthen hb hb1).trans hb2⟩, by simp [intOf]; omega⟩
            · rw [List.length_append]
              have := HQ.out
              rw [show n - (L.length + [v].length) = q by simp only [List.length_cons, List.length_nil]; omega]
              exact HR.out
            · rw [List.length_append, List.map_append]
              exact hown2
    · have ij : ¬ (L.length : Int) < (n : Int) := by omega
      have HR := Lib.hid (show r = (L, at_) by rw [← HV.out, show n - L.length = 0 by omega]; rfl)
      go_wp2
      go_returns
      rw [HR.out]
      exact ⟨⟨O, cap, rfl, RowIn.of_own hown⟩, hb⟩

theorem vs1 (s : ByteArray) (at_ : Int) : vsF s 1 ([], at_) = ([], -1) ∨ ∃ v e : Nat, vsF s 1 ([], at_) = ([v], (e : Int)) ∧ v ≤ 562949953421311 ∧ e ≤ s.size := by
  have hz := rvF_size (s.extract at_.toNat s.size)
  rw [ByteArray.size_extract] at hz
  rw [vsF]
  split
  · exact .inl rfl
  · refine .inr ⟨(rvF (s.extract at_.toNat s.size)).1, at_.toNat + (rvF (s.extract at_.toNat s.size)).2, ?_, hz.2.2, by omega⟩
    rw [vsF]
    refine Prod.ext rfl ?_
    show at_ + _ = _
    omega
/-- a text with its size ahead of it, from at on; -1 where there is none -/
noncomputable def tkF (s : ByteArray) (at_ : Int) : ByteArray × Int :=
  if (vsF s 1 ([], at_)).2 < 0 ∨ (s.size : Int) - (vsF s 1 ([], at_)).2 < ((vsF s 1 ([], at_)).1.headD 0 : Nat) then (.empty, -1)
  else (s.extract (vsF s 1 ([], at_)).2.toNat ((vsF s 1 ([], at_)).2.toNat + (vsF s 1 ([], at_)).1.headD 0), (vsF s 1 ([], at_)).2 + ((vsF s 1 ([], at_)).1.headD 0 : Nat))
theorem tkF_no {s : ByteArray} {at_ : Int} (h : vsF s 1 ([], at_) = ([], -1)) : tkF s at_ = (.empty, -1) := by unfold tkF; rw [h, if_pos (.inl (by simp))]
theorem tkF_big {s : ByteArray} {at_ : Int} {v e : Nat} (h : vsF s 1 ([], at_) = ([v], (e : Int))) (hb : s.size < e + v) : tkF s at_ = (.empty, -1) := by unfold tkF; rw [h, if_pos (.inr (by simp only [List.headD_cons]; omega))]
theorem tkF_yes {s : ByteArray} {at_ : Int} {v e : Nat} (h : vsF s 1 ([], at_) = ([v], (e : Int))) (hb : e + v ≤ s.size) : tkF s at_ = (s.extract e (e + v), ((e + v : Nat) : Int)) := by
  unfold tkF; rw [h, if_neg (by simp only [List.headD_cons]; omega)]
  refine Prod.ext (by simp) (by simp)
theorem tkF_in (s : ByteArray) (at_ : Int) : -1 ≤ (tkF s at_).2 ∧ (tkF s at_).2 ≤ s.size ∧ (tkF s at_).1.size ≤ s.size := by
  rcases vs1 s at_ with h | ⟨v, e, h, hv, he⟩
  · rw [tkF_no h]; exact ⟨by simp, by simp only; omega, by simp⟩
  · by_cases hb : e + v ≤ s.size
    · rw [tkF_yes h hb]; exact ⟨by simp only; omega, by simp only; omega, by simp only [ByteArray.size_extract]; omega⟩
    · rw [tkF_big h (by omega)]; exact ⟨by simp, by simp only; omega, by simp⟩
theorem row_nat {lo hi : Nat} {w : World} {A : Option Addr} {c : Nat} {L : List Nat} (h : RowIn 3 1 lo hi w A L.length c (L.map natL4)) {v : Nat} (hv : L = [v]) : ∃ g, A = some ⟨g, 0, none⟩ ∧ w.cell? ⟨g, 0, none⟩ = some (.int .i64 (v : Int)) ∧ g < w.heap.size ∧ lo ≤ g := by
  subst hv
  obtain ⟨g, rfl⟩ := h.head (by simp)
  have hc := h.own.cells (g := g) rfl 0 (natL4 v) rfl
  rw [Addr.add_lit] at hc
  have hi := (h.blk (g := g) rfl).1
  unfold Iv at hi
  exact ⟨g, rfl, hc, (h.blk (g := g) rfl).2, hi.1⟩

set_option maxRecDepth 4000 in
set_option maxHeartbeats 1000000 in
theorem l4Take_spec (s : ByteArray) (at0 : Int) (w : World) (hs : s.size ≤ 16777216) (ha : -1 ≤ at0) (ha2 : at0 ≤ 1152921504606846976) :
    Calls Try.prog 36 #[.string s, .int .i64 at0] w fun e w' => e = .returned (.tuple #[.string (tkF s at0).1, .int .i64 (tkF s at0).2]) ∧ Below w.heap.size w w' := by
  go_enter Try.func36, Try.ntmps36
  go_wp2_with fail
  refine (l4Vars_spec s at0 1 _ hs ha ha2 (by omega)).mono ?_
  rintro e w1 ⟨⟨A, c, rfl, hrow⟩, hb1⟩
  rcases vs1 s at0 with h | ⟨v, e, h, hv, he⟩
  · have HR := Lib.hid (tkF_no h)
    rw [h]
    clear h hrow
    go_wp2
    go_returns
    rw [HR.out]
    exact ⟨rfl, hb1⟩
  · rw [h] at hrow ⊢
    obtain ⟨g, rfl, hc, hg, _⟩ := row_nat hrow rfl
    by_cases hb : e + v ≤ s.size
    · have HR := Lib.hid (tkF_yes h hb)
      clear h hrow
      have hbi : ¬ ((s.size : Int) - (e : Int) < (v : Int)) := by omega
      have hn : ¬ ((e : Int) < 0) := by omega
      go_wp2
      go_quiet (fail)
      go_wp2
      go_returns
      rw [HR.out]
      exact ⟨by rfl, bthen hb1 (((Ch.refl (S := fun _ => False) _).drewN nq).below (fun _ h => h.elim) (Nat.le_refl _))⟩
    · have HR := Lib.hid (tkF_big h (by omega))
      clear h hrow
      have hbi : ((s.size : Int) - (e : Int) < (v : Int)) := by omega
      have hn : ¬ ((e : Int) < 0) := by omega
      go_wp2
      go_returns
      rw [HR.out]
      exact ⟨rfl, hb1⟩
end Go.Proofs.Ytbijkdpifnncmaa
