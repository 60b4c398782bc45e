/- Contracts of Doubles. -/
import Derived.Test.YtmichbgiaoopgaaEvRow
import Derived.Deep.RegionWith
namespace Go.Proofs.Ytmichbgiaoopgaa
open Go.RowKit
attribute [local irreducible] evsOkB

/-- block B holds the event e -/
def Ev4 (w : World) (B : Nat) (e : Ev) : Prop := w.cell? ⟨B, 0, none⟩ = some (.int .i64 e.t) ∧ w.cell? ⟨B, 1, none⟩ = some (.int .i64 e.c) ∧ w.cell? ⟨B, 2, none⟩ = some (.int .i64 e.n) ∧ w.cell? ⟨B, 3, none⟩ = some (.string e.x)
theorem Ev4.keep {w w' : World} {B : Nat} {e : Ev} (h : Ev4 w B e) (hb : Below w.heap.size w w') : Ev4 w' B e := ⟨keep_cell hb h.1, keep_cell hb h.2.1, keep_cell hb h.2.2.1, keep_cell hb h.2.2.2⟩
def evAgg (e : Ev) : Value := .agg #[.int .i64 e.t, .int .i64 e.c, .int .i64 e.n, .string e.x]
/-- another text of the same number -/
def dblP (x e : Ev) : Bool := decide (x.c = e.c) && decide (x.n = e.n) && !decide (x.x = e.x)
def dblAt (l : List Ev) (e : Ev) (k : Nat) : Bool := (List.range k).any (fun i => dblP (eAt l i) e)
theorem dblAt_yes {l : List Ev} {e : Ev} {k i : Nat} (hi : i < k) (h : dblP (eAt l i) e = true) : dblAt l e k = true := by
  unfold dblAt; rw [List.any_eq_true]; exact ⟨i, List.mem_range.2 hi, h⟩
theorem dblAt_no {l : List Ev} {e : Ev} {k : Nat} (h : ∀ i, i < k → dblP (eAt l i) e = false) : dblAt l e k = false := by
  unfold dblAt; rw [List.any_eq_false]; intro i hi; rw [h i (List.mem_range.1 hi)]; simp
theorem dblAt_succ (l : List Ev) (e : Ev) (k : Nat) : dblAt l e (k + 1) = (dblAt l e k || dblP (eAt l k) e) := by
  unfold dblAt; rw [List.range_succ, List.any_append]; simp

theorem dbl_fn (x e : Ev) (B : Nat) (w : World) (hB : Ev4 w B e) :
    Calls Try.prog 96 #[.agg #[.int .i64 x.t, .int .i64 x.c, .int .i64 x.n, .string x.x], .pointer (some ⟨B, 0, none⟩)] w fun r w' => r = .returned (.bool (dblP x e)) ∧ Below w.heap.size w w' := by
  have hlt := cell_lt hB.1
  obtain ⟨h0, h1, h2, h3⟩ := hB
  have hne : B ≠ w.heap.size := by omega
  go_enter Try.func96, Try.ntmps96
  go_wp2
  all_goals go_returns
  all_goals refine ⟨ret_bool (Eq.symm ?_), by go_grown⟩
  all_goals simp_all [dblP, str_beq]

def IdxB (b : Bool) (w : World) (e : Ending) (w' : World) : Prop := ∃ i : Int, e = .returned (.int .i64 i) ∧ decide (0 ≤ i) = b ∧ Below w.heap.size w w'
theorem dbl_idx (A : Option Addr) (n c : Nat) (l : List Ev) (e : Ev) (B : Nat) (w : World) (h : EvsAt w A n l) (hn : n ≤ 16777216) (hB : Ev4 w B e) :
    Calls Try.prog 120 #[.slice A n c, .func (.func 96) #[] #[.pointer (some ⟨B, 0, none⟩)]] w (IdxB (dblAt l e n) w) := by
  have HL := Lib.hid h.1.symm
  go_enter Try.func120, Try.ntmps120
  go_wp2
  go_loopw [8] (fun i wr => ∃ k : Nat, k ≤ n ∧ i = .int .i64 k ∧ (∀ j, j < k → dblP (eAt l j) e = false) ∧ Below w.heap.size w wr) (fun i _ => n - (intOf i).toNat)
  case atStart => exact ⟨0, Nat.zero_le _, rfl, fun j hj => absurd hj (by omega), Below.refl _ _⟩
  case round =>
    obtain ⟨k, hk, rfl, hx, hb⟩ := hrel
    have HX := Lib.hid hx; clear hx
    by_cases hlt : k < n
    · obtain ⟨b, off, rfl, hbl, hc⟩ := h.at_ hlt
      have hc0 := (hb.cell (p := ⟨b, off + k * 4, none⟩) hbl).trans (hc k hlt).1
      have hc1 := (hb.cell (p := ⟨b, off + k * 4 + 1, none⟩) hbl).trans (hc k hlt).2.1
      have hc2 := (hb.cell (p := ⟨b, off + k * 4 + 2, none⟩) hbl).trans (hc k hlt).2.2.1
      have hc3 := (hb.cell (p := ⟨b, off + k * 4 + 3, none⟩) hbl).trans (hc k hlt).2.2.2
      clear hc
      go_wp2_with fail
      refine (dbl_fn (eAt l k) e B _ (hB.keep hb)).mono ?_
      rintro r w1 ⟨rfl, hb1⟩
      obtain ⟨q, hq⟩ : ∃ q, dblP (eAt l k) e = q := ⟨_, rfl⟩
      have HQ := Lib.hid hq
      rw [hq]
      clear hq
      cases q
      · go_wp2
        refine ⟨⟨k + 1, by omega, by go_num, ?_, bthen hb hb1⟩, by simp [intOf]; omega⟩
        intro j hj
        by_cases e1 : j = k
        · subst e1; exact HQ.out
        · exact HX.out j (by omega)
      · go_wp2
        go_returns
        exact ⟨k, rfl, by rw [dblAt_yes hlt HQ.out]; simp, bthen hb hb1⟩
    · go_wp2
      go_returns
      obtain rfl : k = n := by omega
      exact ⟨-1, rfl, by rw [dblAt_no HX.out]; rfl, hb⟩
theorem dbl_contains (A : Option Addr) (n c : Nat) (l : List Ev) (e : Ev) (B : Nat) (w : World) (h : EvsAt w A n l) (hn : n ≤ 16777216) (hB : Ev4 w B e) :
    Calls Try.prog 95 #[.slice A n c, .func (.func 96) #[] #[.pointer (some ⟨B, 0, none⟩)]] w fun r w' => r = .returned (.bool (dblAt l e n)) ∧ Below w.heap.size w w' := by
  go_enter Try.func95, Try.ntmps95
  go_wp2_with fail
  refine (dbl_idx A n c l e B _ h hn hB).mono ?_
  rintro r w' ⟨i, rfl, hi, hb⟩
  have HI := Lib.hid hi; clear hi
  go_wp2
  go_returns
  exact ⟨by rw [HI.out]; rfl, hb⟩

/-- the doubles among the first k -/
def dblTo (l : List Ev) : Nat → List Ev
  | 0 => []
  | k + 1 => dblTo l k ++ (if dblAt l (eAt l k) k = true then [eAt l k] else [])
theorem dblTo_len (l : List Ev) (k : Nat) : (dblTo l k).length ≤ k := by
  induction k with
  | zero => simp [dblTo]
  | succ k ih => rw [dblTo, List.length_append]; split <;> simp <;> omega
theorem dblTo_no {l : List Ev} {k : Nat} (h : dblAt l (eAt l k) k = false) : dblTo l (k + 1) = dblTo l k := by rw [dblTo, h]; simp
theorem dblTo_yes {l : List Ev} {k : Nat} (h : dblAt l (eAt l k) k = true) : dblTo l (k + 1) = dblTo l k ++ [eAt l k] := by rw [dblTo, h]; simp
theorem evsSz_app (a b : List Ev) : evsSz (a ++ b) = evsSz a + evsSz b := by unfold evsSz; simp; omega
theorem dblTo_sz (l : List Ev) (k : Nat) (hk : k ≤ l.length) : evsSz (dblTo l k) ≤ k + sumTo evSz l k := by
  induction k with
  | zero => simp [dblTo, evsSz]
  | succ k ih =>
    rw [sumTo_succ evSz l k (by omega)]
    have := ih (by omega)
    cases hq : dblAt l (eAt l k) k
    · rw [dblTo_no hq]; omega
    · rw [dblTo_yes hq, evsSz_app, eAt_get (show k < l.length by omega)]
      have : evsSz [l[k]] = 1 + evSz l[k] := by simp [evsSz]
      omega
def doubles (l : List Ev) : List Ev := if evsOkB l = true then dblTo l l.length else []
theorem doubles_sz (l : List Ev) {m : Nat} (h : evsSz l ≤ m) : evsSz (doubles l) ≤ m := by
  unfold doubles; split
  · have h1 := dblTo_sz l l.length (Nat.le_refl _)
    have h2 := sumTo_le evSz l l.length
    unfold evsSz at h ⊢; unfold evsSz at h1; omega
  · simp [evsSz]
theorem EvsAt.take {w : World} {A : Option Addr} {n : Nat} {l : List Ev} (h : EvsAt w A n l) (k : Nat) (hk : k ≤ n) : EvsAt w A k (l.take k) := by
  refine ⟨by simp [h.1]; have := h.1; omega, fun h0 => ?_⟩
  obtain ⟨b, off, hA, hlt, hc⟩ := h.2 (by omega)
  refine ⟨b, off, hA, hlt, fun i hi => ?_⟩
  have : eAt (l.take k) i = eAt l i := by unfold eAt; simp [hi]
  rw [this]; exact hc i (by omega)
theorem dblAt_take (l : List Ev) (e : Ev) (k : Nat) : dblAt (l.take k) e k = dblAt l e k := by
  unfold dblAt
  rw [Bool.eq_iff_iff]; simp only [List.any_eq_true, List.mem_range]
  have : ∀ i, i < k → eAt (l.take k) i = eAt l i := fun i hi => by unfold eAt; simp [hi]
  exact ⟨fun ⟨i, hi, h⟩ => ⟨i, hi, by rwa [this i hi] at h⟩, fun ⟨i, hi, h⟩ => ⟨i, hi, by rwa [this i hi]⟩⟩
attribute [local irreducible] EvsAt dblAt

set_option maxHeartbeats 400000 in
theorem doubles_impl (A : Option Addr) (n c : Nat) (l : List Ev) (w : World) (lo hi : Nat) (h : EvsIn lo hi w A n c l) (hs : evsSz l ≤ 1048576) :
    Calls Try.prog 45 #[.slice A n c] w (EvsR (doubles l) w) := by
  have hat := h.at_
  have hn := evs_n hat hs
  have hnc := own_le h.row.own
  have HL := Lib.hid h.len
  clear h
  obtain ⟨q, hq⟩ : ∃ q, evsOkB l = q := ⟨_, rfl⟩
  have HQ := Lib.hid hq
  cases q
  · have HR := Lib.hid (show doubles l = [] by simp [doubles, hq])
    clear hq
    rw [HR.out]
    go_enter Try.func45, Try.ntmps45
    go_wp2_with fail
    refine (eventsOk_impl _ _ _ _ _ hat (by omega)).mono ?_
    rintro e w1 ⟨rfl, hb1⟩; rw [HQ.out]
    go_wp2
    go_returns
    exact ⟨none, 0, 0, rfl, EvsIn.nil, hb1⟩
  · have HR := Lib.hid (show doubles l = dblTo l l.length by simp [doubles, hq])
    clear hq
    rw [HR.out]
    go_enter Try.func45, Try.ntmps45
    go_wp2_with fail
    refine (eventsOk_impl _ _ _ _ _ hat (by omega)).mono ?_
    rintro e w1 ⟨rfl, hb1⟩; rw [HQ.out]
    have hz1 := hb1.size
    go_wp2
    go_loopw [3, 12] (fun o i wr => ∃ (j : Nat) (O : Option Addr) (cap : Nat), j ≤ n ∧ i = .int .i64 j ∧ o = .slice O (dblTo l j).length cap ∧ wr.ownsRow w.heap.size 63 4 (.slice O (dblTo l j).length cap) (dblTo l j).length (evsL (dblTo l j)) ∧ Below w.heap.size w wr) (fun _ i _ => n - (intOf i).toNat)
    case atStart => exact ⟨0, _, _, Nat.zero_le _, rfl, rfl, own_empty w1 _ _ hz1, hb1.alloc hz1 _⟩
    case round =>
      obtain ⟨j, O, cap, hj, rfl, rfl, hown, hb⟩ := hrel
      by_cases hlt : j < n
      · have hat2 := hat
        obtain ⟨b, off, rfl, hbl, hc⟩ := hat2.at_ hlt
        have hc0 := (hb.cell (p := ⟨b, off + j * 4, none⟩) hbl).trans (hc j hlt).1
        have hc1 := (hb.cell (p := ⟨b, off + j * 4 + 1, none⟩) hbl).trans (hc j hlt).2.1
        have hc2 := (hb.cell (p := ⟨b, off + j * 4 + 2, none⟩) hbl).trans (hc j hlt).2.2.1
        have hc3 := (hb.cell (p := ⟨b, off + j * 4 + 3, none⟩) hbl).trans (hc j hlt).2.2.2
        have hLL := dblTo_len l j
        obtain ⟨q, hq⟩ : ∃ q, dblAt l (eAt l j) j = q := ⟨_, rfl⟩
        have HT := Lib.hid (dblAt_take l (eAt l j) j)
        have H1 := hat.take j (by omega)
        have al := fun o => (Below.refl wr.heap.size wr).alloc (Nat.le_refl _) o
        have hE : Ev4 (wr.alloc (.cells #[.int .i64 (eAt l j).t, .int .i64 (eAt l j).c, .int .i64 (eAt l j).n, .string (eAt l j).x] 63)) wr.heap.size (eAt l j) := ⟨by simp [go_sem], by simp [go_sem], by simp [go_sem], by simp [go_sem]⟩
        clear hc hat2
        cases q
        · have HS := Lib.hid (dblTo_no hq)
          have HQ2 := Lib.hid hq
          clear hq
          go_wp2_with fail
          refine (dbl_contains _ _ _ _ _ _ _ (H1.keep (bthen hb (al _))) (by omega) hE).mono ?_
          rintro r w2 ⟨rfl, hb2⟩
          rw [HT.out, HQ2.out]
          go_wp2
          have hk := bthen (al _) hb2
          refine ⟨⟨j + 1, O, cap, by omega, by go_num, by rw [HS.out], by rw [HS.out]; exact ((RowIn.of_own hown).keep hk).own, bthen hb hk⟩, by simp [intOf]; omega⟩
        · have HS := Lib.hid (dblTo_yes hq)
          have HQ2 := Lib.hid hq
          clear hq
          go_wp2_with fail
          refine (dbl_contains _ _ _ _ _ _ _ (H1.keep (bthen hb (al _))) (by omega) hE).mono ?_
          rintro r w2 ⟨rfl, hb2⟩
          rw [HT.out, HQ2.out]
          have hk := bthen (al _) hb2
          have hown2 := ((RowIn.of_own hown).keep hk).own
          obtain ⟨e0, e1, e2, e3⟩ := hE.keep hb2
          have hz2 := hk.size
          have hzr := hb.size
          clear hown hc0 hc1 hc2 hc3 hE al
          go_wp2_with (at_builtin; refine wpList_app1 (P := Try.prog) w2 rfl (.tmp 22) (.tmp 24) 59 rfl w.heap.size 63 _ 4 40 Try.underlying59 infoEvent rfl (by omega) (.slice O _ cap) _ _ rfl hown2 #[.int .i64 (eAt l j).t, .int .i64 (eAt l j).c, .int .i64 (eAt l j).n, .string (eAt l j).x] rfl rfl (by simp [Value.oneCell']) (by unfold maxLen; omega) (by omega) (Nat.le_trans hzr hz2) ?_; intro A' c' w3 hown3 hg3 hb3 _)
          refine ⟨⟨j + 1, A', c', by omega, by go_num, ?_⟩, by simp [intOf]; omega⟩
          rw [HS.out, evsL_snoc]
          exact ⟨by simp, by simpa [evL] using hown3, (bthen hb hk).trans hb3⟩
      · go_wp2
        go_returns
        have : j = l.length := by have := HL.out; omega
        subst this
        exact ⟨O, _, cap, rfl, EvsIn.of_own hown, hb⟩
end Go.Proofs.Ytmichbgiaoopgaa
