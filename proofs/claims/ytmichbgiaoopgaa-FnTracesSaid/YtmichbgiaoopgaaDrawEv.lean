/- The draws of events: l36Some, DrawDoubles, DrawGaps. -/
import Derived.Test.YtmichbgiaoopgaaDraw
import Derived.Test.YtmichbgiaoopgaaEvRow
namespace Go.Proofs.Ytmichbgiaoopgaa
open Go.RowKit
attribute [local irreducible] StrsAt

theorem EvsIn.set {lo hi g n c k r : Nat} {w : World} {l : List Ev} {v : Value} {e' : Ev} (h : EvsIn lo hi w (some ⟨g, 0, none⟩) n c l) (hk : k < l.length) (hr : r < 4) (he : (evL (eAt l k)).set r v = evL e') :
    EvsIn lo hi (w.setCell ⟨g, k * 4 + r, none⟩ v) (some ⟨g, 0, none⟩) n c (l.set k e') :=
  ⟨by rw [← evsL_set l hk hr he]; exact (h.row.store _ v).1⟩
def smallEv (l : List Ev) : Prop := ∀ e ∈ l, e.x.size ≤ 4
theorem smallEv.sz {l : List Ev} (h : smallEv l) : evsSz l ≤ 5 * l.length := by
  unfold evsSz
  induction l with
  | nil => simp
  | cons a l ih =>
    have h1 := ih (fun e he => h e (List.mem_cons_of_mem _ he))
    have h2 := h a (List.mem_cons_self ..)
    simp only [List.length_cons, List.map_cons, List.sum_cons]
    unfold evSz at *
    omega
theorem smallEv.set {l : List Ev} {k : Nat} {e : Ev} (h : smallEv l) (he : e.x.size ≤ 4) : smallEv (l.set k e) := fun x hx => by
  rcases List.mem_or_eq_of_mem_set hx with hx | rfl
  · exact h x hx
  · exact he
theorem smallEv.at_ {l : List Ev} (h : smallEv l) (k : Nat) : (eAt l k).x.size ≤ 4 := by
  rcases Nat.lt_or_ge k l.length with hk | hk
  · rw [eAt_get hk]; exact h _ (List.getElem_mem _)
  · simp [eAt, hk, evNil]

/-- a list of few events that a draw made -/
def EvDraw (w : World) (g : Nat) (e : Ending) (w' : World) : Prop :=
  ∃ A n c l, e = .returned (.slice A n c) ∧ EvsIn w.heap.size w'.heap.size w' A n c l ∧ n ≤ 11 ∧ smallEv l ∧ Cur w' g ∧ Ch (fun k => k = g) w w'
def okTx : List ByteArray := [⟨#[111, 107]⟩, ⟨#[111, 107]⟩, ⟨#[110, 111, 110, 101]⟩]
theorem okTx_size (i : Nat) : (sAt okTx i).size ≤ 4 := by
  unfold sAt okTx
  rcases i with _ | _ | _ | i
  · decide
  · decide
  · decide
  · simp

set_option maxRecDepth 4000 in
set_option maxHeartbeats 1000000 in
theorem l36Some_any (g : Nat) (w : World) (h : Cur w g) :
    Calls Try.prog 94 #[.pointer (some ⟨g, 0, none⟩)] w (EvDraw w g) := by
  have hlt := h.lt
  go_enter Try.func94, Try.ntmps94
  go_wp2_with fail
  refine (l1Below_any g _ _ (h.keep (by go_grown)) (by omega)).mono ?_
  rintro e w1 ⟨x, rfl, hx0, hx1, _, hc1, hch1⟩
  obtain ⟨m, rfl⟩ := Int.eq_ofNat_of_zero_le hx0
  have hm : m < 12 := by have := hx1 (by omega); omega
  have hown1 := own_ch (own_empty w 63 4 (Nat.le_refl w.heap.size)) hch1 (fun k hk e => by simp [Value.ownBlock] at hk; omega)
  have hchw : Ch (fun k => k = g) w w1 := (Ch.of_below ((Below.refl _ _).alloc (Nat.le_refl _) _)).trans hch1
  go_wp2
  go_loopw [3, 4, 5] (fun o t u wr => ∃ (k : Nat) (L : List Ev) (O : Option Addr) (cap : Nat) (a : Int), u = .int .i64 k ∧ L.length + k = m ∧ t = .int .i64 a ∧ 0 ≤ a ∧ a ≤ 4 * L.length ∧ o = .slice O L.length cap ∧ wr.ownsRow w.heap.size 63 4 (.slice O L.length cap) L.length (evsL L) ∧ smallEv L ∧ Cur wr g ∧ Ch (fun k => k = g) w wr) (fun _ _ u _ => (intOf u).toNat)
  case atStart => exact ⟨m, [], _, 0, 0, rfl, by simp, rfl, by omega, by simp, rfl, hown1, (fun _ h => by cases h), hc1, hchw⟩
  case round =>
    obtain ⟨k, L, O, cap, a, rfl, hk, rfl, ha0, ha1, rfl, hown, hsm, hc, hch⟩ := hrel
    by_cases hpos : 0 < k
    · have hzw := hch.size
      go_wp2_with fail
      refine (l1Below_any g _ _ hc (by omega)).mono ?_
      rintro e w2 ⟨x2, rfl, hx20, hx21, _, hc2, hch2⟩
      have hx2 := hx21 (by omega)
      go_wp2_with fail
      refine (l1Below_any g _ _ hc2 (by omega)).mono ?_
      rintro e w3 ⟨x3, rfl, hx30, hx31, _, hc3, hch3⟩
      have hx3 := hx31 (by omega)
      go_wp2_with fail
      refine (l1Below_any g _ _ hc3 (by omega)).mono ?_
      rintro e w4 ⟨x4, rfl, hx40, hx41, _, hc4, hch4⟩
      have hx4 := hx41 (by omega)
      have hz4 : w.heap.size ≤ w4.heap.size := Nat.le_trans hzw (Nat.le_trans hch2.size (Nat.le_trans hch3.size hch4.size))
      go_wp2_with fail
      have al := (Below.refl w4.heap.size w4).alloc (Nat.le_refl _) (.cells #[.string ⟨#[111, 107]⟩, .string ⟨#[111, 107]⟩, .string ⟨#[110, 111, 110, 101]⟩] 9)
      refine (l1Pick_any g _ 3 _ okTx _ (hc4.keep al) (by
        unfold StrsAt
        refine ⟨rfl, fun _ => ⟨_, 0, rfl, by simp, fun i hi => ?_⟩⟩
        rcases (show i = 0 ∨ i = 1 ∨ i = 2 by omega) with rfl | rfl | rfl <;> simp [go_sem, okTx, sAt]) (by omega) (by omega) (fun b off e => by injection e with e; injection e with e _ _; omega)).mono ?_
      rintro e w5 ⟨i, hi, rfl, hc5, hch5⟩
      have hown5 := own_off ((RowIn.of_own (own_off (own_off (own_off hown hch2 hlt) hch3 hlt) hch4 hlt)).keep al).own hch5 hlt
      have hch5w : Ch (fun k => k = g) w w5 := ((((hch.trans hch2).trans hch3).trans hch4).trans (Ch.of_below al)).trans hch5
      have hz5 := hch5w.size
      clear hown hc hc2 hc3 hc4 hch2 hch3 hch4 hch5 hch al
      have hln : L.length ≤ 11 := by omega
      go_wp2_with (at_builtin; refine wpList_app1 (P := Try.prog) w5 rfl (.tmp 18) (.tmp 30) 59 rfl w.heap.size 63 _ 4 40 Try.underlying59 infoEvent rfl (by omega) (.slice O _ cap) _ _ rfl hown5 #[.int .i64 (a + x2), .int .i64 (1 + x3), .int .i64 (1 + x4), .string (sAt okTx i)] rfl rfl (by simp [Value.oneCell']) (by unfold maxLen; omega) (by omega) hz5 ?_; intro A' c' w6 hown6 hg6 hb6 _)
      have hsize := okTx_size i
      refine ⟨⟨k - 1, L ++ [⟨a + x2, 1 + x3, 1 + x4, sAt okTx i⟩], A', c', a + x2, ?_, by simp; omega, rfl, by omega, by simp; omega, by simp, by rw [evsL_snoc]; simpa [evL] using hown6, fun e he => ?_, hc5.below hb6 hlt, hch5w.thenB hb6⟩, by simp [intOf]; omega⟩
      · congr 1; omega
      · rcases List.mem_append.1 he with he | he
        · exact hsm e he
        · have : e = ⟨a + x2, 1 + x3, 1 + x4, sAt okTx i⟩ := by simpa using he
          subst this; exact hsize
    · have hz := hch.size
      have hln : L.length ≤ 11 := by omega
      by_cases hl0 : 0 < L.length
      · go_wp2_with fail
        refine (l1Once_any g _ _ hc (by omega)).mono ?_
        rintro e w2 ⟨q, rfl, hc2, hch2⟩
        have hown2 := own_off hown hch2 hlt
        have hchw2 := hch.trans hch2
        clear hown hc hch hch2
        cases q
        · go_wp2
          go_returns
          exact ⟨O, L.length, cap, L, rfl, EvsIn.of_own hown2, hln, hsm, hc2, hchw2⟩
        · go_wp2_with fail
          refine (l1Below_any g _ _ hc2 (by omega)).mono ?_
          rintro e w3 ⟨x3, rfl, hx30, hx31, _, hc3, hch3⟩
          obtain ⟨i, rfl⟩ := Int.eq_ofNat_of_zero_le hx30
          have hi : i < L.length := by have := hx31 (by omega); omega
          go_wp2_with fail
          refine (l1Below_any g _ _ hc3 (by omega)).mono ?_
          rintro e w4 ⟨x4, rfl, hx40, hx41, _, hc4, hch4⟩
          have hown4 := own_off (own_off hown2 hch3 hlt) hch4 hlt
          have hchw4 := (hchw2.trans hch3).trans hch4
          have hz4 := hchw4.size
          clear hown2 hc2 hc3 hch3 hch4
          have hx4 := hx41 (by omega)
          obtain ⟨gO, rfl⟩ := (RowIn.of_own hown4).head hl0
          have hblk := ((RowIn.of_own hown4).blk (g := gO) (by simp [BlkOf])).1.1
          have hsi := hsm.at_ i
          have hEI : EvsIn w.heap.size w4.heap.size w4 (some ⟨gO, 0, none⟩) L.length cap L := EvsIn.of_own hown4
          rcases (show x4 = 0 ∨ x4 = 1 ∨ x4 = 2 by omega) with rfl | rfl | rfl
          · obtain ⟨o0, ho0⟩ := own_cell hown4 (j := i * 4) (by omega)
            have hf0 := hown4.frozenAt (i * 4)
            have hset := hEI.set (k := i) (r := 0) (v := .int .i64 (a + 1)) (e' := ⟨a + 1, (eAt L i).c, (eAt L i).n, (eAt L i).x⟩) hi (by omega) rfl
            rw [Nat.add_zero] at hset
            go_wp2
            go_returns
            exact ⟨_, _, _, _, rfl, hset.wide (Nat.le_refl _) (by simp), hln, hsm.set hsi, hc4.ch (Ch.one (g := gO)) (fun k hk => by omega), hchw4.thenB ((Below.refl _ _).setCell hblk _)⟩
          · have al := (Below.refl w4.heap.size w4).alloc (Nat.le_refl _) (.cells #[.int .i64 0, .int .i64 9, .int .i64 10] 3)
            go_wp2_with fail
            refine (l1PickInt_any g _ 3 _ (fun i => if i = 0 then 0 else if i = 1 then 9 else 10) _ (hc4.keep al) (by
              refine fun _ => ⟨_, 0, rfl, by simp, fun i hi => ?_⟩
              rcases (show i = 0 ∨ i = 1 ∨ i = 2 by omega) with rfl | rfl | rfl <;> simp [go_sem, intV]) (by omega) (by omega) (fun b off e => by injection e with e; injection e with e _ _; have := hc4.lt; omega)).mono ?_
            rintro e w5 ⟨t, ht, rfl, hc5, hch5⟩
            have hown5 := own_off ((RowIn.of_own hown4).keep al).own hch5 hlt
            have hch5w := (hchw4.trans (Ch.of_below al)).trans hch5
            have hEI : EvsIn w.heap.size w5.heap.size w5 (some ⟨gO, 0, none⟩) L.length cap L := EvsIn.of_own hown5
            obtain ⟨o0, ho0⟩ := own_cell hown5 (j := i * 4 + 1) (by omega)
            have hf0 := hown5.frozenAt (i * 4 + 1)
            generalize (if t = 0 then 0 else if t = 1 then 9 else 10 : Int) = tv at *
            have hset := hEI.set (k := i) (r := 1) (v := .int .i64 tv) (e' := ⟨(eAt L i).t, tv, (eAt L i).n, (eAt L i).x⟩) hi (by omega) rfl
            go_wp2
            go_returns
            exact ⟨_, _, _, _, rfl, hset.wide (Nat.le_refl _) (by simp), hln, hsm.set hsi, hc5.ch (Ch.one (g := gO)) (fun k hk => by omega), hch5w.thenB ((Below.refl _ _).setCell hblk _)⟩
          · have al := (Below.refl w4.heap.size w4).alloc (Nat.le_refl _) (.cells #[.int .i64 0, .int .i64 1001] 3)
            go_wp2_with fail
            refine (l1PickInt_any g _ 2 _ (fun i => if i = 0 then 0 else 1001) _ (hc4.keep al) (by
              refine fun _ => ⟨_, 0, rfl, by simp, fun i hi => ?_⟩
              rcases (show i = 0 ∨ i = 1 by omega) with rfl | rfl <;> simp [go_sem, intV]) (by omega) (by omega) (fun b off e => by injection e with e; injection e with e _ _; have := hc4.lt; omega)).mono ?_
            rintro e w5 ⟨t, ht, rfl, hc5, hch5⟩
            have hown5 := own_off ((RowIn.of_own hown4).keep al).own hch5 hlt
            have hch5w := (hchw4.trans (Ch.of_below al)).trans hch5
            have hEI : EvsIn w.heap.size w5.heap.size w5 (some ⟨gO, 0, none⟩) L.length cap L := EvsIn.of_own hown5
            obtain ⟨o0, ho0⟩ := own_cell hown5 (j := i * 4 + 2) (by omega)
            have hf0 := hown5.frozenAt (i * 4 + 2)
            generalize (if t = 0 then 0 else 1001 : Int) = tv at *
            have hset := hEI.set (k := i) (r := 2) (v := .int .i64 tv) (e' := ⟨(eAt L i).t, (eAt L i).c, tv, (eAt L i).x⟩) hi (by omega) rfl
            go_wp2
            go_returns
            exact ⟨_, _, _, _, rfl, hset.wide (Nat.le_refl _) (by simp), hln, hsm.set hsi, hc5.ch (Ch.one (g := gO)) (fun k hk => by omega), hch5w.thenB ((Below.refl _ _).setCell hblk _)⟩
      · go_wp2
        go_returns
        exact ⟨O, L.length, cap, L, rfl, EvsIn.of_own hown, hln, hsm, hc, hch⟩

theorem drawDoubles_any (A : Option Addr) (n c : Nat) (f : Nat → Int) (w : World) (h : CodeAt w A n f) (hn : n ≤ 1048576) :
    Calls Try.prog 44 #[.slice A n c] w fun e w' => ∃ A n c l, e = .returned (.slice A n c) ∧ EvsIn w.heap.size w'.heap.size w' A n c l ∧ n ≤ 11 ∧ smallEv l ∧ Below w.heap.size w w' := by
  go_enter Try.func44, Try.ntmps44
  go_wp2_with fail
  refine (l1New_any _ _ _ _ _ h hn).mono ?_
  rintro e w1 ⟨rfl, hc, hb1⟩
  go_wp2_with fail
  refine (l36Some_any _ _ hc).mono ?_
  rintro e w2 ⟨A, n, c, l, rfl, hin, hn, hsm, hc2, hch⟩
  go_wp2
  go_returns
  exact ⟨A, n, c, l, rfl, hin.wide hb1.size (Nat.le_refl _), hn, hsm, hb1.trans (hch.below (fun k hk => by omega) hb1.size)⟩

theorem drawGaps_any (A : Option Addr) (n c : Nat) (f : Nat → Int) (w : World) (h : CodeAt w A n f) (hn : n ≤ 1048576) :
    Calls Try.prog 47 #[.slice A n c] w fun e w' => ∃ A n c l x, e = .returned (.tuple #[.slice A n c, .int .i64 x]) ∧ EvsIn w.heap.size w'.heap.size w' A n c l ∧ n ≤ 11 ∧ smallEv l ∧ Below w.heap.size w w' := by
  go_enter Try.func47, Try.ntmps47
  go_wp2_with fail
  refine (l1New_any _ _ _ _ _ h hn).mono ?_
  rintro e w1 ⟨rfl, hc, hb1⟩
  go_wp2_with fail
  refine (l36Some_any _ _ hc).mono ?_
  rintro e w2 ⟨A, n, c, l, rfl, hin, hn, hsm, hc2, hch⟩
  go_wp2_with fail
  refine (l1Below_any _ _ _ hc2 (by omega)).mono ?_
  rintro e w3 ⟨x, rfl, hx0, hx1, _, hc3, hch3⟩
  have hx := hx1 (by omega)
  go_wp2
  go_returns
  have hcc := hch.trans hch3
  exact ⟨A, n, c, l, 1 + x, rfl, (hin.ch hch3 (fun k hk e => by unfold Iv at hk; have := hc.lt; omega)).wide hb1.size hch3.size, hn, hsm, hb1.trans (hcc.below (fun k hk => by omega) hb1.size)⟩
end Go.Proofs.Ytmichbgiaoopgaa
