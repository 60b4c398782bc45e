/- The draws of stamps: l32Stamp, DrawStampHear, DrawStampLess. -/
import Derived.Test.YtbehiocdeefpmaaDraw
import Derived.Test.YtbehiocdeefpmaaDag
namespace Go.Proofs.Ytbehiocdeefpmaa
open Go.RowKit

/-- three cells of ints that may be written -/
structure SBox (w : World) (g : Nat) (a b c : Int) : Prop where
  c0 : w.cell? ⟨g, 0, none⟩ = some (.int .i64 a)
  c1 : w.cell? ⟨g, 1, none⟩ = some (.int .i64 b)
  c2 : w.cell? ⟨g, 2, none⟩ = some (.int .i64 c)
  f0 : w.frozen? ⟨g, 0, none⟩ = false
  f1 : w.frozen? ⟨g, 1, none⟩ = false
  f2 : w.frozen? ⟨g, 2, none⟩ = false
section
variable {w w' : World} {g : Nat} {a b c : Int}
theorem SBox.lt (h : SBox w g a b c) : g < w.heap.size := cell_lt h.c0
theorem SBox.ch {S : Nat → Prop} (h : SBox w g a b c) (hc : Ch S w w') (hn : ¬ S g) : SBox w' g a b c :=
  ⟨hc.cell h.c0 hn, hc.cell h.c1 hn, hc.cell h.c2 hn, (hc.frozen h.lt hn).trans h.f0, (hc.frozen h.lt hn).trans h.f1, (hc.frozen h.lt hn).trans h.f2⟩
theorem SBox.keep (h : SBox w g a b c) (hb : Below w.heap.size w w') : SBox w' g a b c := h.ch (S := fun _ => False) (Ch.of_below hb) (fun h => h)
theorem SBox.s0 (h : SBox w g a b c) (v : Int) : SBox (w.setCell ⟨g, 0, none⟩ (.int .i64 v)) g v b c :=
  ⟨sethere h.c0, setoff h.c1 (.inr (by omega)), setoff h.c2 (.inr (by omega)), (World.frozen?_setCell _ _ _ _).trans h.f0, (World.frozen?_setCell _ _ _ _).trans h.f1, (World.frozen?_setCell _ _ _ _).trans h.f2⟩
theorem SBox.s1 (h : SBox w g a b c) (v : Int) : SBox (w.setCell ⟨g, 1, none⟩ (.int .i64 v)) g a v c :=
  ⟨setoff h.c0 (.inr (by omega)), sethere h.c1, setoff h.c2 (.inr (by omega)), (World.frozen?_setCell _ _ _ _).trans h.f0, (World.frozen?_setCell _ _ _ _).trans h.f1, (World.frozen?_setCell _ _ _ _).trans h.f2⟩
theorem SBox.s2 (h : SBox w g a b c) (v : Int) : SBox (w.setCell ⟨g, 2, none⟩ (.int .i64 v)) g a b v :=
  ⟨setoff h.c0 (.inr (by omega)), setoff h.c1 (.inr (by omega)), sethere h.c2, (World.frozen?_setCell _ _ _ _).trans h.f0, (World.frozen?_setCell _ _ _ _).trans h.f1, (World.frozen?_setCell _ _ _ _).trans h.f2⟩
theorem SBox.new (w : World) (t : Nat) (a b c : Int) : SBox (w.alloc (.cells #[.int .i64 a, .int .i64 b, .int .i64 c] t)) w.heap.size a b c := by
  refine ⟨?_, ?_, ?_, ?_, ?_, ?_⟩ <;> simp [go_sem]
theorem SBox.s3 (h : SBox w g a b c) (x y z : Int) : SBox (((w.setCell ⟨g, 0, none⟩ (.int .i64 x)).setCell ⟨g, 1, none⟩ (.int .i64 y)).setCell ⟨g, 2, none⟩ (.int .i64 z)) g x y z := ((h.s0 x).s1 y).s2 z
end

/-- the draw of a stamp on its way: cursor g, result in the block of w's size, the stamp in block s -/
structure Mid (w X : World) (g s : Nat) (p q r : Int) : Prop where
  cur : Cur X g
  res : SBox X w.heap.size 0 0 0
  box : SBox X s p q r
  lt : w.heap.size < s
  ch : Ch (fun k => k = g) w X
  gl : g < w.heap.size
section
variable {w X X' : World} {g s : Nat} {p q r : Int}
theorem Mid.go (h : Mid w X g s p q r) (hc : Cur X' g) (hch : Ch (fun k => k = g) X X') : Mid w X' g s p q r :=
  have := h.gl; have := h.lt
  ⟨hc, h.res.ch hch (by omega), h.box.ch hch (by omega), h.lt, h.ch.trans hch, h.gl⟩
theorem Mid.al (h : Mid w X g s p q r) (o : Obj) : Mid w (X.alloc o) g s p q r :=
  have al := (Below.refl X.heap.size X).alloc (Nat.le_refl _) o
  ⟨h.cur.keep al, h.res.keep al, h.box.keep al, h.lt, h.ch.trans (Ch.of_below al), h.gl⟩
theorem Mid.st (h : Mid w X g s p q r) {j : Nat} {v : Value} {p' q' r' : Int} (hb : SBox (X.setCell ⟨s, j, none⟩ v) s p' q' r') : Mid w (X.setCell ⟨s, j, none⟩ v) g s p' q' r' :=
  have hg := h.gl; have hl := h.lt
  have one : Ch (fun k => k = s) X (X.setCell ⟨s, j, none⟩ v) := Ch.one
  ⟨h.cur.ch one (fun k hk => by omega), h.res.ch one (by omega), hb, h.lt, h.ch.thenB ((Below.refl _ _).setCell (by show w.heap.size ≤ s; omega) _), h.gl⟩
end

set_option maxRecDepth 4000 in
set_option maxHeartbeats 1000000 in
theorem l32Stamp_any (g : Nat) (w : World) (h : Cur w g) :
    Calls Try.prog 36 #[.pointer (some ⟨g, 0, none⟩)] w fun e w' => ∃ a b c, e = .returned (.agg #[.int .i64 a, .int .i64 b, .int .i64 c]) ∧ Cur w' g ∧ Ch (fun k => k = g) w w' := by
  have hlt := h.lt
  have al0 := (Below.refl w.heap.size w).alloc (Nat.le_refl _) (.cells #[.int .i64 0, .int .i64 0, .int .i64 0] 24)
  have hR := SBox.new w 24 0 0 0
  go_enter Try.func36, Try.ntmps36
  go_wp2_with fail
  refine (l1Below_any g _ _ (h.keep al0) (by omega)).mono ?_
  rintro e w1 ⟨x1, rfl, _, _, _, hc1, hch1⟩
  go_wp2_with fail
  refine (l1Below_any g _ _ hc1 (by omega)).mono ?_
  rintro e w2 ⟨x2, rfl, _, _, _, hc2, hch2⟩
  go_wp2_with fail
  refine (l1Below_any g _ _ hc2 (by omega)).mono ?_
  rintro e w3 ⟨x3, rfl, _, _, _, hc3, hch3⟩
  have hch := (hch1.trans hch2).trans hch3
  have hR3 := hR.ch hch (by omega)
  have hz3 : w.heap.size + 1 ≤ w3.heap.size := by have := hch.size; simpa using this
  have al3 := (Below.refl w3.heap.size w3).alloc (Nat.le_refl _) (.cells #[.int .i64 x1, .int .i64 x2, .int .i64 x3] 24)
  have M : Mid w (w3.alloc (.cells #[.int .i64 x1, .int .i64 x2, .int .i64 x3] 24)) g w3.heap.size x1 x2 x3 :=
    ⟨hc3.keep al3, hR3.keep al3, SBox.new w3 _ _ _ _, by omega, ((Ch.of_below al0).trans hch).trans (Ch.of_below al3), hlt⟩
  have hsz : w.heap.size ≠ w3.heap.size := by omega
  clear hc1 hc2 hc3 hch1 hch2 hch3 hch hR3 hR al0 al3
  go_wp2_with fail

  refine (l1Once_any g _ _ M.cur (by omega)).mono ?_
  rintro e y1 ⟨q1, rfl, hc, hch⟩
  have M := M.go hc hch
  clear hc hch
  cases q1
  · go_wp2_with fail
    refine (l1Once_any g _ _ M.cur (by omega)).mono ?_
    rintro e y2 ⟨q2, rfl, hc, hch⟩
    have M := M.go hc hch
    clear hc hch
    cases q2
    · go_wp2_with fail
      refine (l1Once_any g _ _ M.cur (by omega)).mono ?_
      rintro e y3 ⟨q3, rfl, hc, hch⟩
      have M := M.go hc hch
      clear hc hch
      cases q3
      · obtain ⟨b0, b1, b2, g0, g1, g2⟩ := M.box
        obtain ⟨r0, r1, r2, h0, h1, h2⟩ := M.res
        go_wp2
        obtain ⟨WF, hWF, t0, t1, t2⟩ := set3 (u := .int .i64 x1) (v := .int .i64 x2) (x := .int .i64 x3) r0 r1 r2
        rw [← hWF]
        have hB := hWF ▸ ((((Below.refl w.heap.size _).setCell (Nat.le_refl _) _).setCell (Nat.le_refl _) _).setCell (Nat.le_refl _) _)
        exact bodyPost_ret (v := .agg #[.int .i64 x1, .int .i64 x2, .int .i64 x3]) (by simp [results, Try.results36, go_sem, t0, t1, t2]) rfl ⟨_, _, _, rfl, M.cur.below hB M.gl, M.ch.thenB hB⟩
      · have M := M.al (.cells #[.int .i64 (-1), .int .i64 3] 3)
        go_wp2_with fail
        refine (l1PickInt_any g _ 2 _ (fun i => if i = 0 then -1 else 3) _ M.cur (by
          refine fun _ => ⟨_, 0, rfl, by simp, fun i hi => ?_⟩
          rcases (show i = 0 ∨ i = 1 by omega) with rfl | rfl <;> simp [go_sem, intV]) (by omega) (by omega) (fun b off e => by injection e with e; injection e with e _ _; have := M.gl; have := M.ch.size; have := M.cur.lt; have := M.box.lt; simp at *; omega)).mono ?_
        rintro e y4 ⟨t, ht, rfl, hc, hch⟩
        generalize (if t = 0 then -1 else 3 : Int) = x4v
        have M := M.go hc hch
        clear hc hch
        have B := M.box
        obtain ⟨b0, b1, b2, g0, g1, g2⟩ := id B
        have M := M.st (B.s2 x4v)
        clear B
        obtain ⟨b0, b1, b2, g0, g1, g2⟩ := M.box
        obtain ⟨r0, r1, r2, h0, h1, h2⟩ := M.res
        go_wp2
        obtain ⟨WF, hWF, t0, t1, t2⟩ := set3 (u := .int .i64 x1) (v := .int .i64 x2) (x := .int .i64 x4v) r0 r1 r2
        rw [← hWF]
        have hB := hWF ▸ ((((Below.refl w.heap.size _).setCell (Nat.le_refl _) _).setCell (Nat.le_refl _) _).setCell (Nat.le_refl _) _)
        exact bodyPost_ret (v := .agg #[.int .i64 x1, .int .i64 x2, .int .i64 x4v]) (by simp [results, Try.results36, go_sem, t0, t1, t2]) rfl ⟨_, _, _, rfl, M.cur.below hB M.gl, M.ch.thenB hB⟩
    · have M := M.al (.cells #[.int .i64 (-1), .int .i64 1000000, .int .i64 1000001] 3)
      go_wp2_with fail
      refine (l1PickInt_any g _ 3 _ (fun i => if i = 0 then -1 else if i = 1 then 1000000 else 1000001) _ M.cur (by
        refine fun _ => ⟨_, 0, rfl, by simp, fun i hi => ?_⟩
        rcases (show i = 0 ∨ i = 1 ∨ i = 2 by omega) with rfl | rfl | rfl <;> simp [go_sem, intV]) (by omega) (by omega) (fun b off e => by injection e with e; injection e with e _ _; have := M.gl; have := M.ch.size; have := M.cur.lt; have := M.box.lt; simp at *; omega)).mono ?_
      rintro e y5 ⟨t, ht, rfl, hc, hch⟩
      generalize (if t = 0 then -1 else if t = 1 then 1000000 else 1000001 : Int) = x5v
      have M := M.go hc hch
      clear hc hch
      have B := M.box
      obtain ⟨b0, b1, b2, g0, g1, g2⟩ := id B
      have M := M.st (B.s0 x5v)
      clear B
      go_wp2_with fail
      refine (l1Once_any g _ _ M.cur (by omega)).mono ?_
      rintro e y6 ⟨q6, rfl, hc, hch⟩
      have M := M.go hc hch
      clear hc hch
      cases q6
      · obtain ⟨b0, b1, b2, g0, g1, g2⟩ := M.box
        obtain ⟨r0, r1, r2, h0, h1, h2⟩ := M.res
        go_wp2
        obtain ⟨WF, hWF, t0, t1, t2⟩ := set3 (u := .int .i64 x5v) (v := .int .i64 x2) (x := .int .i64 x3) r0 r1 r2
        rw [← hWF]
        have hB := hWF ▸ ((((Below.refl w.heap.size _).setCell (Nat.le_refl _) _).setCell (Nat.le_refl _) _).setCell (Nat.le_refl _) _)
        exact bodyPost_ret (v := .agg #[.int .i64 x5v, .int .i64 x2, .int .i64 x3]) (by simp [results, Try.results36, go_sem, t0, t1, t2]) rfl ⟨_, _, _, rfl, M.cur.below hB M.gl, M.ch.thenB hB⟩
      · have M := M.al (.cells #[.int .i64 (-1), .int .i64 3] 3)
        go_wp2_with fail
        refine (l1PickInt_any g _ 2 _ (fun i => if i = 0 then -1 else 3) _ M.cur (by
          refine fun _ => ⟨_, 0, rfl, by simp, fun i hi => ?_⟩
          rcases (show i = 0 ∨ i = 1 by omega) with rfl | rfl <;> simp [go_sem, intV]) (by omega) (by omega) (fun b off e => by injection e with e; injection e with e _ _; have := M.gl; have := M.ch.size; have := M.cur.lt; have := M.box.lt; simp at *; omega)).mono ?_
        rintro e y7 ⟨t, ht, rfl, hc, hch⟩
        generalize (if t = 0 then -1 else 3 : Int) = x7v
        have M := M.go hc hch
        clear hc hch
        have B := M.box
        obtain ⟨b0, b1, b2, g0, g1, g2⟩ := id B
        have M := M.st (B.s2 x7v)
        clear B
        obtain ⟨b0, b1, b2, g0, g1, g2⟩ := M.box
        obtain ⟨r0, r1, r2, h0, h1, h2⟩ := M.res
        go_wp2
        obtain ⟨WF, hWF, t0, t1, t2⟩ := set3 (u := .int .i64 x5v) (v := .int .i64 x2) (x := .int .i64 x7v) r0 r1 r2
        rw [← hWF]
        have hB := hWF ▸ ((((Below.refl w.heap.size _).setCell (Nat.le_refl _) _).setCell (Nat.le_refl _) _).setCell (Nat.le_refl _) _)
        exact bodyPost_ret (v := .agg #[.int .i64 x5v, .int .i64 x2, .int .i64 x7v]) (by simp [results, Try.results36, go_sem, t0, t1, t2]) rfl ⟨_, _, _, rfl, M.cur.below hB M.gl, M.ch.thenB hB⟩
  · go_wp2_with fail
    refine (l1Below_any g _ _ M.cur (by omega)).mono ?_
    rintro e y8 ⟨x8v, rfl, hv0, hv1, _, hc, hch⟩
    have hv2 := hv1 (by omega)
    have M := M.go hc hch
    clear hc hch
    have B := M.box
    obtain ⟨b0, b1, b2, g0, g1, g2⟩ := id B
    have M := M.st (B.s1 (998 + x8v))
    clear B
    go_wp2_with fail
    refine (l1Once_any g _ _ M.cur (by omega)).mono ?_
    rintro e y9 ⟨q9, rfl, hc, hch⟩
    have M := M.go hc hch
    clear hc hch
    cases q9
    · go_wp2_with fail
      refine (l1Once_any g _ _ M.cur (by omega)).mono ?_
      rintro e y10 ⟨q10, rfl, hc, hch⟩
      have M := M.go hc hch
      clear hc hch
      cases q10
      · obtain ⟨b0, b1, b2, g0, g1, g2⟩ := M.box
        obtain ⟨r0, r1, r2, h0, h1, h2⟩ := M.res
        go_wp2
        obtain ⟨WF, hWF, t0, t1, t2⟩ := set3 (u := .int .i64 x1) (v := .int .i64 (998 + x8v)) (x := .int .i64 x3) r0 r1 r2
        rw [← hWF]
        have hB := hWF ▸ ((((Below.refl w.heap.size _).setCell (Nat.le_refl _) _).setCell (Nat.le_refl _) _).setCell (Nat.le_refl _) _)
        exact bodyPost_ret (v := .agg #[.int .i64 x1, .int .i64 (998 + x8v), .int .i64 x3]) (by simp [results, Try.results36, go_sem, t0, t1, t2]) rfl ⟨_, _, _, rfl, M.cur.below hB M.gl, M.ch.thenB hB⟩
      · have M := M.al (.cells #[.int .i64 (-1), .int .i64 3] 3)
        go_wp2_with fail
        refine (l1PickInt_any g _ 2 _ (fun i => if i = 0 then -1 else 3) _ M.cur (by
          refine fun _ => ⟨_, 0, rfl, by simp, fun i hi => ?_⟩
          rcases (show i = 0 ∨ i = 1 by omega) with rfl | rfl <;> simp [go_sem, intV]) (by omega) (by omega) (fun b off e => by injection e with e; injection e with e _ _; have := M.gl; have := M.ch.size; have := M.cur.lt; have := M.box.lt; simp at *; omega)).mono ?_
        rintro e y11 ⟨t, ht, rfl, hc, hch⟩
        generalize (if t = 0 then -1 else 3 : Int) = x11v
        have M := M.go hc hch
        clear hc hch
        have B := M.box
        obtain ⟨b0, b1, b2, g0, g1, g2⟩ := id B
        have M := M.st (B.s2 x11v)
        clear B
        obtain ⟨b0, b1, b2, g0, g1, g2⟩ := M.box
        obtain ⟨r0, r1, r2, h0, h1, h2⟩ := M.res
        go_wp2
        obtain ⟨WF, hWF, t0, t1, t2⟩ := set3 (u := .int .i64 x1) (v := .int .i64 (998 + x8v)) (x := .int .i64 x11v) r0 r1 r2
        rw [← hWF]
        have hB := hWF ▸ ((((Below.refl w.heap.size _).setCell (Nat.le_refl _) _).setCell (Nat.le_refl _) _).setCell (Nat.le_refl _) _)
        exact bodyPost_ret (v := .agg #[.int .i64 x1, .int .i64 (998 + x8v), .int .i64 x11v]) (by simp [results, Try.results36, go_sem, t0, t1, t2]) rfl ⟨_, _, _, rfl, M.cur.below hB M.gl, M.ch.thenB hB⟩
    · have M := M.al (.cells #[.int .i64 (-1), .int .i64 1000000, .int .i64 1000001] 3)
      go_wp2_with fail
      refine (l1PickInt_any g _ 3 _ (fun i => if i = 0 then -1 else if i = 1 then 1000000 else 1000001) _ M.cur (by
        refine fun _ => ⟨_, 0, rfl, by simp, fun i hi => ?_⟩
        rcases (show i = 0 ∨ i = 1 ∨ i = 2 by omega) with rfl | rfl | rfl <;> simp [go_sem, intV]) (by omega) (by omega) (fun b off e => by injection e with e; injection e with e _ _; have := M.gl; have := M.ch.size; have := M.cur.lt; have := M.box.lt; simp at *; omega)).mono ?_
      rintro e y12 ⟨t, ht, rfl, hc, hch⟩
      generalize (if t = 0 then -1 else if t = 1 then 1000000 else 1000001 : Int) = x12v
      have M := M.go hc hch
      clear hc hch
      have B := M.box
      obtain ⟨b0, b1, b2, g0, g1, g2⟩ := id B
      have M := M.st (B.s0 x12v)
      clear B
      go_wp2_with fail
      refine (l1Once_any g _ _ M.cur (by omega)).mono ?_
      rintro e y13 ⟨q13, rfl, hc, hch⟩
      have M := M.go hc hch
      clear hc hch
      cases q13
      · obtain ⟨b0, b1, b2, g0, g1, g2⟩ := M.box
        obtain ⟨r0, r1, r2, h0, h1, h2⟩ := M.res
        go_wp2
        obtain ⟨WF, hWF, t0, t1, t2⟩ := set3 (u := .int .i64 x12v) (v := .int .i64 (998 + x8v)) (x := .int .i64 x3) r0 r1 r2
        rw [← hWF]
        have hB := hWF ▸ ((((Below.refl w.heap.size _).setCell (Nat.le_refl _) _).setCell (Nat.le_refl _) _).setCell (Nat.le_refl _) _)
        exact bodyPost_ret (v := .agg #[.int .i64 x12v, .int .i64 (998 + x8v), .int .i64 x3]) (by simp [results, Try.results36, go_sem, t0, t1, t2]) rfl ⟨_, _, _, rfl, M.cur.below hB M.gl, M.ch.thenB hB⟩
      · have M := M.al (.cells #[.int .i64 (-1), .int .i64 3] 3)
        go_wp2_with fail
        refine (l1PickInt_any g _ 2 _ (fun i => if i = 0 then -1 else 3) _ M.cur (by
          refine fun _ => ⟨_, 0, rfl, by simp, fun i hi => ?_⟩
          rcases (show i = 0 ∨ i = 1 by omega) with rfl | rfl <;> simp [go_sem, intV]) (by omega) (by omega) (fun b off e => by injection e with e; injection e with e _ _; have := M.gl; have := M.ch.size; have := M.cur.lt; have := M.box.lt; simp at *; omega)).mono ?_
        rintro e y14 ⟨t, ht, rfl, hc, hch⟩
        generalize (if t = 0 then -1 else 3 : Int) = x14v
        have M := M.go hc hch
        clear hc hch
        have B := M.box
        obtain ⟨b0, b1, b2, g0, g1, g2⟩ := id B
        have M := M.st (B.s2 x14v)
        clear B
        obtain ⟨b0, b1, b2, g0, g1, g2⟩ := M.box
        obtain ⟨r0, r1, r2, h0, h1, h2⟩ := M.res
        go_wp2
        obtain ⟨WF, hWF, t0, t1, t2⟩ := set3 (u := .int .i64 x12v) (v := .int .i64 (998 + x8v)) (x := .int .i64 x14v) r0 r1 r2
        rw [← hWF]
        have hB := hWF ▸ ((((Below.refl w.heap.size _).setCell (Nat.le_refl _) _).setCell (Nat.le_refl _) _).setCell (Nat.le_refl _) _)
        exact bodyPost_ret (v := .agg #[.int .i64 x12v, .int .i64 (998 + x8v), .int .i64 x14v]) (by simp [results, Try.results36, go_sem, t0, t1, t2]) rfl ⟨_, _, _, rfl, M.cur.below hB M.gl, M.ch.thenB hB⟩
end Go.Proofs.Ytbehiocdeefpmaa
