/- Contracts and lemmas: IntList, HasI, Code0, Draw, DrawX, DrawP. -/
import Derived.Test.YtdphdnllhmnelaaJ6
import Derived.Test.YtdphdnllhmnelaaJ13
import Derived.Test.YtdphdnllhmnelaaJ12
import Derived.Test.YtdphdnllhmnelaaJ1
import Derived.BigQuiet
import Derived.Deep.QuietTactic
/- The laws' helpers on []int in one shape. -/
namespace Go.Proofs.Ytdphdnllhmnelaa
open Go.RowKit

def iAt (l : List Int) (i : Nat) : Int := l.getD i 0
theorem iAt_get {l : List Int} {k : Nat} (h : k < l.length) : iAt l k = l[k] := by simp [iAt, h]
theorem map_iAt (l : List Int) : (List.range l.length).map (intV (iAt l)) = l.map (Value.int .i64) := by
  apply List.ext_getElem?
  intro j
  rcases Nat.lt_or_ge j l.length with hj | hj
  · simp [hj, iAt, intV]
  · rw [List.getElem?_eq_none (by simp; omega), List.getElem?_eq_none (by simp; omega)]
/-- a row of ints -/
def IntsAt (w : World) (A : Option Addr) (n : Nat) (l : List Int) : Prop := n = l.length ∧ ValsAt w A n (intV (iAt l))
theorem IntsAt.keep {w w' : World} {A : Option Addr} {n : Nat} {l : List Int} (h : IntsAt w A n l) (hb : Below w.heap.size w w') : IntsAt w' A n l := ⟨h.1, h.2.keep hb⟩
theorem IntsAt.at_ {w : World} {A : Option Addr} {n : Nat} {l : List Int} (h : IntsAt w A n l) (hn : 0 < n) :
    ∃ b off, A = some ⟨b, off, none⟩ ∧ b < w.heap.size ∧ ∀ i, i < n → w.cell? ⟨b, off + i, none⟩ = some (.int .i64 (iAt l i)) := h.2 hn
structure IntsOk (w : World) (A : Option Addr) (n : Nat) (l : List Int) : Prop where
  at_ : IntsAt w A n l
  bn : n ≤ 9223372036854775807
theorem IntsOk.keep {w w' : World} {A : Option Addr} {n : Nat} {l : List Int} (h : IntsOk w A n l) (hb : Below w.heap.size w w') : IntsOk w' A n l := ⟨h.at_.keep hb, h.bn⟩
structure IntsIn (lo hi : Nat) (w : World) (A : Option Addr) (n c : Nat) (l : List Int) : Prop where
  row : RowIn 3 1 lo hi w A n c (l.map (Value.int .i64))
section
variable {lo hi lo' hi' n c : Nat} {w w' : World} {A : Option Addr} {l : List Int}
theorem IntsIn.keep (h : IntsIn lo hi w A n c l) (hb : Below w.heap.size w w') : IntsIn lo hi w' A n c l := ⟨h.row.keep hb⟩
theorem IntsIn.ch {S : Nat → Prop} (h : IntsIn lo hi w A n c l) (hc : Ch S w w') (hS : ∀ k, Iv lo hi k → ¬ S k) : IntsIn lo hi w' A n c l := ⟨h.row.ch hc hS⟩
theorem IntsIn.wide (h : IntsIn lo hi w A n c l) (h1 : lo' ≤ lo) (h2 : hi ≤ hi') : IntsIn lo' hi' w A n c l := ⟨h.row.wide h1 h2⟩
theorem IntsIn.len (h : IntsIn lo hi w A n c l) : n = l.length := by have := h.row.len; simp at this; omega
theorem IntsIn.rowF (h : IntsIn lo hi w A n c l) : RowF 3 lo hi w A n c (intV (iAt l)) := by
  have hr := h.row
  unfold RowF
  rw [h.len, map_iAt]
  rwa [h.len] at hr
theorem IntsIn.at_ (h : IntsIn lo hi w A n c l) : IntsAt w A n l := ⟨h.len, h.rowF.vals⟩
theorem IntsIn.of_own (h : w.ownsRow lo 3 1 (.slice A n c) n (l.map (Value.int .i64))) : IntsIn lo w.heap.size w A n c l := ⟨RowIn.of_own h⟩
theorem IntsIn.nil : IntsIn lo hi w none 0 0 [] := ⟨RowIn.nil⟩
end
/-- the answer is ints in memory of the call's own -/
def IntsR (l : List Int) (w : World) (e : Ending) (w' : World) : Prop :=
  ∃ A n c, e = .returned (.slice A n c) ∧ IntsIn w.heap.size w'.heap.size w' A n c l ∧ Below w.heap.size w w'
def intsSz (l : List Int) : Nat := l.length
def intsMk (k : Int) (l : List Int) : List Int := (List.range l.length).map (mkI k)
def intsCnt (l : List Int) : Nat := l.length
theorem ints_n {w : World} {A : Option Addr} {n : Nat} {l : List Int} {m : Nat} (h : IntsAt w A n l) (hs : intsSz l ≤ m) : n ≤ m := by
  have := h.1; unfold intsSz at hs; omega
end Go.Proofs.Ytdphdnllhmnelaa
/- Is a number in a list: the reference's l18Has, slices.Contains at ints. -/
namespace Go.Proofs.Ytdphdnllhmnelaa
open Go.RowKit
def hasI (l : List Int) (x : Int) : Bool := decide (x ∈ l)
theorem hasI_yes {l : List Int} {k : Nat} {x : Int} (hk : k < l.length) (h : iAt l k = x) : hasI l x = true := by
  unfold hasI; rw [decide_eq_true_eq, ← h, iAt_get hk]; exact List.getElem_mem hk
theorem hasI_no {l : List Int} {x : Int} (h : ∀ j, j < l.length → iAt l j ≠ x) : hasI l x = false := by
  unfold hasI; rw [decide_eq_false_iff_not]
  intro hx
  obtain ⟨i, hi, e⟩ := List.mem_iff_getElem.1 hx
  exact h i hi (by rw [iAt_get hi, e])
theorem indexI_any (A : Option Addr) (n c : Nat) (l : List Int) (x : Int) (w : World) (h : IntsAt w A n l) (hn : n ≤ 9223372036854775807) :
    Calls Try.prog 123 #[.slice A n c, .int .i64 x] w fun e w' => ∃ i : Int, e = .returned (.int .i64 i) ∧ decide (0 ≤ i) = hasI l x ∧ w = w' := by
  have HL := Lib.hid h.1.symm
  go_enter Try.func123, Try.ntmps123
  go_wp2
  go_loop [8] (fun i => ∃ k : Nat, k ≤ n ∧ i = .int .i64 k ∧ ∀ j, j < k → iAt l j ≠ x) (fun i => n - (intOf i).toNat)
  case atStart => exact ⟨0, Nat.zero_le _, rfl, fun j hj => absurd hj (by omega)⟩
  case round =>
    obtain ⟨k, hk, rfl, hx⟩ := hrel
    have HX := Lib.hid hx; clear hx
    by_cases hlt : k < n
    · obtain ⟨b, off, rfl, hbl, hc⟩ := h.at_ (by omega)
      have hck := hc k hlt
      clear hc
      by_cases hxe : iAt l k = x
      · have HE := Lib.hid hxe
        rw [hxe] at hck
        clear hxe
        go_wp2
        go_returns
        exact ⟨k, rfl, by rw [hasI_yes (k := k) (by have := HL.out; omega) HE.out]; simp, rfl⟩
      · have HE := Lib.hid hxe
        have g1 : (x == iAt l k) = false := by simpa using fun h => hxe h.symm
        clear hxe
        go_wp2
        refine ⟨⟨k + 1, by omega, by go_num, ?_⟩, by simp [intOf]; omega⟩
        intro j hj
        by_cases e : j = k
        · subst e; exact HE.out
        · exact HX.out j (by omega)
    · go_wp2
      go_returns
      exact ⟨-1, rfl, by rw [hasI_no (fun j hj => HX.out j (by have := HL.out; omega))]; rfl, rfl⟩
theorem containsI_any (A : Option Addr) (n c : Nat) (l : List Int) (x : Int) (w : World) (h : IntsAt w A n l) (hn : n ≤ 9223372036854775807) :
    Calls Try.prog 67 #[.slice A n c, .int .i64 x] w fun e w' => e = .returned (.bool (hasI l x)) ∧ w = w' := by
  go_enter Try.func67, Try.ntmps67
  go_wp2_with fail
  refine (indexI_any _ _ _ _ _ _ h hn).mono ?_
  rintro e w' ⟨i, rfl, hi, rfl⟩
  have HI := Lib.hid hi; clear hi
  go_wp2
  go_returns
  exact ⟨by rw [HI.out]; rfl, rfl⟩
end Go.Proofs.Ytdphdnllhmnelaa
/- A law's code: bytes; big. -/
namespace Go.Proofs.Ytdphdnllhmnelaa
open Go.RowKit

/-- a code: n bytes -/
structure CodeAt (w : World) (A : Option Addr) (n : Nat) (f : Nat → Int) : Prop where
  vals : ValsAt w A n (fun j => .int .u8 (f j))
  bd : ∀ j, 0 ≤ f j ∧ f j ≤ 255
theorem CodeAt.keep {w w' : World} {A : Option Addr} {n : Nat} {f : Nat → Int} (h : CodeAt w A n f) (hb : Below w.heap.size w w') : CodeAt w' A n f := ⟨h.vals.keep hb, h.bd⟩

theorem big_any (A : Option Addr) (n c : Nat) (w : World) :
    Calls Try.prog 41 #[.slice A n c] w fun e w' => e = .returned (.bool (decide ((n : Int) > 1048576))) ∧ w = w' := by
  go_enter Try.func41, Try.ntmps41
  go_wp2
  go_returns
  exact ⟨rfl, rfl⟩

theorem u8_wf {n : Int} (h : (Lit.int .u8 n).wf = true) : 0 ≤ n ∧ n ≤ 255 := by
  simpa [Lit.wf, IntKind.min, IntKind.max, IntKind.signed, IntKind.bits] using h
instance : Inhabited {x : Int // 0 ≤ x ∧ x ≤ 255} := ⟨⟨0, by omega⟩⟩
section
open Go.ChangeShapes Go.WideShapes Go.ChangeAt Go.Deep Go.Joins
variable {H : Type} {enc : TypeId × Value → H} {w : World} {base : Nat} {spare : Nat → Bool} {held : Bool}
theorem cellsByte : Try.prog.cellsOf 5 = 1 := by kernel_rfl
set_option maxRecDepth 20000 in
theorem open_code {r : Reach} {b0 : Nat} {v : Value} {d : DataW H} {p : List MemPlace}
    (hv : Value.okWide Try.prog w r b0 74 v) (h : DataW.Trod enc Try.prog w base spare held 74 v d p) :
    ∃ (A : Option Addr) (n c : Nat) (f : Nat → Int), v = .slice A n c ∧ CodeAt w A n f ∧ n ≤ 9223372036854775807 := by
  obtain ⟨A, n, c, l, hcs, hr, hn⟩ := open_rows (C := fun _ cs (x : {x : Int // 0 ≤ x ∧ x ≤ 255}) => cs = [.int .u8 x.1]) Try.underlying74 cellsByte (by omega)
    (fun fu cs y h => by obtain ⟨m, hm, _, hw⟩ := DataW.trod_int Try.underlying5 h; exact ⟨⟨m, u8_wf hw⟩, hm⟩) hv h
  refine ⟨A, n, c, fun i => (l.getD i ⟨0, by omega⟩).1, hcs, ⟨fun hn => ?_, fun j => (l.getD j ⟨0, by omega⟩).2⟩, hn⟩
  obtain ⟨b, off, rfl, hlt, hc⟩ := hr.2 hn
  have hl := hr.1
  refine ⟨b, off, rfl, hlt, fun i hi => ?_⟩
  obtain ⟨cs, hx, _, hcell⟩ := hc i (l.getD i ⟨0, by omega⟩) (by simp [show i < l.length by omega])
  subst hx
  simpa using hcell 0 _ rfl
end
end Go.Proofs.Ytdphdnllhmnelaa
/- The draws' cursor: l1New, l1Byte, l1Below, l1Once, l1Pick, l1PickInt. -/
namespace Go.Proofs.Ytdphdnllhmnelaa
open Go.RowKit

/-- x & 255, x & 0x3fffffff -/
def and255 (n : Int) : Int := ((BitVec.ofInt 64 n &&& BitVec.ofInt 64 255).toNat : Int)
theorem and255_in (n : Int) : 0 ≤ and255 n ∧ and255 n ≤ 255 := by
  unfold and255
  have h : (BitVec.ofInt 64 n &&& BitVec.ofInt 64 255).toNat ≤ 255 := by
    rw [BitVec.toNat_and]
    exact Nat.le_trans Nat.and_le_right (by decide)
  omega
theorem bits_and255 (n : Int) : bits .and .i64 n 255 = and255 n := by
  have h := and255_in n
  show IntKind.i64.wrap ((BitVec.ofInt 64 n &&& BitVec.ofInt 64 255).toNat : Int) = _
  unfold and255 at h ⊢
  rw [IntKind.wrap_i64]; omega
def andBig (n : Int) : Int := ((BitVec.ofInt 64 n &&& BitVec.ofInt 64 1073741823).toNat : Int)
theorem andBig_in (n : Int) : 0 ≤ andBig n ∧ andBig n ≤ 1073741823 := by
  unfold andBig
  have h : (BitVec.ofInt 64 n &&& BitVec.ofInt 64 1073741823).toNat ≤ 1073741823 := by
    rw [BitVec.toNat_and]
    exact Nat.le_trans Nat.and_le_right (by decide)
  omega
theorem bits_andBig (n : Int) : bits .and .i64 n 1073741823 = andBig n := by
  have h := andBig_in n
  show IntKind.i64.wrap ((BitVec.ofInt 64 n &&& BitVec.ofInt 64 1073741823).toNat : Int) = _
  unfold andBig at h ⊢
  rw [IntKind.wrap_i64]; omega
attribute [local irreducible] and255 andBig
attribute [local go_sem] bits_and255 bits_andBig

/-- a cursor in block g over a code -/
structure Cur (w : World) (g : Nat) : Prop where
  ex : ∃ (A : Option Addr) (n c i : Nat) (h : Int) (f : Nat → Int), w.cell? ⟨g, 0, none⟩ = some (.slice A n c) ∧ w.cell? ⟨g, 1, none⟩ = some (.int .i64 i) ∧ w.cell? ⟨g, 2, none⟩ = some (.int .i64 h) ∧
    CodeAt w A n f ∧ n ≤ 1048576 ∧ i ≤ n ∧ w.frozen? ⟨g, 1, none⟩ = false ∧ w.frozen? ⟨g, 2, none⟩ = false ∧ (0 < n → ∀ b off, A = some ⟨b, off, none⟩ → b < g)
theorem Ch.frozen {S : Nat → Prop} {w w' : World} (h : Ch S w w') {g o : Nat} (hg : g < w.heap.size) (hn : ¬ S g) : w'.frozen? ⟨g, o, none⟩ = w.frozen? ⟨g, o, none⟩ := by
  have hb := h.block g hg hn
  unfold World.frozen?
  simp only [hb]
theorem CodeAt.ch {S : Nat → Prop} {w w' : World} {A : Option Addr} {n g : Nat} {f : Nat → Int} (h : CodeAt w A n f) (hc : Ch S w w') (hb : 0 < n → ∀ b off, A = some ⟨b, off, none⟩ → b < g) (hS : ∀ k, S k → g ≤ k) : CodeAt w' A n f :=
  ⟨fun hn => by
    obtain ⟨b, off, rfl, hlt, hcell⟩ := h.vals hn
    exact ⟨b, off, rfl, Nat.lt_of_lt_of_le hlt hc.size, fun i hi => hc.cell (hcell i hi) (fun hs => by have := hS b hs; have := hb hn b off rfl; omega)⟩, h.bd⟩
theorem Cur.lt {w : World} {g : Nat} (h : Cur w g) : g < w.heap.size := by
  obtain ⟨_, _, _, _, _, _, h0, _⟩ := h.ex
  exact cell_lt h0
theorem Cur.ch {S : Nat → Prop} {w w' : World} {g : Nat} (h : Cur w g) (hc : Ch S w w') (hS : ∀ k, S k → g < k) : Cur w' g := by
  have hlt := h.lt
  obtain ⟨A, n, c, i, u, f, h0, h1, h2, hcode, hn, hi, f1, f2, hb⟩ := h.ex
  have hg : ¬ S g := fun hs => by have := hS g hs; omega
  exact ⟨A, n, c, i, u, f, hc.cell h0 hg, hc.cell h1 hg, hc.cell h2 hg, hcode.ch hc hb (fun k hk => by have := hS k hk; omega), hn, hi, (hc.frozen hlt hg).trans f1, (hc.frozen hlt hg).trans f2, hb⟩
theorem Cur.keep {w w' : World} {g : Nat} (h : Cur w g) (hb : Below w.heap.size w w') : Cur w' g := h.ch (S := fun _ => False) (Ch.of_below hb) (fun _ h => h.elim)
theorem Ch.one {w : World} {g o : Nat} {v : Value} : Ch (fun k => k = g) w (w.setCell ⟨g, o, none⟩ v) := (Ch.refl (S := fun k => k = g) w).setCell (p := ⟨g, o, none⟩) rfl v
theorem Cur.set1 {w : World} {g : Nat} {j n c : Nat} {A : Option Addr} (h : Cur w g) (h0 : w.cell? ⟨g, 0, none⟩ = some (.slice A n c)) (hj : j ≤ n) : Cur (w.setCell ⟨g, 1, none⟩ (.int .i64 j)) g := by
  have hlt := h.lt
  obtain ⟨A', n', c', i', u, f, k0, k1, k2, hcode, hn, hi, f1, f2, hb⟩ := h.ex
  rw [h0] at k0
  injection k0 with k0
  injection k0 with e1 e2 e3
  subst e1 e2 e3
  exact ⟨A, n, c, j, u, f, setoff h0 (.inr (by omega)), sethere k1, setoff k2 (.inr (by omega)), hcode.ch Ch.one hb (fun k hk => by omega), hn, hj, (World.frozen?_setCell _ _ _ _).trans f1, (World.frozen?_setCell _ _ _ _).trans f2, hb⟩
theorem Cur.set2 {w : World} {g : Nat} {v : Int} (h : Cur w g) : Cur (w.setCell ⟨g, 2, none⟩ (.int .i64 v)) g := by
  obtain ⟨A', n', c', i', u, f, k0, k1, k2, hcode, hn, hi, f1, f2, hb⟩ := h.ex
  exact ⟨A', n', c', i', v, f, setoff k0 (.inr (by omega)), setoff k1 (.inr (by omega)), sethere k2, hcode.ch Ch.one hb (fun k hk => by omega), hn, hi, (World.frozen?_setCell _ _ _ _).trans f1, (World.frozen?_setCell _ _ _ _).trans f2, hb⟩

theorem Ch.thenB {S : Nat → Prop} {w W W' : World} (h : Ch S w W) (hb : Below w.heap.size W W') : Ch S w W' :=
  ⟨hb.os.trans h.os, hb.tape.trans h.tape, hb.output.trans h.output, Nat.le_trans h.size hb.size, fun k hk hn => (hb.block k hk).trans (h.block k hk hn)⟩
theorem Cur.below {B g : Nat} {w w' : World} (h : Cur w g) (hb : Below B w w') (hg : g < B) : Cur w' g :=
  h.ch (S := fun k => B ≤ k) ⟨hb.os, hb.tape, hb.output, hb.size, fun k _ hn => hb.block k (by omega)⟩ (fun k hk => by omega)
theorem own_off1 {w w' : World} {g B e sz n : Nat} {v : Value} {xs : List Value} (h : w.ownsRow B e sz v n xs) (hc : Ch (fun k => k = g) w w') (hg : g < B) : w'.ownsRow B e sz v n xs := by
  obtain ⟨A, c, rfl⟩ := own_val h
  exact ((RowIn.of_own h).ch hc (fun k hk e => by unfold Iv at hk; omega)).own

theorem l1New_any (A : Option Addr) (n c : Nat) (f : Nat → Int) (w : World) (h : CodeAt w A n f) (hn : n ≤ 1048576) :
    Calls Try.prog 109 #[.slice A n c] w fun e w' => e = .returned (.pointer (some ⟨w.heap.size, 0, none⟩)) ∧ Cur w' w.heap.size ∧ Below w.heap.size w w' := by
  go_enter Try.func109, Try.ntmps109
  go_wp2
  go_loop [3, 4] (fun u i => ∃ (k : Nat) (x : Int), k ≤ n ∧ i = .int .i64 k ∧ u = .int .i64 x ∧ 0 ≤ x ∧ x ≤ 1073741823) (fun _ i => n - (intOf i).toNat)
  case atStart => exact ⟨0, 10101 + (n : Int), Nat.zero_le _, rfl, by go_num, by omega, by omega⟩
  case round =>
    obtain ⟨k, x, hk, rfl, rfl, hx0, hx1⟩ := hrel
    by_cases hlt : k < n
    · obtain ⟨b, off, rfl, hbl, hc⟩ := h.vals (by omega)
      have hck := hc k hlt
      have hfb := h.bd k
      clear hc
      by_cases h4 : (k : Int) < 4000
      · go_wp2
        have hb := andBig_in (x * 131 + f k + 7)
        exact ⟨⟨k + 1, _, by omega, by go_num, rfl, hb.1, hb.2⟩, by simp [intOf]; omega⟩
      · go_wp2
        go_returns
        refine ⟨rfl, ⟨_, n, c, 0, x, f, by simp [go_sem], by simp [go_sem], by simp [go_sem], h.keep (by go_grown), hn, Nat.zero_le _, by simp [go_sem], by simp [go_sem], fun _ b' off' e => ?_⟩, by go_grown⟩
        injection e with e; injection e with e _ _; omega
    · go_wp2
      go_returns
      refine ⟨rfl, ⟨A, n, c, 0, x, f, by simp [go_sem], by simp [go_sem], by simp [go_sem], h.keep (by go_grown), hn, Nat.zero_le _, by simp [go_sem], by simp [go_sem], fun h0 b' off' e => ?_⟩, by go_grown⟩
      obtain ⟨b, off, rfl, hbl, hc⟩ := h.vals h0
      injection e with e; injection e with e _ _; omega

set_option maxRecDepth 4000 in
set_option maxHeartbeats 400000 in
theorem l1Byte_any (g : Nat) (w : World) (h : Cur w g) :
    Calls Try.prog 154 #[.pointer (some ⟨g, 0, none⟩)] w fun e w' => ∃ x : Int, e = .returned (.int .i64 x) ∧ 0 ≤ x ∧ x ≤ 255 ∧ Cur w' g ∧ Ch (fun k => k = g) w w' := by
  have hlt := h.lt
  obtain ⟨A, n, c, i, u, f, k0, k1, k2, hcode, hn, hi, f1, f2, hb⟩ := h.ex
  by_cases hin : i < n
  · obtain ⟨b, off, rfl, hbl, hc⟩ := hcode.vals (by omega)
    have hck := hc i hin
    have hfb := hcode.bd i
    have hbg := hb (by omega) b off rfl
    clear hc hcode
    go_enter Try.func154, Try.ntmps154
    go_wp2
    go_quiet (fail)
    go_wp2
    go_quiet (fail)
    go_wp2
    go_quiet (fail)
    go_wp2
    go_returns
    have D : ∀ (W : World) (m : Nat), Ch (fun _ => False) W (W.drewN m) := fun W m => (Ch.refl W).drewN m
    exact ⟨_, rfl, (and255_in _).1, (and255_in _).2, (h.set2.ch (D _ _) (fun _ h => h.elim)).set1 (j := i + 1) ((D _ _).cell (setoff k0 (.inr (by omega))) (fun h => h)) (by omega), ((Ch.one.drewN _).trans Ch.one)⟩
  · go_enter Try.func154, Try.ntmps154
    go_wp2
    go_quiet (fail)
    go_wp2
    go_quiet (fail)
    go_wp2
    go_returns
    exact ⟨_, rfl, (and255_in _).1, (and255_in _).2, h.set2.ch (S := fun _ => False) (((Ch.refl _).drewN _).drewN _) (fun _ hh => False.elim hh), (Ch.one.drewN _).drewN _⟩

theorem l1Below_any (g : Nat) (n : Int) (w : World) (h : Cur w g) (hn : n ≤ 256) :
    Calls Try.prog 112 #[.pointer (some ⟨g, 0, none⟩), .int .i64 n] w fun e w' => ∃ x : Int, e = .returned (.int .i64 x) ∧ 0 ≤ x ∧ (0 < n → x < n) ∧ (n ≤ 0 → x = 0) ∧ Cur w' g ∧ Ch (fun k => k = g) w w' := by
  by_cases h0 : n ≤ 0
  · go_enter Try.func112, Try.ntmps112
    go_wp2
    go_returns
    exact ⟨0, rfl, by omega, fun h => by omega, fun _ => rfl, h, Ch.refl _⟩
  · go_enter Try.func112, Try.ntmps112
    go_wp2_with fail
    refine (l1Byte_any g _ h).mono ?_
    rintro e w1 ⟨x, rfl, hx0, hx1, hc, hch⟩
    go_wp2
    go_returns
    exact ⟨x % n, rfl, Int.emod_nonneg _ (by omega), fun h => Int.emod_lt_of_pos _ h, fun h => by omega, hc, hch⟩

theorem l1Once_any (g : Nat) (n : Int) (w : World) (h : Cur w g) (hn : n ≤ 256) :
    Calls Try.prog 111 #[.pointer (some ⟨g, 0, none⟩), .int .i64 n] w fun e w' => ∃ b : Bool, e = .returned (.bool b) ∧ Cur w' g ∧ Ch (fun k => k = g) w w' := by
  go_enter Try.func111, Try.ntmps111
  go_wp2_with fail
  refine (l1Below_any g _ _ h hn).mono ?_
  rintro e w1 ⟨x, rfl, hx0, hx1, _, hc, hch⟩
  go_wp2
  go_returns
  exact ⟨_, rfl, hc, hch⟩

theorem l1Pick_any (g : Nat) (A : Option Addr) (n c : Nat) (l : List ByteArray) (w : World) (h : Cur w g) (hl : StrsAt w A n l) (h0 : 0 < n) (hn : n ≤ 256) (hg : ∀ b off, A = some ⟨b, off, none⟩ → b ≠ g) :
    Calls Try.prog 152 #[.pointer (some ⟨g, 0, none⟩), .slice A n c] w fun e w' => ∃ i, i < n ∧ e = .returned (.string (sAt l i)) ∧ Cur w' g ∧ Ch (fun k => k = g) w w' := by
  obtain ⟨b, off, rfl, hbl, hcell⟩ := hl.at_ h0
  have hbg := hg b off rfl
  go_enter Try.func152, Try.ntmps152
  go_wp2_with fail
  refine (l1Below_any g _ _ h (by omega)).mono ?_
  rintro e w1 ⟨x, rfl, hx0, hx1, _, hc, hch⟩
  obtain ⟨i, rfl⟩ := Int.eq_ofNat_of_zero_le hx0
  have hi : i < n := by have := hx1 (by omega); omega
  have hci := hch.cell (hcell i hi) hbg
  go_wp2
  go_returns
  exact ⟨i, hi, rfl, hc, hch⟩
theorem l1PickInt_any (g : Nat) (A : Option Addr) (n c : Nat) (f : Nat → Int) (w : World) (h : Cur w g) (hl : ValsAt w A n (intV f)) (h0 : 0 < n) (hn : n ≤ 256) (hg : ∀ b off, A = some ⟨b, off, none⟩ → b ≠ g) :
    Calls Try.prog 169 #[.pointer (some ⟨g, 0, none⟩), .slice A n c] w fun e w' => ∃ i, i < n ∧ e = .returned (.int .i64 (f i)) ∧ Cur w' g ∧ Ch (fun k => k = g) w w' := by
  obtain ⟨b, off, rfl, hbl, hcell⟩ := hl h0
  have hbg := hg b off rfl
  unfold intV at hcell
  go_enter Try.func169, Try.ntmps169
  go_wp2_with fail
  refine (l1Below_any g _ _ h (by omega)).mono ?_
  rintro e w1 ⟨x, rfl, hx0, hx1, _, hc, hch⟩
  obtain ⟨i, rfl⟩ := Int.eq_ofNat_of_zero_le hx0
  have hi : i < n := by have := hx1 (by omega); omega
  have hci := hch.cell (hcell i hi) hbg
  go_wp2
  go_returns
  exact ⟨i, hi, rfl, hc, hch⟩
end Go.Proofs.Ytdphdnllhmnelaa
/- The draw of a text: l1Text. -/
namespace Go.Proofs.Ytdphdnllhmnelaa
open Go.RowKit

theorem conv_some {w : World} {base g n c : Nat} {xs : List UInt8} (h : w.ownsRow base 5 1 (.slice (some ⟨g, 0, none⟩) n c) n (xs.map byteV)) :
    (convert 74 9 (.slice (some ⟨g, 0, none⟩) n c)).run Try.prog w = .ok (.string ⟨xs.toArray⟩) w := by
  have hl : xs.length = n := by have := h.1; simpa using this
  subst hl
  exact run_convert_bytes_back (P := Try.prog) w 74 9 5 ⟨g, 0, none⟩ c xs Try.underlying74 Try.underlying5 Try.underlying9 (by
    intro t ht
    rw [Addr.add_lit, Nat.zero_add, h.cellAt t (by simpa using ht)]
    simp only [List.getElem?_map, List.getElem?_eq_getElem ht]
    rfl)
theorem byte_ex {b : Int} (h0 : 0 ≤ b) (h1 : b ≤ 255) : ∃ x : UInt8, Value.int .u8 b = byteV x := by
  obtain ⟨n, rfl⟩ := Int.eq_ofNat_of_zero_le h0
  exact ⟨UInt8.ofNat n, (byteV_of (by omega)).symm⟩

set_option maxRecDepth 4000 in
set_option maxHeartbeats 1000000 in
theorem l1Text_any (g : Nat) (most : Int) (w : World) (h : Cur w g) (h0 : 0 ≤ most) (hm : most ≤ 200) :
    Calls Try.prog 170 #[.pointer (some ⟨g, 0, none⟩), .int .i64 most] w fun e w' => ∃ s : ByteArray, e = .returned (.string s) ∧ (s.size : Int) ≤ most ∧ Cur w' g ∧ Ch (fun k => k = g) w w' := by
  have hlt := h.lt
  have al := (Below.refl w.heap.size w).alloc (Nat.le_refl _) (.cells #[] 5)
  go_enter Try.func170, Try.ntmps170
  go_wp2_with fail
  refine (l1Below_any g _ _ (h.keep al) (by omega)).mono ?_
  rintro e w1 ⟨x, rfl, hx0, hx1, _, hc1, hch1⟩
  obtain ⟨q, rfl⟩ := Int.eq_ofNat_of_zero_le hx0
  have hq : q < 4 := by have := hx1 (by omega); omega
  clear hx0 hx1
  have hown1 := own_ch (own_empty w 5 1 (Nat.le_refl w.heap.size)) hch1 (fun k hk e => by simp [Value.ownBlock] at hk; omega)
  have hchw : Ch (fun k => k = g) w w1 := (Ch.of_below al).trans hch1
  go_wp2_with fail
  refine (l1Below_any g _ _ hc1 (by omega)).mono ?_
  rintro e w2 ⟨x, rfl, hx0, hx1, _, hc2, hch2⟩
  obtain ⟨m, rfl⟩ := Int.eq_ofNat_of_zero_le hx0
  have hmm : (m : Int) ≤ most := by have := hx1 (by omega); omega
  clear hx0 hx1
  have hown2 := own_off1 hown1 hch2 (by omega)
  have hchw2 := hchw.trans hch2
  clear hown1 hchw hch1 hch2 hc1
  go_wp2
  go_loopw [5, 7] (fun o u wr => ∃ (k : Nat) (L : List UInt8) (o0 cap : Nat), u = .int .i64 k ∧ L.length + k = m ∧ o = .slice (some ⟨o0, 0, none⟩) L.length cap ∧ wr.ownsRow w.heap.size 5 1 (.slice (some ⟨o0, 0, none⟩) L.length cap) L.length (L.map byteV) ∧ Cur wr g ∧ Ch (fun k => k = g) w wr) (fun _ u _ => (intOf u).toNat)
  case atStart => exact ⟨m, [], _, 0, rfl, by simp, rfl, hown2, hc2, hchw2⟩
  case round =>
    obtain ⟨k, L, o0, cap, rfl, hk, rfl, hown, hc, hch⟩ := hrel
    by_cases hpos : 0 < k
    · have hki : (0 : Int) < (k : Int) := by omega
      have hzw := hch.size
      go_wp2_with fail
      refine (l1Byte_any g _ hc).mono ?_
      rintro e w3 ⟨b, rfl, hb0, hb1, hc3, hch3⟩
      have hown3 := own_off1 hown hch3 (by omega)
      have hz3 : w.heap.size ≤ w3.heap.size := Nat.le_trans hzw hch3.size
      have hch4 := hch.trans hch3
      clear hown hch hch3
      have fin : ∀ (b' : Int) (A' : Option Addr) (c' : Nat) (w4 : World), 0 ≤ b' → b' ≤ 255 → w4.ownsRow w.heap.size 5 1 (.slice A' (L.length + 1) c') (L.length + 1) (L.map byteV ++ [.int .u8 b']) → Below w.heap.size w3 w4 →
          ∃ (L' : List UInt8) (o1 : Nat), L'.length = L.length + 1 ∧ A' = some ⟨o1, 0, none⟩ ∧ w4.ownsRow w.heap.size 5 1 (.slice (some ⟨o1, 0, none⟩) L'.length c') L'.length (L'.map byteV) ∧ Cur w4 g ∧ Ch (fun k => k = g) w w4 := by
        intro b' A' c' w4 k0 k1 ho hb
        obtain ⟨x, hx⟩ := byte_ex k0 k1
        rw [hx] at ho
        obtain ⟨o1, rfl⟩ := (RowIn.of_own ho).head (by omega)
        exact ⟨L ++ [x], o1, by simp, rfl, by simpa using ho, hc3.below hb hlt, hch4.thenB hb⟩
      have FIN := Lib.hid fin
      have hkL : L.length < 201 := by omega
      clear fin hc3 hch4
      rcases (show q = 0 ∨ q = 1 ∨ q = 2 ∨ q = 3 by omega) with rfl | rfl | rfl | rfl
      · go_wp2_with (at_builtin; refine wpList_app1g (P := Try.prog) w3 rfl (.tmp 31) (.tmp 34) 74 rfl w.heap.size 5 _ 1 1 Try.underlying74 infoByteV rfl (by omega) (.slice (some ⟨o0, 0, none⟩) L.length cap) _ _ rfl hown3 _ _ rfl (by simp) rfl (by simp [Value.oneCell']) (by unfold maxLen; omega) (by omega) hz3 ?_; intro A' c' w4 hown4 hg4 hb4 _)
        obtain ⟨L', o1, hl', rfl, r1, r2, r3⟩ := FIN.out _ _ _ _ (by omega) (by omega) hown4 hb4
        exact ⟨⟨k - 1, by omega, L', by omega, o1, c', by rw [hl']; exact ⟨rfl, rfl, rfl⟩, r1, r2, r3⟩, by simp [intOf]; omega⟩
      · have hb2 : 0 ≤ b % 2 ∧ b % 2 ≤ 255 := by omega
        go_wp2_with (at_builtin; refine wpList_app1g (P := Try.prog) w3 rfl (.tmp 31) (.tmp 34) 74 rfl w.heap.size 5 _ 1 1 Try.underlying74 infoByteV rfl (by omega) (.slice (some ⟨o0, 0, none⟩) L.length cap) _ _ rfl hown3 _ _ rfl (by simp) rfl (by simp [Value.oneCell']) (by unfold maxLen; omega) (by omega) hz3 ?_; intro A' c' w4 hown4 hg4 hb4 _)
        obtain ⟨L', o1, hl', rfl, r1, r2, r3⟩ := FIN.out _ _ _ _ (by omega) (by omega) hown4 hb4
        exact ⟨⟨k - 1, by omega, L', by omega, o1, c', by rw [hl']; exact ⟨rfl, rfl, rfl⟩, r1, r2, r3⟩, by simp [intOf]; omega⟩
      · have hb2 : 0 ≤ b % 4 ∧ b % 4 ≤ 3 := by omega
        go_wp2_with (at_builtin; refine wpList_app1g (P := Try.prog) w3 rfl (.tmp 31) (.tmp 34) 74 rfl w.heap.size 5 _ 1 1 Try.underlying74 infoByteV rfl (by omega) (.slice (some ⟨o0, 0, none⟩) L.length cap) _ _ rfl hown3 _ _ rfl (by simp) rfl (by simp [Value.oneCell']) (by unfold maxLen; omega) (by omega) hz3 ?_; intro A' c' w4 hown4 hg4 hb4 _)
        obtain ⟨L', o1, hl', rfl, r1, r2, r3⟩ := FIN.out _ _ _ _ (by omega) (by omega) hown4 hb4
        exact ⟨⟨k - 1, by omega, L', by omega, o1, c', by rw [hl']; exact ⟨rfl, rfl, rfl⟩, r1, r2, r3⟩, by simp [intOf]; omega⟩
      · go_wp2_with (at_builtin; refine wpList_app1g (P := Try.prog) w3 rfl (.tmp 31) (.tmp 34) 74 rfl w.heap.size 5 _ 1 1 Try.underlying74 infoByteV rfl (by omega) (.slice (some ⟨o0, 0, none⟩) L.length cap) _ _ rfl hown3 _ _ rfl (by simp) rfl (by simp [Value.oneCell']) (by unfold maxLen; omega) (by omega) hz3 ?_; intro A' c' w4 hown4 hg4 hb4 _)
        obtain ⟨L', o1, hl', rfl, r1, r2, r3⟩ := FIN.out _ _ _ _ (by omega) (by omega) hown4 hb4
        exact ⟨⟨k - 1, by omega, L', by omega, o1, c', by rw [hl']; exact ⟨rfl, rfl, rfl⟩, r1, r2, r3⟩, by simp [intOf]; omega⟩
    · have hk0 : k = 0 := by omega
      subst hk0
      have hcv := conv_some hown
      have hsz : (⟨L.toArray⟩ : ByteArray).size = L.length := by show L.toArray.size = _; simp
      go_wp2
      go_returns
      exact ⟨_, rfl, by rw [hsz]; omega, hc, hch⟩

end Go.Proofs.Ytdphdnllhmnelaa
/- The draws of paths: l30Path. -/
namespace Go.Proofs.Ytdphdnllhmnelaa
open Go.RowKit
theorem strs_new (w : World) (e : TypeId) (l : List ByteArray) : StrsAt (w.alloc (.cells (l.map Value.string).toArray e)) (some ⟨w.heap.size, 0, none⟩) l.length l := by
  refine ⟨rfl, fun _ => ⟨w.heap.size, 0, rfl, by simp, fun i hi => ?_⟩⟩
  rw [Nat.zero_add, World.cell?_alloc_new]
  simp [sAt, hi]
theorem sAt_le {l : List ByteArray} {m : Nat} (h : ∀ x ∈ l, x.size ≤ m) (i : Nat) : (sAt l i).size ≤ m := by
  unfold sAt
  by_cases hi : i < l.length
  · simp [hi]; exact h _ (List.getElem_mem hi)
  · simp [hi]
def pthA : List ByteArray := [⟨#[97]⟩, ⟨#[98]⟩, ⟨#[100, 105, 114]⟩, ⟨#[120]⟩]
def pthB : List ByteArray := [⟨#[97]⟩, ⟨#[98]⟩, ⟨#[102]⟩]
def pthC : List ByteArray := [⟨#[]⟩, ⟨#[47]⟩, ⟨#[97, 47]⟩, ⟨#[47, 97]⟩, ⟨#[65]⟩, ⟨#[97, 47, 47, 98]⟩, ⟨#[97, 47, 98, 47, 99, 47, 100]⟩, ⟨#[97, 98, 99, 100, 101, 102, 103, 104, 105]⟩]
theorem blk_ne {w : World} {g : Nat} (h : g < w.heap.size) : ∀ b off, (some ⟨w.heap.size, 0, none⟩ : Option Addr) = some ⟨b, off, none⟩ → b ≠ g := by
  intro b off e
  injection e with e; injection e with e _ _
  omega
end Go.Proofs.Ytdphdnllhmnelaa
