/- Contracts and lemmas: DrawCm. -/
import Derived.Test.YtdphdnllhmnelaaJ15
import Derived.Test.YtdphdnllhmnelaaJ5
import Derived.Test.YtdphdnllhmnelaaJ11
import Derived.Test.YtdphdnllhmnelaaJ23
import Derived.Test.YtdphdnllhmnelaaJ17
import Derived.Test.YtdphdnllhmnelaaJ1
import Derived.Deep.CutRange
/- The draws of commands: l4Right, l4Cmd. -/
namespace Go.Proofs.Ytdphdnllhmnelaa
open Go.RowKit
attribute [local irreducible] StrsAt

def pickS : List ByteArray := [⟨#[97]⟩, ⟨#[98]⟩, ⟨#[97, 98]⟩]
def pickN : List ByteArray := [⟨#[120]⟩, ⟨#[121]⟩, ⟨#[122]⟩]
def pickT : List ByteArray := [⟨#[107, 101, 101, 112]⟩, ⟨#[116]⟩]
theorem pickS_le (i : Nat) : (sAt pickS i).size ≤ 9 := sAt_le (by decide) i
theorem pickN_le (i : Nat) : (sAt pickN i).size ≤ 9 := sAt_le (by decide) i
theorem pickT_le (i : Nat) : (sAt pickT i).size ≤ 9 := sAt_le (by decide) i
/-- a command of short texts -/
def smC (m : Nat) (x : Cm) : Prop := x.s.size ≤ 9 ∧ x.nm.size ≤ 9 ∧ x.tg.size ≤ 9 ∧ x.ch.length ≤ m ∧ ∀ y ∈ x.ch, y.size ≤ 9
/-- a drawn command -/
def CmDraw (w : World) (g m : Nat) (e : Ending) (w' : World) : Prop :=
  ∃ (x : Cm) (A : Option Addr) (n c : Nat), e = .returned (cmV x (.slice A n c)) ∧ smC m x ∧ StrsIn w.heap.size w'.heap.size w' A n c x.ch ∧ Cur w' g ∧ Ch (fun k => k = g) w w'
theorem sizeCmdD : (Try.prog.info? 47).map (·.size) = some 8 := by kernel_rfl
theorem loadCmdD {ops : Array Oper} {rest : List Oper} {op : Oper} {a : Act} {w : World} {Q : Exit → Act → World → Prop} (hgd : op.guard = none) (x : Operand) (ho : op.op = .load 47 x) (b : Nat) (hx : a.eval x = .pointer (some ⟨b, 0, none⟩)) (cs : List Value) (hl : cs.length = 8) (hc : w.rangeAt b 0 cs)
    (h : wpList Try.prog ops Q rest (a.put op.dst (.agg cs.toArray)) w) : wpList Try.prog ops Q (op :: rest) a w :=
  wpList_load_mid hgd _ x ho b 0 hx cs _ hc Try.underlying47 rfl (by rw [hl]; exact sizeCmdD) h
theorem results_cellD {P : Program} {fn : Func} {c : Tmp} {ty : TypeId} (h : fn.results = #[.cell c ty]) {tmps : Array Value} {w : World} {b : Nat} {cs : List Value} {d : TypeDesc} (hp : tmps.getD c undef = .pointer (some ⟨b, 0, none⟩))
    (hc : w.rangeAt b 0 cs) (hu : P.underlying ty = some d) (hd : d.isRow = true) (hi : (P.info? ty).map (·.size) = some cs.length) : (results fn tmps).run P w = .ok (.agg cs.toArray) w := by
  have hl := run_loadVar_mid (P := P) w b 0 ty cs d hc hu hd hi
  have hp' : tmps[c]?.getD undef = .pointer (some ⟨b, 0, none⟩) := by simpa using hp
  simp [results, h, hp', asAddr, Sem.run_bind, hl]
theorem u8_small {n : Nat} (h : n < 4) : IntKind.u8.wrap (n : Int) = (n : Int) := by simp [IntKind.wrap, IntKind.bits, IntKind.signed]; omega
theorem conv_one {w : World} {gb n : Nat} (hc : w.cell? ⟨gb, 0, none⟩ = some (.int .u8 (n : Int))) (hn : n < 256) : (convert 74 9 (.slice (some ⟨gb, 0, none⟩) 1 1)).run Try.prog w = .ok (.string ⟨#[UInt8.ofNat n]⟩) w := by
  have h := run_convert_bytes_back (P := Try.prog) w 74 9 5 ⟨gb, 0, none⟩ 1 [UInt8.ofNat n] Try.underlying74 Try.underlying5 Try.underlying9 (by
    intro j hj
    have hj0 : j = 0 := by simpa using hj
    subst hj0
    rw [Addr.add_zero', hc]
    simp only [List.getElem_cons_zero]
    rw [var_byte n hn])
  exact h
theorem shortD_le (s : ByteArray) : (shortS s).size ≤ 8 := by rw [shortS_size]; omega
theorem new1d (w : World) (s : ByteArray) (t : TypeId) : CellsAt (w.alloc (.cells #[.string s] t)) (some ⟨w.heap.size, 0, none⟩) 1 1 [.string s] := by
  refine ⟨rfl, fun _ => ⟨w.heap.size, 0, rfl, fun j u hu => ?_⟩⟩
  rw [Nat.zero_add, World.cell?_alloc_new]
  simpa using hu
set_option maxRecDepth 8000 in
set_option maxHeartbeats 4000000 in
theorem l4Right_any (g : Nat) (w : World) (h : Cur w g) :
    Calls Try.prog 151 #[.pointer (some ⟨g, 0, none⟩)] w (CmDraw w g 3) := by
  have hlt := h.lt
  have al := (Below.refl w.heap.size w).alloc (Nat.le_refl _) (.cells #[.int .i64 0, .int .i64 0, .int .i64 0, .string ⟨#[]⟩, .string ⟨#[]⟩, .string ⟨#[]⟩, .int .i64 0, .slice none 0 0] 47)
  go_enter Try.func151, Try.ntmps151
  go_wp2_with fail
  obtain ⟨W0, hW0⟩ : ∃ W, W = w.alloc (.cells #[.int .i64 0, .int .i64 0, .int .i64 0, .string ⟨#[]⟩, .string ⟨#[]⟩, .string ⟨#[]⟩, .int .i64 0, .slice none 0 0] 47) := ⟨_, rfl⟩
  have R0 : BoxL W0 w.heap.size [.int .i64 0, .int .i64 0, .int .i64 0, .string ⟨#[]⟩, .string ⟨#[]⟩, .string ⟨#[]⟩, .int .i64 0, .slice none 0 0] := by rw [hW0]; exact BoxL.new w _ _
  rw [← hW0] at al ⊢
  have D0 : Ch (fun k => k = g) w W0 := Ch.of_below al
  have hc0 := h.keep al
  clear al hW0 h
  refine (l1Below_any g _ _ hc0 (by omega)).mono ?_
  rintro e w1 ⟨x, rfl, p0, p1, -, hc1, hch⟩
  obtain ⟨n1, rfl⟩ := Int.eq_ofNat_of_zero_le p0
  have m1 : n1 < 7 := by have := p1 (by omega); omega
  have R1 := R0.ch hch (by omega)
  have D1 := D0.trans hch
  clear p0 p1 hch R0 D0 hc0
  go_wp2_with fail
  refine (l1Below_any g _ _ hc1 (by omega)).mono ?_
  rintro e w2 ⟨x, rfl, p0, p1, -, hc2, hch⟩
  obtain ⟨n2, rfl⟩ := Int.eq_ofNat_of_zero_le p0
  have m2 : n2 < 3 := by have := p1 (by omega); omega
  have R2 := R1.ch hch (by omega)
  have D2 := D1.trans hch
  clear p0 p1 hch R1 D1 hc1
  go_wp2_with fail
  refine (l1Below_any g _ _ hc2 (by omega)).mono ?_
  rintro e w3 ⟨x, rfl, p0, p1, -, hc3, hch⟩
  obtain ⟨n3, rfl⟩ := Int.eq_ofNat_of_zero_le p0
  have m3 : n3 < 6 := by have := p1 (by omega); omega
  have R3 := R2.ch hch (by omega)
  have D3 := D2.trans hch
  clear p0 p1 hch R2 D2 hc2
  go_wp2_with fail
  obtain ⟨W, hW⟩ : ∃ W, W = w3.alloc (.cells #[.int .i64 (1 + (n1 : Int)), .int .i64 (1 + (n2 : Int)), .int .i64 (1 + (n3 : Int)), .string ⟨#[]⟩, .string ⟨#[]⟩, .string ⟨#[]⟩, .int .i64 0, .slice none 0 0] 47) := ⟨_, rfl⟩
  have C : BoxL W w3.heap.size [.int .i64 (1 + (n1 : Int)), .int .i64 (1 + (n2 : Int)), .int .i64 (1 + (n3 : Int)), .string ⟨#[]⟩, .string ⟨#[]⟩, .string ⟨#[]⟩, .int .i64 0, .slice none 0 0] := by rw [hW]; exact BoxL.new w3 _ _
  have al : Below w3.heap.size w3 W := by rw [hW]; exact (Below.refl _ _).alloc (Nat.le_refl _) _
  rw [← hW]
  have hc := hc3.keep al
  have R := R3.keep al
  have D := D3.trans (Ch.of_below al)
  have hrh : w.heap.size < w3.heap.size := R3.lt
  obtain ⟨h, hh⟩ : ∃ h, w3.heap.size = h := ⟨_, rfl⟩
  rw [hh] at C hrh ⊢
  clear al hW hc3 R3 D3 hh
  refine (l1Once_any g _ _ hc (by omega)).mono ?_
  rintro e w4 ⟨b, rfl, hc4, hch⟩
  have R4 := R.ch hch (by omega)
  have C4 := C.ch hch (by omega)
  have D4 := D.trans hch
  clear hc R C D hch
  go_upto_if 16 with fail
  go_cut [2] from 17 to 17 (fun s wx => s = .pointer (some ⟨w.heap.size, 0, none⟩) ∧ ∃ K : Int, BoxL wx h [.int .i64 K, .int .i64 (1 + (n2 : Int)), .int .i64 (1 + (n3 : Int)), .string ⟨#[]⟩, .string ⟨#[]⟩, .string ⟨#[]⟩, .int .i64 0, .slice none 0 0] ∧ BoxL wx w.heap.size [.int .i64 0, .int .i64 0, .int .i64 0, .string ⟨#[]⟩, .string ⟨#[]⟩, .string ⟨#[]⟩, .int .i64 0, .slice none 0 0] ∧ Cur wx g ∧ Ch (fun k => k = g) w wx)
  case first =>
    have c0 := C4.cell 0 _ rfl
    have f0 := C4.fz 0 (by simp)
    cases b
    · go_wp2_with fail
      go_meet
      exact ⟨rfl, _, C4, R4, hc4, D4⟩
    · go_wp2_with fail
      go_meet
      have hs := Ch.set (w := w4) (g := h) (o := 0) (v := .int .i64 3)
      have hb : Below w.heap.size w4 (w4.setCell ⟨h, 0, none⟩ (.int .i64 3)) := (Below.refl _ _).setCell (Nat.le_of_lt hrh) _
      exact ⟨rfl, 3, C4.set (by simp), R4.ch hs (by omega), hc4.below hb hlt, D4.thenB hb⟩
  case rest =>
    obtain ⟨rfl, K, C, R, hc, D⟩ := hcut
    have c0 := C.cell 0 _ rfl
    go_upto_if 20 with fail
    clear c0
    go_cut [2] from 20 to 24 (fun s wx => s = .pointer (some ⟨w.heap.size, 0, none⟩) ∧ ∃ s3 : ByteArray, s3.size ≤ 9 ∧ BoxL wx h [.int .i64 K, .int .i64 (1 + (n2 : Int)), .int .i64 (1 + (n3 : Int)), .string s3, .string ⟨#[]⟩, .string ⟨#[]⟩, .int .i64 0, .slice none 0 0] ∧ BoxL wx w.heap.size [.int .i64 0, .int .i64 0, .int .i64 0, .string ⟨#[]⟩, .string ⟨#[]⟩, .string ⟨#[]⟩, .int .i64 0, .slice none 0 0] ∧ Cur wx g ∧ Ch (fun k => k = g) w wx)
    case first =>
      by_cases hk : K = 7
      · have hb : (K != 7) = false := by simp [hk]
        go_wp2_with fail
        go_meet
        exact ⟨rfl, ⟨#[]⟩, by decide, C, R, hc, D⟩
      · have hb : (K != 7) = true := by simp [hk]
        clear hk
        go_wp2_with fail
        have hlg := hc.lt
        have al := (Below.refl wc.heap.size wc).alloc (Nat.le_refl _) (.cells (pickS.map Value.string).toArray 9)
        refine (l1Pick_any g _ 3 _ pickS _ (hc.keep al) (strs_new _ _ pickS) (by omega) (by omega) (blk_ne hlg)).mono ?_
        rintro e w5 ⟨i, hi, rfl, hc', hch⟩
        have R' := (R.keep al).ch hch (by omega)
        have C' := (C.keep al).ch hch (by omega)
        have D' := (D.trans (Ch.of_below al)).trans hch
        have hs9 := pickS_le i
        generalize sAt pickS i = sx at *
        clear R C D hc hch al hi hlg
        have cj := C'.cell 3 _ rfl
        have fj := C'.fz 3 (by simp)
        go_wp2_with fail
        go_meet
        have hs := Ch.set (w := w5) (g := h) (o := 3) (v := .string sx)
        have hb : Below w.heap.size w5 (w5.setCell ⟨h, 3, none⟩ (.string sx)) := (Below.refl _ _).setCell (Nat.le_of_lt hrh) _
        have C2 := C'.set (j := 3) (v := .string sx) (by simp)
        have R2 := R'.ch hs (by omega)
        have hc2 := hc'.below hb hlt
        have D2 := D'.thenB hb
        clear C' R' hc' D' hs hb cj fj
        simp only [List.set_cons_succ, List.set_cons_zero] at C2
        exact ⟨rfl, sx, hs9, C2, R2, hc2, D2⟩
    case rest =>
      obtain ⟨rfl, s3, hs3, C, R, hc, D⟩ := hcut
      by_cases h3 : K = 3
      · subst h3
        have q0 := C.cell 0 _ rfl
        go_wp2_with fail
        clear q0
        have hlg := hc.lt
        have al := (Below.refl wc.heap.size wc).alloc (Nat.le_refl _) (.cells (pickN.map Value.string).toArray 9)
        refine (l1Pick_any g _ 3 _ pickN _ (hc.keep al) (strs_new _ _ pickN) (by omega) (by omega) (blk_ne hlg)).mono ?_
        rintro e w5 ⟨i, hi, rfl, hc', hch⟩
        have R' := (R.keep al).ch hch (by omega)
        have C' := (C.keep al).ch hch (by omega)
        have D' := (D.trans (Ch.of_below al)).trans hch
        have hs4 := pickN_le i
        generalize sAt pickN i = s4 at *
        clear R C D hc hch al hi hlg
        have cj := C'.cell 4 _ rfl
        have fj := C'.fz 4 (by simp)
        go_upto_region 8 with fail
        have hs := Ch.set (w := w5) (g := h) (o := 4) (v := .string s4)
        have hb : Below w.heap.size w5 (w5.setCell ⟨h, 4, none⟩ (.string s4)) := (Below.refl _ _).setCell (Nat.le_of_lt hrh) _
        have C2 := C'.set (j := 4) (v := .string s4) (by simp)
        have R2 := R'.ch hs (by omega)
        have hc2 := hc'.below hb hlt
        have D2 := D'.thenB hb
        clear C' R' hc' D' hs hb cj fj
        simp only [List.set_cons_succ, List.set_cons_zero] at C2
        obtain ⟨W5, hW⟩ : ∃ W, W = w5.setCell ⟨h, 4, none⟩ (.string s4) := ⟨_, rfl⟩
        rw [← hW] at C2 R2 hc2 D2 ⊢
        clear hW
        have C := C2; have R := R2; have hc := hc2; have D := D2; clear C2 R2 hc2 D2
        have q0 := C.cell 0 _ rfl
        go_wp2_with fail
        clear q0
        refine (l1Below_any g _ _ hc (by omega)).mono ?_
        rintro e w6 ⟨x, rfl, p0, p1, -, hc6, hch⟩
        obtain ⟨m, rfl⟩ := Int.eq_ofNat_of_zero_le p0
        have hm : m < 3 := by have := p1 (by omega); omega
        have R6 := R.ch hch (by omega)
        have C6 := C.ch hch (by omega)
        have D6 := D.trans hch
        clear R C D hc hch p0 p1
        go_wp2
        go_loopw [4] (fun u wr => ∃ (k : Nat) (O : Option Addr) (cp : Nat) (cs : List ByteArray), u = .int .i64 k ∧ cs.length + k ≤ 3 ∧ (∀ x ∈ cs, x.size ≤ 9) ∧ BoxL wr h [.int .i64 3, .int .i64 (1 + (n2 : Int)), .int .i64 (1 + (n3 : Int)), .string s3, .string s4, .string ⟨#[]⟩, .int .i64 0, .slice O cs.length cp] ∧ StrsIn (h + 1) wr.heap.size wr O cs.length cp cs ∧ BoxL wr w.heap.size [.int .i64 0, .int .i64 0, .int .i64 0, .string ⟨#[]⟩, .string ⟨#[]⟩, .string ⟨#[]⟩, .int .i64 0, .slice none 0 0] ∧ Cur wr g ∧ Ch (fun k => k = g) w wr) (fun u _ => (intOf u).toNat)
        case atStart => exact ⟨1 + m, none, 0, [], by congr 1, by simp; omega, (fun x hx => by cases hx), C6, StrsIn.nil, R6, hc6, D6⟩
        case round =>
          clear C6 R6 hc6 D6
          obtain ⟨k, O, cp, cs, rfl, hk, hsm, C, hrow, R, hc, D⟩ := hrel
          by_cases hpos : 0 < k
          · have hki : (0 : Int) < (k : Int) := by omega
            have hOof : ∀ b, BlkOf O b → h < b := fun b hb => by have := (hrow.row.blk hb).1; unfold Iv at this; omega
            go_wp2
            refine wp_region_dagb [60, 61, 62, 63, 64, 65, 66, 67, 68, 69, 70] (by kernel_rfl) (by kernel_rfl) (fun D vs w' => ∃ v60 v61 v62 v63 v64 v65 v66 v67 v68 v69 v70 : Value, vs = [v60, v61, v62, v63, v64, v65, v66, v67, v68, v69, v70] ∧ Cur w' g ∧ Ch (fun k => k = g) w w' ∧ h < w'.heap.size ∧ BoxL w' w.heap.size [.int .i64 0, .int .i64 0, .int .i64 0, .string ⟨#[]⟩, .string ⟨#[]⟩, .string ⟨#[]⟩, .int .i64 0, .slice none 0 0] ∧ (D 11 = false → BoxL w' h [.int .i64 3, .int .i64 (1 + (n2 : Int)), .int .i64 (1 + (n3 : Int)), .string s3, .string s4, .string ⟨#[]⟩, .int .i64 0, .slice O cs.length cp]) ∧ (D 9 = false → StrsIn (h + 1) w'.heap.size w' O cs.length cp cs) ∧ (D 0 = true → v60 = .pointer (some ⟨h, 7, none⟩)) ∧ (D 1 = true → v61 = .slice O cs.length cp) ∧ (D 2 = true → v62 = .pointer (some ⟨g, 0, none⟩)) ∧ (D 3 = true → ∃ n : Nat, v63 = .int .i64 (n : Int) ∧ n < 4) ∧ (D 4 = true → ∃ n : Nat, v64 = .int .u8 (n : Int) ∧ n < 4) ∧ (D 5 = true → ∃ (gb n : Nat), v65 = .slice (some ⟨gb, 0, none⟩) 1 1 ∧ n < 4 ∧ (D 6 = false → w'.cell? ⟨gb, 0, none⟩ = some (.int .u8 (n : Int)))) ∧ (D 6 = true → ∃ s : ByteArray, v66 = .string s ∧ s.size ≤ 1099511627776) ∧ (D 7 = true → ∃ s : ByteArray, v67 = .string s ∧ s.size ≤ 9) ∧ (D 8 = true → ∃ (gb : Nat) (s : ByteArray), v68 = .slice (some ⟨gb, 0, none⟩) 1 1 ∧ s.size ≤ 9 ∧ (D 9 = false → CellsAt w' (some ⟨gb, 0, none⟩) 1 1 [.string s])) ∧ (D 9 = true → ∃ (A' : Option Addr) (c' : Nat) (s : ByteArray), v69 = .slice A' (cs.length + 1) c' ∧ s.size ≤ 9 ∧ StrsIn (h + 1) w'.heap.size w' A' (cs.length + 1) c' (cs ++ [s])) ∧ (D 10 = true → v70 = .pointer (some ⟨h, 7, none⟩)) ∧ (D 11 = true → ∃ (A' : Option Addr) (c' : Nat) (s : ByteArray), s.size ≤ 9 ∧ BoxL w' h [.int .i64 3, .int .i64 (1 + (n2 : Int)), .int .i64 (1 + (n3 : Int)), .string s3, .string s4, .string ⟨#[]⟩, .int .i64 0, .slice A' (cs.length + 1) c'] ∧ StrsIn (h + 1) w'.heap.size w' A' (cs.length + 1) c' (cs ++ [s])))
              ⟨_, _, _, _, _, _, _, _, _, _, _, rfl, hc.keep (Below.refl _ _).drew, D.thenB (Below.refl _ _).drew, C.lt, (R.keep (Below.refl _ _).drew), (fun _ => C.keep (Below.refl _ _).drew), (fun _ => hrow.keep (Below.refl _ _).drew), (fun h => by cases h), (fun h => by cases h), (fun h => by cases h), (fun h => by cases h), (fun h => by cases h), (fun h => by cases h), (fun h => by cases h), (fun h => by cases h), (fun h => by cases h), (fun h => by cases h), (fun h => by cases h), (fun h => by cases h)⟩ ?_ ?_
            · intro i D vs w' hi hD hdep hcl hI
              have hi' : i < 12 := hi
              obtain ⟨v60, v61, v62, v63, v64, v65, v66, v67, v68, v69, v70, rfl, hc, hch, hhw, q0, hb, hr, k0, k1, k2, k3, k4, k5, k6, k7, k8, k9, k10, k11⟩ := hI
              simp only [putAll, List.setIfInBounds_toArray, List.set_cons_succ, List.set_cons_zero]
              rcases (show i = 0 ∨ i = 1 ∨ i = 2 ∨ i = 3 ∨ i = 4 ∨ i = 5 ∨ i = 6 ∨ i = 7 ∨ i = 8 ∨ i = 9 ∨ i = 10 ∨ i = 11 by omega) with rfl | rfl | rfl | rfl | rfl | rfl | rfl | rfl | rfl | rfl | rfl | rfl
              · refine wpOp_step (by simp only [List.getElem?_toArray, List.getElem?_cons_zero]; rfl) (fun K hK => ?_)
                go_simp
                refine hK _ _ ⟨[.pointer (some ⟨h, 7, none⟩), v61, v62, v63, v64, v65, v66, v67, v68, v69, v70], ?_, _, _, _, _, _, _, _, _, _, _, _, rfl, hc, hch, hhw, q0, hb, hr, (fun _ => rfl), k1, k2, k3, k4, k5, k6, k7, k8, k9, k10, k11⟩
                simp only [putAll, List.setIfInBounds_toArray, List.set_cons_succ, List.set_cons_zero]
              · have e0 := k0 (hdep 0 (by kernel_rfl))
                subst e0
                have n11 : D 11 = false := Bool.eq_false_iff.2 (fun h => absurd (hcl 9 1 (hcl 11 9 h (by kernel_rfl)) (by kernel_rfl)) (by rw [hD]; simp))
                have hB := hb n11
                have b1 := hB.cell 7 _ rfl
                refine wpOp_step (by simp only [List.getElem?_toArray, List.getElem?_cons_succ, List.getElem?_cons_zero]; rfl) (fun K hK => ?_)
                go_simp
                refine hK _ _ ⟨[.pointer (some ⟨h, 7, none⟩), .slice O cs.length cp, v62, v63, v64, v65, v66, v67, v68, v69, v70], ?_, _, _, _, _, _, _, _, _, _, _, _, rfl, hc, hch, hhw, q0, hb, hr, (fun _ => rfl), (fun _ => rfl), k2, k3, k4, k5, k6, k7, k8, k9, k10, k11⟩
                simp only [putAll, List.setIfInBounds_toArray, List.set_cons_succ, List.set_cons_zero]
              · refine wpOp_step (by simp only [List.getElem?_toArray, List.getElem?_cons_succ, List.getElem?_cons_zero]; rfl) (fun K hK => ?_)
                go_simp
                refine hK _ _ ⟨[v60, v61, .pointer (some ⟨g, 0, none⟩), v63, v64, v65, v66, v67, v68, v69, v70], ?_, _, _, _, _, _, _, _, _, _, _, _, rfl, hc, hch, hhw, q0, hb, hr, k0, k1, (fun _ => rfl), k3, k4, k5, k6, k7, k8, k9, k10, k11⟩
                simp only [putAll, List.setIfInBounds_toArray, List.set_cons_succ, List.set_cons_zero]
              · have e2 := k2 (hdep 2 (by kernel_rfl))
                subst e2
                have n4 : D 4 = false := Bool.eq_false_iff.2 (fun h => absurd (hcl 4 3 h (by kernel_rfl)) (by rw [hD]; simp))
                have n5 : D 5 = false := Bool.eq_false_iff.2 (fun h => absurd (hcl 4 3 (hcl 5 4 h (by kernel_rfl)) (by kernel_rfl)) (by rw [hD]; simp))
                have n6 : D 6 = false := Bool.eq_false_iff.2 (fun h => absurd (hcl 4 3 (hcl 5 4 (hcl 6 5 h (by kernel_rfl)) (by kernel_rfl)) (by kernel_rfl)) (by rw [hD]; simp))
                have n7 : D 7 = false := Bool.eq_false_iff.2 (fun h => absurd (hcl 4 3 (hcl 5 4 (hcl 6 5 (hcl 7 6 h (by kernel_rfl)) (by kernel_rfl)) (by kernel_rfl)) (by kernel_rfl)) (by rw [hD]; simp))
                have n8 : D 8 = false := Bool.eq_false_iff.2 (fun h => absurd (hcl 4 3 (hcl 5 4 (hcl 6 5 (hcl 7 6 (hcl 8 7 h (by kernel_rfl)) (by kernel_rfl)) (by kernel_rfl)) (by kernel_rfl)) (by kernel_rfl)) (by rw [hD]; simp))
                have n9 : D 9 = false := Bool.eq_false_iff.2 (fun h => absurd (hcl 4 3 (hcl 5 4 (hcl 6 5 (hcl 7 6 (hcl 8 7 (hcl 9 8 h (by kernel_rfl)) (by kernel_rfl)) (by kernel_rfl)) (by kernel_rfl)) (by kernel_rfl)) (by kernel_rfl)) (by rw [hD]; simp))
                have n11 : D 11 = false := Bool.eq_false_iff.2 (fun h => absurd (hcl 4 3 (hcl 5 4 (hcl 6 5 (hcl 7 6 (hcl 8 7 (hcl 9 8 (hcl 11 9 h (by kernel_rfl)) (by kernel_rfl)) (by kernel_rfl)) (by kernel_rfl)) (by kernel_rfl)) (by kernel_rfl)) (by kernel_rfl)) (by rw [hD]; simp))
                refine wpOp_step (by simp only [List.getElem?_toArray, List.getElem?_cons_succ, List.getElem?_cons_zero]; rfl) (fun K hK => ?_)
                go_simp
                refine (l1Below_any g _ _ hc (by omega)).mono ?_
                rintro e w4 ⟨x, rfl, p0, p1, -, hc4, hch4⟩
                obtain ⟨n, rfl⟩ := Int.eq_ofNat_of_zero_le p0
                have hn4 : n < 4 := by have := p1 (by omega); omega
                have hz4 := hch4.size
                refine hK _ _ ⟨[v60, v61, .pointer (some ⟨g, 0, none⟩), .int .i64 (n : Int), v64, v65, v66, v67, v68, v69, v70], ?_, _, _, _, _, _, _, _, _, _, _, _, rfl, hc4, (hch.trans hch4), (Nat.lt_of_lt_of_le hhw hz4), (q0.ch hch4 (by omega)), (fun h' => (hb h').ch hch4 (by omega)), (fun h' => ((hr h').ch hch4 (fun k hk e => by unfold Iv at hk; omega)).wide (Nat.le_refl _) hz4), k0, k1, (fun _ => rfl), (fun _ => ⟨n, rfl, hn4⟩), (fun h => by rw [show D 4 = true from by simpa using h] at n4; cases n4), (fun h => by rw [show D 5 = true from by simpa using h] at n5; cases n5), (fun h => by rw [show D 6 = true from by simpa using h] at n6; cases n6), (fun h => by rw [show D 7 = true from by simpa using h] at n7; cases n7), (fun h => by rw [show D 8 = true from by simpa using h] at n8; cases n8), (fun h => by rw [show D 9 = true from by simpa using h] at n9; cases n9), k10, (fun h => by rw [show D 11 = true from by simpa using h] at n11; cases n11)⟩
                simp only [putAll, List.setIfInBounds_toArray, List.set_cons_succ, List.set_cons_zero]
              · obtain ⟨n, rfl, hn4⟩ := k3 (hdep 3 (by kernel_rfl))
                have hw8 := u8_small hn4
                refine wpOp_step (by simp only [List.getElem?_toArray, List.getElem?_cons_succ, List.getElem?_cons_zero]; rfl) (fun K hK => ?_)
                go_simp
                refine hK _ _ ⟨[v60, v61, v62, .int .i64 (n : Int), .int .u8 (n : Int), v65, v66, v67, v68, v69, v70], ?_, _, _, _, _, _, _, _, _, _, _, _, rfl, hc, hch, hhw, q0, hb, hr, k0, k1, k2, (fun _ => ⟨n, rfl, hn4⟩), (fun _ => ⟨n, rfl, hn4⟩), k5, k6, k7, k8, k9, k10, k11⟩
                simp only [putAll, List.setIfInBounds_toArray, List.set_cons_succ, List.set_cons_zero]
              · obtain ⟨n, rfl, hn4⟩ := k4 (hdep 4 (by kernel_rfl))
                have n6 : D 6 = false := Bool.eq_false_iff.2 (fun h => absurd (hcl 6 5 h (by kernel_rfl)) (by rw [hD]; simp))
                have n7 : D 7 = false := Bool.eq_false_iff.2 (fun h => absurd (hcl 6 5 (hcl 7 6 h (by kernel_rfl)) (by kernel_rfl)) (by rw [hD]; simp))
                have n8 : D 8 = false := Bool.eq_false_iff.2 (fun h => absurd (hcl 6 5 (hcl 7 6 (hcl 8 7 h (by kernel_rfl)) (by kernel_rfl)) (by kernel_rfl)) (by rw [hD]; simp))
                have n9 : D 9 = false := Bool.eq_false_iff.2 (fun h => absurd (hcl 6 5 (hcl 7 6 (hcl 8 7 (hcl 9 8 h (by kernel_rfl)) (by kernel_rfl)) (by kernel_rfl)) (by kernel_rfl)) (by rw [hD]; simp))
                have n11 : D 11 = false := Bool.eq_false_iff.2 (fun h => absurd (hcl 6 5 (hcl 7 6 (hcl 8 7 (hcl 9 8 (hcl 11 9 h (by kernel_rfl)) (by kernel_rfl)) (by kernel_rfl)) (by kernel_rfl)) (by kernel_rfl)) (by rw [hD]; simp))
                have hal := (Below.refl w'.heap.size w').alloc (Nat.le_refl _) (.cells #[.int .u8 (n : Int)] 5)
                refine wpOp_step (by simp only [List.getElem?_toArray, List.getElem?_cons_succ, List.getElem?_cons_zero]; rfl) (fun K hK => ?_)
                go_simp
                refine hK _ _ ⟨[v60, v61, v62, v63, .int .u8 (n : Int), .slice (some ⟨w'.heap.size, 0, none⟩) 1 1, v66, v67, v68, v69, v70], ?_, _, _, _, _, _, _, _, _, _, _, _, rfl, (hc.keep hal), (hch.trans (Ch.of_below hal)), (Nat.lt_of_lt_of_le hhw hal.size), (q0.keep hal), (fun h' => (hb h').keep hal), (fun h' => ((hr h').keep hal).wide (Nat.le_refl _) hal.size), k0, k1, k2, k3, (fun _ => ⟨n, rfl, hn4⟩), (fun _ => ⟨_, n, rfl, hn4, fun _ => by simp [go_sem]⟩), (fun h => by rw [show D 6 = true from by simpa using h] at n6; cases n6), (fun h => by rw [show D 7 = true from by simpa using h] at n7; cases n7), (fun h => by rw [show D 8 = true from by simpa using h] at n8; cases n8), (fun h => by rw [show D 9 = true from by simpa using h] at n9; cases n9), k10, (fun h => by rw [show D 11 = true from by simpa using h] at n11; cases n11)⟩
                simp only [putAll, List.setIfInBounds_toArray, List.set_cons_succ, List.set_cons_zero]
              · obtain ⟨gb, n, rfl, hn4, hcl5⟩ := k5 (hdep 5 (by kernel_rfl))
                have hcv := conv_one (hcl5 hD) (by omega)
                refine wpOp_step (by simp only [List.getElem?_toArray, List.getElem?_cons_succ, List.getElem?_cons_zero]; rfl) (fun K hK => ?_)
                go_simp
                refine hK _ _ ⟨[v60, v61, v62, v63, v64, .slice (some ⟨gb, 0, none⟩) 1 1, .string ⟨#[UInt8.ofNat n]⟩, v67, v68, v69, v70], ?_, _, _, _, _, _, _, _, _, _, _, _, rfl, hc, hch, hhw, q0, hb, hr, k0, k1, k2, k3, k4, (fun _ => ⟨gb, n, rfl, hn4, fun h => absurd h (by simp)⟩), (fun _ => ⟨_, rfl, by show (1 : Nat) ≤ _; omega⟩), k7, k8, k9, k10, k11⟩
                simp only [putAll, List.setIfInBounds_toArray, List.set_cons_succ, List.set_cons_zero]
              · obtain ⟨s, rfl, hs1⟩ := k6 (hdep 6 (by kernel_rfl))
                have n8 : D 8 = false := Bool.eq_false_iff.2 (fun h => absurd (hcl 8 7 h (by kernel_rfl)) (by rw [hD]; simp))
                have n9 : D 9 = false := Bool.eq_false_iff.2 (fun h => absurd (hcl 8 7 (hcl 9 8 h (by kernel_rfl)) (by kernel_rfl)) (by rw [hD]; simp))
                have n11 : D 11 = false := Bool.eq_false_iff.2 (fun h => absurd (hcl 8 7 (hcl 9 8 (hcl 11 9 h (by kernel_rfl)) (by kernel_rfl)) (by kernel_rfl)) (by rw [hD]; simp))
                refine wpOp_step (by simp only [List.getElem?_toArray, List.getElem?_cons_succ, List.getElem?_cons_zero]; rfl) (fun K hK => ?_)
                go_simp
                refine (short_specS _ _ hs1).mono ?_
                rintro e w4 ⟨rfl, hb4⟩
                have h8 := shortD_le s
                refine hK _ _ ⟨[v60, v61, v62, v63, v64, v65, .string s, .string (shortS s), v68, v69, v70], ?_, _, _, _, _, _, _, _, _, _, _, _, rfl, (hc.keep hb4), (hch.trans (Ch.of_below hb4)), (Nat.lt_of_lt_of_le hhw hb4.size), (q0.keep hb4), (fun h' => (hb h').keep hb4), (fun h' => ((hr h').keep hb4).wide (Nat.le_refl _) hb4.size), k0, k1, k2, k3, k4, (fun h' => by obtain ⟨gb, n5, e5, h5, hcl5⟩ := k5 h'; exact ⟨gb, n5, e5, h5, fun h6 => by rw [show D 6 = true from hdep 6 (by kernel_rfl)] at h6; cases h6⟩), (fun _ => ⟨s, rfl, hs1⟩), (fun _ => ⟨_, rfl, by omega⟩), (fun h => by rw [show D 8 = true from by simpa using h] at n8; cases n8), (fun h => by rw [show D 9 = true from by simpa using h] at n9; cases n9), k10, (fun h => by rw [show D 11 = true from by simpa using h] at n11; cases n11)⟩
                simp only [putAll, List.setIfInBounds_toArray, List.set_cons_succ, List.set_cons_zero]
              · obtain ⟨s, rfl, hs9⟩ := k7 (hdep 7 (by kernel_rfl))
                have n9 : D 9 = false := Bool.eq_false_iff.2 (fun h => absurd (hcl 9 8 h (by kernel_rfl)) (by rw [hD]; simp))
                have n11 : D 11 = false := Bool.eq_false_iff.2 (fun h => absurd (hcl 9 8 (hcl 11 9 h (by kernel_rfl)) (by kernel_rfl)) (by rw [hD]; simp))
                have hal := (Below.refl w'.heap.size w').alloc (Nat.le_refl _) (.cells #[.string s] 9)
                have d6 : D 6 = true := hcl 7 6 (hdep 7 (by kernel_rfl)) (by kernel_rfl)
                refine wpOp_step (by simp only [List.getElem?_toArray, List.getElem?_cons_succ, List.getElem?_cons_zero]; rfl) (fun K hK => ?_)
                go_simp
                refine hK _ _ ⟨[v60, v61, v62, v63, v64, v65, v66, .string s, .slice (some ⟨w'.heap.size, 0, none⟩) 1 1, v69, v70], ?_, _, _, _, _, _, _, _, _, _, _, _, rfl, (hc.keep hal), (hch.trans (Ch.of_below hal)), (Nat.lt_of_lt_of_le hhw hal.size), (q0.keep hal), (fun h' => (hb h').keep hal), (fun h' => ((hr h').keep hal).wide (Nat.le_refl _) hal.size), k0, k1, k2, k3, k4, (fun h' => by obtain ⟨gb, n5, e5, h5, hcl5⟩ := k5 (by simpa using h'); exact ⟨gb, n5, e5, h5, fun h6 => by rw [show D 6 = false from by simpa using h6] at d6; cases d6⟩), k6, (fun _ => ⟨s, rfl, hs9⟩), (fun _ => ⟨_, _, rfl, hs9, fun _ => new1d _ _ _⟩), (fun h => by rw [show D 9 = true from by simpa using h] at n9; cases n9), k10, (fun h => by rw [show D 11 = true from by simpa using h] at n11; cases n11)⟩
                simp only [putAll, List.setIfInBounds_toArray, List.set_cons_succ, List.set_cons_zero]
              · have e1 := k1 (hdep 1 (by kernel_rfl))
                subst e1
                obtain ⟨gb, s, rfl, hs9, hcl8⟩ := k8 (hdep 8 (by kernel_rfl))
                have n11 : D 11 = false := Bool.eq_false_iff.2 (fun h => absurd (hcl 11 9 h (by kernel_rfl)) (by rw [hD]; simp))
                have hB := hb n11
                have hown := (hr hD).row.own
                have d6 : D 6 = true := hcl 7 6 (hcl 8 7 (hdep 8 (by kernel_rfl)) (by kernel_rfl)) (by kernel_rfl)
                refine wpOp_step (by simp only [List.getElem?_toArray, List.getElem?_cons_succ, List.getElem?_cons_zero]; rfl) (fun K hK => ?_)
                refine step_app (by rfl) (.tmp 61) (.tmp 68) 38 (by rfl) (h + 1) 9 _ 1 16 Try.underlying38 infoString rfl (by omega) (.slice O cs.length cp) cs.length (cs.map Value.string) (by rfl) hown (some ⟨gb, 0, none⟩) 1 1 [.string s] (by rfl) (hcl8 hD) (by simp [Value.oneCell']) (fun h => by cases h) (by unfold maxLen; omega) (by omega) (by omega) ?_
                intro A' c' w5 hown5 hg5 hb5 hob5
                have hrow5 : StrsIn (h + 1) w5.heap.size w5 A' (cs.length + 1) c' (cs ++ [s]) := StrsIn.of_own (by simpa using hown5)
                have hb5w : Below w.heap.size w' w5 := hb5.mono (by omega)
                have hlt0 := hc.lt
                refine hK _ _ ⟨[v60, .slice O cs.length cp, v62, v63, v64, v65, v66, v67, .slice (some ⟨gb, 0, none⟩) 1 1, .slice A' (cs.length + 1) c', v70], ?_, _, _, _, _, _, _, _, _, _, _, _, rfl, (hc.below hb5w hlt), (hch.thenB hb5w), (Nat.lt_of_lt_of_le hhw hb5.size), (q0.below hb5 (by omega)), (fun h' => (hb h').below hb5 (by omega)), (fun h => absurd h (by simp)), k0, (fun _ => rfl), k2, k3, k4, (fun h' => by obtain ⟨gb, n5, e5, h5, hcl5⟩ := k5 (by simpa using h'); exact ⟨gb, n5, e5, h5, fun h6 => by rw [show D 6 = false from by simpa using h6] at d6; cases d6⟩), k6, k7, (fun _ => ⟨gb, s, rfl, hs9, fun h => absurd h (by simp)⟩), (fun _ => ⟨A', c', s, rfl, hs9, hrow5⟩), k10, (fun h => by rw [show D 11 = true from by simpa using h] at n11; cases n11)⟩
                simp only [Act.put, putAll, List.setIfInBounds_toArray, List.set_cons_succ, List.set_cons_zero]
              · refine wpOp_step (by simp only [List.getElem?_toArray, List.getElem?_cons_succ, List.getElem?_cons_zero]; rfl) (fun K hK => ?_)
                go_simp
                refine hK _ _ ⟨[v60, v61, v62, v63, v64, v65, v66, v67, v68, v69, .pointer (some ⟨h, 7, none⟩)], ?_, _, _, _, _, _, _, _, _, _, _, _, rfl, hc, hch, hhw, q0, hb, hr, k0, k1, k2, k3, k4, k5, k6, k7, k8, k9, (fun _ => rfl), k11⟩
                simp only [putAll, List.setIfInBounds_toArray, List.set_cons_succ, List.set_cons_zero]
              · obtain ⟨A', c', s, rfl, hs9, hrow5⟩ := k9 (hdep 9 (by kernel_rfl))
                have e10 := k10 (hdep 10 (by kernel_rfl))
                subst e10
                have hB := hb hD
                have b1 := hB.cell 7 _ rfl
                have f1 := hB.fz 7 (by simp)
                have d9 : D 9 = true := hdep 9 (by kernel_rfl)
                have d8 : D 8 = true := hcl 9 8 d9 (by kernel_rfl)
                have d7 : D 7 = true := hcl 8 7 d8 (by kernel_rfl)
                have d6 : D 6 = true := hcl 7 6 d7 (by kernel_rfl)
                have one : Ch (fun k => k = h) w' (w'.setCell ⟨h, 7, none⟩ (.slice A' (cs.length + 1) c')) := Ch.set
                have hbS : Below w.heap.size w' (w'.setCell ⟨h, 7, none⟩ (.slice A' (cs.length + 1) c')) := (Below.refl _ _).setCell (Nat.le_of_lt hrh) _
                refine wpOp_step (by simp only [List.getElem?_toArray, List.getElem?_cons_succ, List.getElem?_cons_zero]; rfl) (fun K hK => ?_)
                go_simp
                refine hK _ _ ⟨[v60, v61, v62, v63, v64, v65, v66, v67, v68, .slice A' (cs.length + 1) c', .pointer (some ⟨h, 7, none⟩)], ?_, _, _, _, _, _, _, _, _, _, _, _, rfl, (hc.below hbS hlt), (hch.thenB hbS), (Nat.lt_of_lt_of_le hhw one.size), (q0.ch one (by omega)), (fun h => absurd h (by simp)), (fun h' => by rw [show D 9 = false from by simpa using h'] at d9; cases d9), k0, k1, k2, k3, k4, (fun h' => by obtain ⟨gb, n5, e5, h5, hcl5⟩ := k5 (by simpa using h'); exact ⟨gb, n5, e5, h5, fun h6 => by rw [show D 6 = false from by simpa using h6] at d6; cases d6⟩), k6, k7, (fun h' => by obtain ⟨gb, s4, e4, h4, h5⟩ := k8 d8; exact ⟨gb, s4, e4, h4, fun h' => by rw [show D 9 = false from by simpa using h'] at d9; cases d9⟩), (fun _ => ⟨A', c', s, rfl, hs9, (hrow5.ch one (fun k hk e => by unfold Iv at hk; omega)).wide (Nat.le_refl _) one.size⟩), (fun _ => rfl), (fun _ => ⟨A', c', s, hs9, hB.set (by simp), (hrow5.ch one (fun k hk e => by unfold Iv at hk; omega)).wide (Nat.le_refl _) one.size⟩)⟩
                simp only [putAll, List.setIfInBounds_toArray, List.set_cons_succ, List.set_cons_zero]
            · intro D vs w' hD hI
              obtain ⟨v60, v61, v62, v63, v64, v65, v66, v67, v68, v69, v70, rfl, hc, hch, hhw, q0, hb, hr, k0, k1, k2, k3, k4, k5, k6, k7, k8, k9, k10, k11⟩ := hI
              simp only [putAll, List.setIfInBounds_toArray, List.set_cons_succ, List.set_cons_zero]
              obtain ⟨A', c', s, hs9, hB, hrow5⟩ := k11 (hD 11 (show 11 < 12 by decide))
              clear k0 k1 k2 k3 k4 k5 k6 k7 k8 k9 k10 k11 hD hb hr C hrow R
              go_wp2
              refine ⟨⟨k - 1, A', c', cs ++ [s], by congr 1; omega, by rw [List.length_append]; simp only [List.length_cons, List.length_nil]; omega, ?_, by simpa using hB, by simpa using hrow5, q0, hc, hch⟩, by simp [intOf]; omega⟩
              intro x hx
              rcases List.mem_append.1 hx with hx | hx
              · exact hsm x hx
              · have : x = s := by simpa using hx
                subst this; omega
          · have hk0 : k = 0 := by omega
            subst hk0
            go_upto_region 17 with fail
            have hRt := R.there (n := 8) rfl
            have hCr := C.range
            obtain ⟨WF, hWF⟩ : ∃ W, W = wr.setCells w.heap.size 0 (#[.int .i64 3, .int .i64 (1 + (n2 : Int)), .int .i64 (1 + (n3 : Int)), .string s3, .string s4, .string ⟨#[]⟩, .int .i64 0, .slice O cs.length cp] : Array Value).toList := ⟨_, rfl⟩
            have cF : Ch (fun b => b = w.heap.size) wr WF := by rw [hWF]; exact ch_setCells _ _ _
            have RF : BoxL WF w.heap.size [.int .i64 3, .int .i64 (1 + (n2 : Int)), .int .i64 (1 + (n3 : Int)), .string s3, .string s4, .string ⟨#[]⟩, .int .i64 0, .slice O cs.length cp] := by rw [hWF]; exact R.setCells rfl
            have hOne : (#[.int .i64 3, .int .i64 (1 + (n2 : Int)), .int .i64 (1 + (n3 : Int)), .string s3, .string s4, .string ⟨#[]⟩, .int .i64 0, .slice O cs.length cp] : Array Value).all (·.oneCell') = true := all_oneCell_toArray (cs := [.int .i64 3, .int .i64 (1 + (n2 : Int)), .int .i64 (1 + (n3 : Int)), .string s3, .string s4, .string ⟨#[]⟩, .int .i64 0, .slice O cs.length cp]) (by simp [Value.oneCell'])
            have hWr := RF.range
            have hbF : Below w.heap.size wr WF := cF.below (fun k hk => by have hk : k = _ := hk; omega) (by have := R.lt; omega)
            have hrowF := (hrow.ch cF (fun k hk e => by unfold Iv at hk; omega)).wide (show w.heap.size ≤ h + 1 by omega) cF.size
            clear hrow
            have hcF := hc.below hbF hlt
            have hDF := D.thenB hbF
            have HWF := Lib.hid hWF; clear hWF cF RF R C hc D hbF
            repeat (first | ((with_reducible refine wpList_store_mid ?_ 47 (.tmp 2) (.tmp 71) ?_ w.heap.size 0 #[.int .i64 3, .int .i64 (1 + (n2 : Int)), .int .i64 (1 + (n3 : Int)), .string s3, .string s4, .string ⟨#[]⟩, .int .i64 0, .slice O cs.length cp] ?_ ?_ ?_ ?_ hOne ?_); all_goals (first | rw [← HWF.out] | exact hRt | exact sizeCmdD | rfl)) | ((with_reducible refine loadCmdD ?_ (.tmp 3) ?_ h ?_ [.int .i64 3, .int .i64 (1 + (n2 : Int)), .int .i64 (1 + (n3 : Int)), .string s3, .string s4, .string ⟨#[]⟩, .int .i64 0, .slice O cs.length cp] ?_ hCr ?_); (rfl); (rfl); (rfl); (rfl)) | go_values | go_skip | go_guarded | go_step | go_upon | (simp only []; go_at_K))
            try simp only [Exit.inBlock, Exit.then, Act.put, List.setIfInBounds_toArray, List.set_cons_succ, List.set_cons_zero]
            refine bodyPost_ret (results_cellD Try.results151 rfl hWr Try.underlying47 rfl sizeCmdD) rfl ?_
            exact ⟨⟨3, _, _, s3, s4, ⟨#[]⟩, 0, cs⟩, O, cs.length, cp, rfl, ⟨hs3, hs4, Nat.zero_le _, by simp; omega, hsm⟩, hrowF, hcF, hDF⟩
      · by_cases h4 : K = 4
        · subst h4
          have q0 := C.cell 0 _ rfl
          go_wp2_with fail
          clear q0
          have hlg := hc.lt
          have al := (Below.refl wc.heap.size wc).alloc (Nat.le_refl _) (.cells (pickN.map Value.string).toArray 9)
          refine (l1Pick_any g _ 3 _ pickN _ (hc.keep al) (strs_new _ _ pickN) (by omega) (by omega) (blk_ne hlg)).mono ?_
          rintro e w5 ⟨i, hi, rfl, hc', hch⟩
          have R' := (R.keep al).ch hch (by omega)
          have C' := (C.keep al).ch hch (by omega)
          have D' := (D.trans (Ch.of_below al)).trans hch
          have hs4 := pickN_le i
          generalize sAt pickN i = s4 at *
          clear R C D hc hch al hi hlg
          have cj := C'.cell 4 _ rfl
          have fj := C'.fz 4 (by simp)
          go_upto_region 8 with fail
          have hs := Ch.set (w := w5) (g := h) (o := 4) (v := .string s4)
          have hb : Below w.heap.size w5 (w5.setCell ⟨h, 4, none⟩ (.string s4)) := (Below.refl _ _).setCell (Nat.le_of_lt hrh) _
          have C2 := C'.set (j := 4) (v := .string s4) (by simp)
          have R2 := R'.ch hs (by omega)
          have hc2 := hc'.below hb hlt
          have D2 := D'.thenB hb
          clear C' R' hc' D' hs hb cj fj
          simp only [List.set_cons_succ, List.set_cons_zero] at C2
          obtain ⟨W5, hW⟩ : ∃ W, W = w5.setCell ⟨h, 4, none⟩ (.string s4) := ⟨_, rfl⟩
          rw [← hW] at C2 R2 hc2 D2 ⊢
          clear hW
          have C := C2; have R := R2; have hc := hc2; have D := D2; clear C2 R2 hc2 D2
          have q0 := C.cell 0 _ rfl
          go_wp2_with fail
          clear q0
          have hlg := hc.lt
          have al := (Below.refl W5.heap.size W5).alloc (Nat.le_refl _) (.cells (pickT.map Value.string).toArray 9)
          refine (l1Pick_any g _ 2 _ pickT _ (hc.keep al) (strs_new _ _ pickT) (by omega) (by omega) (blk_ne hlg)).mono ?_
          rintro e w6 ⟨i, hi, rfl, hc', hch⟩
          have R' := (R.keep al).ch hch (by omega)
          have C' := (C.keep al).ch hch (by omega)
          have D' := (D.trans (Ch.of_below al)).trans hch
          have hs9 := pickT_le i
          generalize sAt pickT i = sx at *
          clear R C D hc hch al hi hlg
          have cj := C'.cell 5 _ rfl
          have fj := C'.fz 5 (by simp)
          go_upto_region 10 with fail
          have hs := Ch.set (w := w6) (g := h) (o := 5) (v := .string sx)
          have hb : Below w.heap.size w6 (w6.setCell ⟨h, 5, none⟩ (.string sx)) := (Below.refl _ _).setCell (Nat.le_of_lt hrh) _
          have C2 := C'.set (j := 5) (v := .string sx) (by simp)
          have R2 := R'.ch hs (by omega)
          have hc2 := hc'.below hb hlt
          have D2 := D'.thenB hb
          clear C' R' hc' D' hs hb cj fj
          simp only [List.set_cons_succ, List.set_cons_zero] at C2
          obtain ⟨W6, hW⟩ : ∃ W, W = w6.setCell ⟨h, 5, none⟩ (.string sx) := ⟨_, rfl⟩
          rw [← hW] at C2 R2 hc2 D2 ⊢
          clear hW
          have C := C2; have R := R2; have hc := hc2; have D := D2; clear C2 R2 hc2 D2
          have q0 := C.cell 0 _ rfl
          go_upto_region 17 with fail
          clear q0
          have hRt := R.there (n := 8) rfl
          have hCr := C.range
          obtain ⟨WF, hWF⟩ : ∃ W, W = W6.setCells w.heap.size 0 (#[.int .i64 4, .int .i64 (1 + (n2 : Int)), .int .i64 (1 + (n3 : Int)), .string s3, .string s4, .string sx, .int .i64 0, .slice none 0 0] : Array Value).toList := ⟨_, rfl⟩
          have cF : Ch (fun b => b = w.heap.size) W6 WF := by rw [hWF]; exact ch_setCells _ _ _
          have RF : BoxL WF w.heap.size [.int .i64 4, .int .i64 (1 + (n2 : Int)), .int .i64 (1 + (n3 : Int)), .string s3, .string s4, .string sx, .int .i64 0, .slice none 0 0] := by rw [hWF]; exact R.setCells rfl
          have hOne : (#[.int .i64 4, .int .i64 (1 + (n2 : Int)), .int .i64 (1 + (n3 : Int)), .string s3, .string s4, .string sx, .int .i64 0, .slice none 0 0] : Array Value).all (·.oneCell') = true := all_oneCell_toArray (cs := [.int .i64 4, .int .i64 (1 + (n2 : Int)), .int .i64 (1 + (n3 : Int)), .string s3, .string s4, .string sx, .int .i64 0, .slice none 0 0]) (by simp [Value.oneCell'])
          have hWr := RF.range
          have hbF : Below w.heap.size W6 WF := cF.below (fun k hk => by have hk : k = _ := hk; omega) (by have := R.lt; omega)
          have hcF := hc.below hbF hlt
          have hDF := D.thenB hbF
          have HWF := Lib.hid hWF; clear hWF cF RF R C hc D hbF
          repeat (first | ((with_reducible refine wpList_store_mid ?_ 47 (.tmp 2) (.tmp 71) ?_ w.heap.size 0 #[.int .i64 4, .int .i64 (1 + (n2 : Int)), .int .i64 (1 + (n3 : Int)), .string s3, .string s4, .string sx, .int .i64 0, .slice none 0 0] ?_ ?_ ?_ ?_ hOne ?_); all_goals (first | rw [← HWF.out] | exact hRt | exact sizeCmdD | rfl)) | ((with_reducible refine loadCmdD ?_ (.tmp 3) ?_ h ?_ [.int .i64 4, .int .i64 (1 + (n2 : Int)), .int .i64 (1 + (n3 : Int)), .string s3, .string s4, .string sx, .int .i64 0, .slice none 0 0] ?_ hCr ?_); (rfl); (rfl); (rfl); (rfl)) | go_values | go_skip | go_guarded | go_step | go_upon | (simp only []; go_at_K))
          try simp only [Exit.inBlock, Exit.then, Act.put, List.setIfInBounds_toArray, List.set_cons_succ, List.set_cons_zero]
          refine bodyPost_ret (results_cellD Try.results151 rfl hWr Try.underlying47 rfl sizeCmdD) rfl ?_
          exact ⟨⟨4, _, _, s3, s4, sx, 0, []⟩, none, 0, 0, rfl, ⟨hs3, hs4, hs9, by simp, fun y hy => by cases hy⟩, StrsIn.nil, hcF, hDF⟩
        · by_cases h5 : K = 5
          · subst h5
            have q0 := C.cell 0 _ rfl
            go_wp2_with fail
            clear q0
            refine (l1Below_any g _ _ hc (by omega)).mono ?_
            rintro e w5 ⟨x, rfl, p0, p1, -, hc', hch⟩
            have R' := R.ch hch (by omega)
            have C' := C.ch hch (by omega)
            have D' := D.trans hch
            clear R C D hc hch p0 p1
            have cj := C'.cell 6 _ rfl
            have fj := C'.fz 6 (by simp)
            go_upto_region 12 with fail
            have hs := Ch.set (w := w5) (g := h) (o := 6) (v := .int .i64 x)
            have hb : Below w.heap.size w5 (w5.setCell ⟨h, 6, none⟩ (.int .i64 x)) := (Below.refl _ _).setCell (Nat.le_of_lt hrh) _
            have C2 := C'.set (j := 6) (v := .int .i64 x) (by simp)
            have R2 := R'.ch hs (by omega)
            have hc2 := hc'.below hb hlt
            have D2 := D'.thenB hb
            clear C' R' hc' D' hs hb cj fj
            simp only [List.set_cons_succ, List.set_cons_zero] at C2
            obtain ⟨W5, hW⟩ : ∃ W, W = w5.setCell ⟨h, 6, none⟩ (.int .i64 x) := ⟨_, rfl⟩
            rw [← hW] at C2 R2 hc2 D2 ⊢
            clear hW
            have C := C2; have R := R2; have hc := hc2; have D := D2; clear C2 R2 hc2 D2
            have q0 := C.cell 0 _ rfl
            go_upto_region 17 with fail
            clear q0
            have hRt := R.there (n := 8) rfl
            have hCr := C.range
            obtain ⟨WF, hWF⟩ : ∃ W, W = W5.setCells w.heap.size 0 (#[.int .i64 5, .int .i64 (1 + (n2 : Int)), .int .i64 (1 + (n3 : Int)), .string s3, .string ⟨#[]⟩, .string ⟨#[]⟩, .int .i64 x, .slice none 0 0] : Array Value).toList := ⟨_, rfl⟩
            have cF : Ch (fun b => b = w.heap.size) W5 WF := by rw [hWF]; exact ch_setCells _ _ _
            have RF : BoxL WF w.heap.size [.int .i64 5, .int .i64 (1 + (n2 : Int)), .int .i64 (1 + (n3 : Int)), .string s3, .string ⟨#[]⟩, .string ⟨#[]⟩, .int .i64 x, .slice none 0 0] := by rw [hWF]; exact R.setCells rfl
            have hOne : (#[.int .i64 5, .int .i64 (1 + (n2 : Int)), .int .i64 (1 + (n3 : Int)), .string s3, .string ⟨#[]⟩, .string ⟨#[]⟩, .int .i64 x, .slice none 0 0] : Array Value).all (·.oneCell') = true := all_oneCell_toArray (cs := [.int .i64 5, .int .i64 (1 + (n2 : Int)), .int .i64 (1 + (n3 : Int)), .string s3, .string ⟨#[]⟩, .string ⟨#[]⟩, .int .i64 x, .slice none 0 0]) (by simp [Value.oneCell'])
            have hWr := RF.range
            have hbF : Below w.heap.size W5 WF := cF.below (fun k hk => by have hk : k = _ := hk; omega) (by have := R.lt; omega)
            have hcF := hc.below hbF hlt
            have hDF := D.thenB hbF
            have HWF := Lib.hid hWF; clear hWF cF RF R C hc D hbF
            repeat (first | ((with_reducible refine wpList_store_mid ?_ 47 (.tmp 2) (.tmp 71) ?_ w.heap.size 0 #[.int .i64 5, .int .i64 (1 + (n2 : Int)), .int .i64 (1 + (n3 : Int)), .string s3, .string ⟨#[]⟩, .string ⟨#[]⟩, .int .i64 x, .slice none 0 0] ?_ ?_ ?_ ?_ hOne ?_); all_goals (first | rw [← HWF.out] | exact hRt | exact sizeCmdD | rfl)) | ((with_reducible refine loadCmdD ?_ (.tmp 3) ?_ h ?_ [.int .i64 5, .int .i64 (1 + (n2 : Int)), .int .i64 (1 + (n3 : Int)), .string s3, .string ⟨#[]⟩, .string ⟨#[]⟩, .int .i64 x, .slice none 0 0] ?_ hCr ?_); (rfl); (rfl); (rfl); (rfl)) | go_values | go_skip | go_guarded | go_step | go_upon | (simp only []; go_at_K))
            try simp only [Exit.inBlock, Exit.then, Act.put, List.setIfInBounds_toArray, List.set_cons_succ, List.set_cons_zero]
            refine bodyPost_ret (results_cellD Try.results151 rfl hWr Try.underlying47 rfl sizeCmdD) rfl ?_
            exact ⟨⟨5, _, _, s3, ⟨#[]⟩, ⟨#[]⟩, x, []⟩, none, 0, 0, rfl, ⟨hs3, Nat.zero_le _, Nat.zero_le _, by simp, fun y hy => by cases hy⟩, StrsIn.nil, hcF, hDF⟩
          · have b3 : (K == 3) = false := by simp [h3]
            have b4 : (K == 4) = false := by simp [h4]
            have b5 : (K == 5) = false := by simp [h5]
            have q0 := C.cell 0 _ rfl
            go_upto_region 17 with fail
            clear q0
            have hRt := R.there (n := 8) rfl
            have hCr := C.range
            obtain ⟨WF, hWF⟩ : ∃ W, W = wc.setCells w.heap.size 0 (#[.int .i64 K, .int .i64 (1 + (n2 : Int)), .int .i64 (1 + (n3 : Int)), .string s3, .string ⟨#[]⟩, .string ⟨#[]⟩, .int .i64 0, .slice none 0 0] : Array Value).toList := ⟨_, rfl⟩
            have cF : Ch (fun b => b = w.heap.size) wc WF := by rw [hWF]; exact ch_setCells _ _ _
            have RF : BoxL WF w.heap.size [.int .i64 K, .int .i64 (1 + (n2 : Int)), .int .i64 (1 + (n3 : Int)), .string s3, .string ⟨#[]⟩, .string ⟨#[]⟩, .int .i64 0, .slice none 0 0] := by rw [hWF]; exact R.setCells rfl
            have hOne : (#[.int .i64 K, .int .i64 (1 + (n2 : Int)), .int .i64 (1 + (n3 : Int)), .string s3, .string ⟨#[]⟩, .string ⟨#[]⟩, .int .i64 0, .slice none 0 0] : Array Value).all (·.oneCell') = true := all_oneCell_toArray (cs := [.int .i64 K, .int .i64 (1 + (n2 : Int)), .int .i64 (1 + (n3 : Int)), .string s3, .string ⟨#[]⟩, .string ⟨#[]⟩, .int .i64 0, .slice none 0 0]) (by simp [Value.oneCell'])
            have hWr := RF.range
            have hbF : Below w.heap.size wc WF := cF.below (fun k hk => by have hk : k = _ := hk; omega) (by have := R.lt; omega)
            have hcF := hc.below hbF hlt
            have hDF := D.thenB hbF
            have HWF := Lib.hid hWF; clear hWF cF RF R C hc D hbF
            repeat (first | ((with_reducible refine wpList_store_mid ?_ 47 (.tmp 2) (.tmp 71) ?_ w.heap.size 0 #[.int .i64 K, .int .i64 (1 + (n2 : Int)), .int .i64 (1 + (n3 : Int)), .string s3, .string ⟨#[]⟩, .string ⟨#[]⟩, .int .i64 0, .slice none 0 0] ?_ ?_ ?_ ?_ hOne ?_); all_goals (first | rw [← HWF.out] | exact hRt | exact sizeCmdD | rfl)) | ((with_reducible refine loadCmdD ?_ (.tmp 3) ?_ h ?_ [.int .i64 K, .int .i64 (1 + (n2 : Int)), .int .i64 (1 + (n3 : Int)), .string s3, .string ⟨#[]⟩, .string ⟨#[]⟩, .int .i64 0, .slice none 0 0] ?_ hCr ?_); (rfl); (rfl); (rfl); (rfl)) | go_values | go_skip | go_guarded | go_step | go_upon | (simp only []; go_at_K))
            try simp only [Exit.inBlock, Exit.then, Act.put, List.setIfInBounds_toArray, List.set_cons_succ, List.set_cons_zero]
            refine bodyPost_ret (results_cellD Try.results151 rfl hWr Try.underlying47 rfl sizeCmdD) rfl ?_
            exact ⟨⟨K, _, _, s3, ⟨#[]⟩, ⟨#[]⟩, 0, []⟩, none, 0, 0, rfl, ⟨hs3, Nat.zero_le _, Nat.zero_le _, by simp, fun y hy => by cases hy⟩, StrsIn.nil, hcF, hDF⟩

/-- a row of texts of the call's own that does not lie in block h -/
def RowX (lo h : Nat) (w : World) (A : Option Addr) (n c : Nat) (l : List ByteArray) : Prop := lo ≤ w.heap.size ∧ w.ownsRow lo 9 1 (.slice A n c) n (l.map Value.string) ∧ (Value.slice A n c).ownBlock ≠ some h
theorem RowX.blk {lo h n c : Nat} {w : World} {A : Option Addr} {l : List ByteArray} (k : RowX lo h w A n c l) {b : Nat} (hb : (Value.slice A n c).ownBlock = some b) : lo ≤ b ∧ b < w.heap.size ∧ b ≠ h :=
  ⟨(own_lo k.2.1 b (mem_blkL.2 (blk_of hb))).1, (own_lo k.2.1 b (mem_blkL.2 (blk_of hb))).2, fun e => k.2.2 (e ▸ hb)⟩
theorem RowX.ch {lo h n c : Nat} {S : Nat → Prop} {w w' : World} {A : Option Addr} {l : List ByteArray} (k : RowX lo h w A n c l) (hc : Ch S w w') (hS : ∀ b, lo ≤ b → b ≠ h → ¬ S b) : RowX lo h w' A n c l :=
  ⟨Nat.le_trans k.1 hc.size, own_ch k.2.1 hc (fun b hb => hS b (k.blk hb).1 (k.blk hb).2.2), k.2.2⟩
theorem RowX.keep {lo h n c : Nat} {w w' : World} {A : Option Addr} {l : List ByteArray} (k : RowX lo h w A n c l) (hb : Below w.heap.size w w') : RowX lo h w' A n c l := k.ch (S := fun _ => False) (Ch.of_below hb) (fun _ _ _ h => h)
theorem RowX.of_in {lo hi h n c : Nat} {w : World} {A : Option Addr} {l : List ByteArray} (k : StrsIn lo hi w A n c l) (h1 : lo ≤ w.heap.size) (h2 : hi ≤ h) : RowX lo h w A n c l :=
  ⟨h1, k.row.own, fun e => by have := (k.row.blk (blk_of e)).1; unfold Iv at this; omega⟩
theorem RowX.fin {lo lo' h n c : Nat} {w : World} {A : Option Addr} {l : List ByteArray} (k : RowX lo h w A n c l) (h1 : lo' ≤ lo) : StrsIn lo' w.heap.size w A n c l := (StrsIn.of_own k.2.1).wide h1 (Nat.le_refl _)
theorem RowX.own {lo h n c : Nat} {w : World} {A : Option Addr} {l : List ByteArray} (k : RowX lo h w A n c l) : w.ownsRow lo 9 1 (.slice A n c) n (l.map Value.string) := k.2.1
theorem RowX.lo {lo h n c : Nat} {w : World} {A : Option Addr} {l : List ByteArray} (k : RowX lo h w A n c l) : lo ≤ w.heap.size := k.1
theorem RowX.app {lo h n c c' : Nat} {w w' : World} {A A' : Option Addr} {l : List ByteArray} {s : ByteArray} (k : RowX lo h w A n c l) (hh : h < w.heap.size) (hb : Below lo w w') (ho : w'.ownsRow lo 9 1 (.slice A' (n + 1) c') (n + 1) (l.map Value.string ++ [.string s]))
    (hob : (Value.slice A' (n + 1) c').ownBlock = (Value.slice A n c).ownBlock ∨ (Value.slice A' (n + 1) c').ownBlock = some w.heap.size) : RowX lo h w' A' (n + 1) c' (l ++ [s]) :=
  ⟨Nat.le_trans k.1 hb.size, by simpa using ho, fun e => by
    rcases hob with h1 | h1
    · exact k.2.2 (h1.symm.trans e)
    · rw [e] at h1; injection h1 with h1; omega⟩
theorem vals_new (w : World) (e : TypeId) (l : List Int) : ValsAt (w.alloc (.cells (l.map (Value.int .i64)).toArray e)) (some ⟨w.heap.size, 0, none⟩) l.length (intV (iAt l)) := by
  refine fun _ => ⟨w.heap.size, 0, rfl, by simp, fun i hi => ?_⟩
  rw [Nat.zero_add, World.cell?_alloc_new]
  simp [intV, iAt, hi]
def pickK : List Int := [-1, 0, 8, 3]
def pickC : List Int := [0, 9, 10]
def pickNo : List Int := [0, 1000, 1001]
def pickV : List Int := [-1, 9, 10]
def pickX : List ByteArray := [⟨#[]⟩, ⟨#[65]⟩, ⟨#[97, 98, 99, 100, 101, 102, 103, 104]⟩, ⟨#[97, 98, 99, 100, 101, 102, 103, 104, 105]⟩]
theorem pickX_le (i : Nat) : (sAt pickX i).size ≤ 9 := sAt_le (by decide) i
attribute [local irreducible] RowX
set_option maxRecDepth 8000 in
set_option maxHeartbeats 4000000 in
theorem l4Cmd_any (g : Nat) (w : World) (h : Cur w g) :
    Calls Try.prog 153 #[.pointer (some ⟨g, 0, none⟩)] w (CmDraw w g 4) := by
  have hlt := h.lt
  have al := (Below.refl w.heap.size w).alloc (Nat.le_refl _) (.cells #[.int .i64 0, .int .i64 0, .int .i64 0, .string ⟨#[]⟩, .string ⟨#[]⟩, .string ⟨#[]⟩, .int .i64 0, .slice none 0 0] 47)
  go_enter Try.func153, Try.ntmps153
  go_wp2_with fail
  obtain ⟨W0, hW0⟩ : ∃ W, W = w.alloc (.cells #[.int .i64 0, .int .i64 0, .int .i64 0, .string ⟨#[]⟩, .string ⟨#[]⟩, .string ⟨#[]⟩, .int .i64 0, .slice none 0 0] 47) := ⟨_, rfl⟩
  have R0 : BoxL W0 w.heap.size [.int .i64 0, .int .i64 0, .int .i64 0, .string ⟨#[]⟩, .string ⟨#[]⟩, .string ⟨#[]⟩, .int .i64 0, .slice none 0 0] := by rw [hW0]; exact BoxL.new w _ _
  rw [← hW0] at al ⊢
  have D0 : Ch (fun k => k = g) w W0 := Ch.of_below al
  have hc0 := h.keep al
  clear al hW0 h
  refine (l1Once_any g _ _ hc0 (by omega)).mono ?_
  rintro e w1 ⟨b, rfl, hc, hch⟩
  have R := R0.ch hch (by omega)
  have D := D0.trans hch
  clear R0 D0 hc0 hch
  cases b
  · go_wp2_with fail
    have hz1 := R.lt
    refine (l4Right_any g _ hc).mono ?_
    rintro e w2 ⟨⟨kd, cl, no, st, nm, tg, nn, ch⟩, A, n, c, rfl, ⟨m1, m2, m3, m4, m5⟩, row, hc2, hch⟩
    simp only at m1 m2 m3 m4 m5 row
    have hn : ch.length = n := by have := row.row.len; simpa using this
    have hn3 : n ≤ 3 := by omega
    have hlo := hch.size
    have R2 := R.ch hch (by omega)
    have D2 := D.trans hch
    have X2 := RowX.of_in row hlo (Nat.le_refl _)
    obtain ⟨lo, hlo'⟩ : ∃ lo, w1.heap.size = lo := ⟨_, rfl⟩
    rw [hlo'] at X2 hlo hz1
    clear R hc D row hch hlo'
    unfold cmV
    go_wp2_with fail
    obtain ⟨W, hW⟩ : ∃ W, W = w2.alloc (.cells #[.int .i64 kd, .int .i64 cl, .int .i64 no, .string st, .string nm, .string tg, .int .i64 nn, .slice A n c] 47) := ⟨_, rfl⟩
    have C3 : BoxL W w2.heap.size [.int .i64 kd, .int .i64 cl, .int .i64 no, .string st, .string nm, .string tg, .int .i64 nn, .slice A n c] := by rw [hW]; exact BoxL.new w2 _ _
    have al : Below w2.heap.size w2 W := by rw [hW]; exact (Below.refl _ _).alloc (Nat.le_refl _) _
    rw [← hW]
    have hc3 := hc2.keep al
    have R3 := R2.keep al
    have D3 := D2.trans (Ch.of_below al)
    have X3 := X2.keep al
    obtain ⟨h, hh⟩ : ∃ h, w2.heap.size = h := ⟨_, rfl⟩
    rw [hh] at C3 hlo X3 ⊢
    have hrh : w.heap.size < h := by omega
    clear al hW hc2 R2 D2 X2 hh
    refine (l1Once_any g _ _ hc3 (by omega)).mono ?_
    rintro e w4 ⟨b, rfl, hc, hch⟩
    have R := R3.ch hch (by omega)
    have C := C3.ch hch (by omega)
    have X := X3.ch hch (by omega)
    have D := D3.trans hch
    clear hc3 R3 C3 X3 D3 hch
    cases b
    · skip
      go_upto_region 17 with fail
      have hRt := R.there (n := 8) rfl
      have hCr := C.range
      obtain ⟨WF, hWF⟩ : ∃ W, W = w4.setCells w.heap.size 0 (#[.int .i64 kd, .int .i64 cl, .int .i64 no, .string st, .string nm, .string tg, .int .i64 nn, .slice A n c] : Array Value).toList := ⟨_, rfl⟩
      have cF : Ch (fun b => b = w.heap.size) w4 WF := by rw [hWF]; exact ch_setCells _ _ _
      have RF : BoxL WF w.heap.size [.int .i64 kd, .int .i64 cl, .int .i64 no, .string st, .string nm, .string tg, .int .i64 nn, .slice A n c] := by rw [hWF]; exact R.setCells rfl
      have hOne : (#[.int .i64 kd, .int .i64 cl, .int .i64 no, .string st, .string nm, .string tg, .int .i64 nn, .slice A n c] : Array Value).all (·.oneCell') = true := all_oneCell_toArray (cs := [.int .i64 kd, .int .i64 cl, .int .i64 no, .string st, .string nm, .string tg, .int .i64 nn, .slice A n c]) (by simp [Value.oneCell'])
      have hWr := RF.range
      have hbF : Below w.heap.size w4 WF := cF.below (fun k hk => by have hk : k = _ := hk; omega) (by have := R.lt; omega)
      have XF := (X.ch cF (fun b hb hh e => by have e : b = _ := e; omega)).fin (show w.heap.size ≤ lo by omega)
      clear X
      have hcF := hc.below hbF hlt
      have hDF := D.thenB hbF
      have HWF := Lib.hid hWF; clear hWF cF RF R C hc D hbF
      repeat (first | ((with_reducible refine wpList_store_mid ?_ 47 (.tmp 2) (.tmp 50) ?_ w.heap.size 0 #[.int .i64 kd, .int .i64 cl, .int .i64 no, .string st, .string nm, .string tg, .int .i64 nn, .slice A n c] ?_ ?_ ?_ ?_ hOne ?_); all_goals (first | rw [← HWF.out] | exact hRt | exact sizeCmdD | rfl)) | ((with_reducible refine loadCmdD ?_ (.tmp 3) ?_ h ?_ [.int .i64 kd, .int .i64 cl, .int .i64 no, .string st, .string nm, .string tg, .int .i64 nn, .slice A n c] ?_ hCr ?_); (rfl); (rfl); (rfl); (rfl)) | go_values | go_skip | go_guarded | go_step | go_upon | (simp only []; go_at_K))
      try simp only [Exit.inBlock, Exit.then, Act.put, List.setIfInBounds_toArray, List.set_cons_succ, List.set_cons_zero]
      refine bodyPost_ret (results_cellD Try.results153 rfl hWr Try.underlying47 rfl sizeCmdD) rfl ?_
      exact ⟨⟨kd, cl, no, st, nm, tg, nn, ch⟩, A, n, c, rfl, ⟨m1, m2, m3, by simp only; omega, m5⟩, XF, hcF, hDF⟩
    · go_wp2_with fail
      refine (l1Below_any g _ _ hc (by omega)).mono ?_
      rintro e w5 ⟨x, rfl, p0, p1, -, hc5, hch⟩
      obtain ⟨m, rfl⟩ := Int.eq_ofNat_of_zero_le p0
      have hm : m < 6 := by have := p1 (by omega); omega
      have R5 := R.ch hch (by omega)
      have C5 := C.ch hch (by omega)
      have X5 := X.ch hch (by omega)
      have D5 := D.trans hch
      clear R C X D hc hch p0 p1
      have hlg := hc5.lt
      rcases (show m = 0 ∨ m = 1 ∨ m = 2 ∨ m = 3 ∨ m = 4 ∨ m = 5 by omega) with rfl | rfl | rfl | rfl | rfl | rfl
      · go_wp2_with fail
        have al := (Below.refl w5.heap.size w5).alloc (Nat.le_refl _) (.cells (pickK.map (Value.int .i64)).toArray 3)
        refine (l1PickInt_any g _ 4 _ (iAt pickK) _ (hc5.keep al) (vals_new _ _ pickK) (by omega) (by omega) (blk_ne hlg)).mono ?_
        rintro e w6 ⟨i, hi, rfl, hc', hch⟩
        generalize iAt pickK i = sx at *
        have R' := (R5.keep al).ch hch (by omega)
        have C' := (C5.keep al).ch hch (by omega)
        have X' := (X5.keep al).ch hch (by omega)
        have D' := (D5.trans (Ch.of_below al)).trans hch
        clear R5 C5 X5 D5 hc5 hch al hi hlg
        have cj := C'.cell 0 _ rfl
        have fj := C'.fz 0 (by simp)
        go_upto_region 17 with fail
        have X := X'.ch (Ch.set (w := w6) (g := h) (o := 0) (v := .int .i64 sx)) (fun b hb hh e => hh e)
        clear X'
        have hs := Ch.set (w := w6) (g := h) (o := 0) (v := .int .i64 sx)
        have hb : Below w.heap.size w6 (w6.setCell ⟨h, 0, none⟩ (.int .i64 sx)) := (Below.refl _ _).setCell (Nat.le_of_lt hrh) _
        have C2 := C'.set (j := 0) (v := .int .i64 sx) (by simp)
        have R2 := R'.ch hs (by omega)
        have hc2 := hc'.below hb hlt
        have D2 := D'.thenB hb
        clear C' R' hc' D' hs hb cj fj
        simp only [List.set_cons_succ, List.set_cons_zero] at C2
        obtain ⟨W6, hW⟩ : ∃ W, W = w6.setCell ⟨h, 0, none⟩ (.int .i64 sx) := ⟨_, rfl⟩
        rw [← hW] at C2 R2 hc2 D2 X ⊢
        clear hW
        have C := C2; have R := R2; have hc := hc2; have D := D2; clear C2 R2 hc2 D2
        go_upto_region 17 with fail
        have hRt := R.there (n := 8) rfl
        have hCr := C.range
        obtain ⟨WF, hWF⟩ : ∃ W, W = W6.setCells w.heap.size 0 (#[.int .i64 sx, .int .i64 cl, .int .i64 no, .string st, .string nm, .string tg, .int .i64 nn, .slice A n c] : Array Value).toList := ⟨_, rfl⟩
        have cF : Ch (fun b => b = w.heap.size) W6 WF := by rw [hWF]; exact ch_setCells _ _ _
        have RF : BoxL WF w.heap.size [.int .i64 sx, .int .i64 cl, .int .i64 no, .string st, .string nm, .string tg, .int .i64 nn, .slice A n c] := by rw [hWF]; exact R.setCells rfl
        have hOne : (#[.int .i64 sx, .int .i64 cl, .int .i64 no, .string st, .string nm, .string tg, .int .i64 nn, .slice A n c] : Array Value).all (·.oneCell') = true := all_oneCell_toArray (cs := [.int .i64 sx, .int .i64 cl, .int .i64 no, .string st, .string nm, .string tg, .int .i64 nn, .slice A n c]) (by simp [Value.oneCell'])
        have hWr := RF.range
        have hbF : Below w.heap.size W6 WF := cF.below (fun k hk => by have hk : k = _ := hk; omega) (by have := R.lt; omega)
        have XF := (X.ch cF (fun b hb hh e => by have e : b = _ := e; omega)).fin (show w.heap.size ≤ lo by omega)
        clear X
        have hcF := hc.below hbF hlt
        have hDF := D.thenB hbF
        have HWF := Lib.hid hWF; clear hWF cF RF R C hc D hbF
        repeat (first | ((with_reducible refine wpList_store_mid ?_ 47 (.tmp 2) (.tmp 50) ?_ w.heap.size 0 #[.int .i64 sx, .int .i64 cl, .int .i64 no, .string st, .string nm, .string tg, .int .i64 nn, .slice A n c] ?_ ?_ ?_ ?_ hOne ?_); all_goals (first | rw [← HWF.out] | exact hRt | exact sizeCmdD | rfl)) | ((with_reducible refine loadCmdD ?_ (.tmp 3) ?_ h ?_ [.int .i64 sx, .int .i64 cl, .int .i64 no, .string st, .string nm, .string tg, .int .i64 nn, .slice A n c] ?_ hCr ?_); (rfl); (rfl); (rfl); (rfl)) | go_values | go_skip | go_guarded | go_step | go_upon | (simp only []; go_at_K))
        try simp only [Exit.inBlock, Exit.then, Act.put, List.setIfInBounds_toArray, List.set_cons_succ, List.set_cons_zero]
        refine bodyPost_ret (results_cellD Try.results153 rfl hWr Try.underlying47 rfl sizeCmdD) rfl ?_
        exact ⟨⟨sx, cl, no, st, nm, tg, nn, ch⟩, A, n, c, rfl, ⟨m1, m2, m3, by simp only; omega, m5⟩, XF, hcF, hDF⟩
      · go_wp2_with fail
        have al := (Below.refl w5.heap.size w5).alloc (Nat.le_refl _) (.cells (pickC.map (Value.int .i64)).toArray 3)
        refine (l1PickInt_any g _ 3 _ (iAt pickC) _ (hc5.keep al) (vals_new _ _ pickC) (by omega) (by omega) (blk_ne hlg)).mono ?_
        rintro e w6 ⟨i, hi, rfl, hc', hch⟩
        generalize iAt pickC i = sx at *
        have R' := (R5.keep al).ch hch (by omega)
        have C' := (C5.keep al).ch hch (by omega)
        have X' := (X5.keep al).ch hch (by omega)
        have D' := (D5.trans (Ch.of_below al)).trans hch
        clear R5 C5 X5 D5 hc5 hch al hi hlg
        have cj := C'.cell 1 _ rfl
        have fj := C'.fz 1 (by simp)
        go_upto_region 17 with fail
        have X := X'.ch (Ch.set (w := w6) (g := h) (o := 1) (v := .int .i64 sx)) (fun b hb hh e => hh e)
        clear X'
        have hs := Ch.set (w := w6) (g := h) (o := 1) (v := .int .i64 sx)
        have hb : Below w.heap.size w6 (w6.setCell ⟨h, 1, none⟩ (.int .i64 sx)) := (Below.refl _ _).setCell (Nat.le_of_lt hrh) _
        have C2 := C'.set (j := 1) (v := .int .i64 sx) (by simp)
        have R2 := R'.ch hs (by omega)
        have hc2 := hc'.below hb hlt
        have D2 := D'.thenB hb
        clear C' R' hc' D' hs hb cj fj
        simp only [List.set_cons_succ, List.set_cons_zero] at C2
        obtain ⟨W6, hW⟩ : ∃ W, W = w6.setCell ⟨h, 1, none⟩ (.int .i64 sx) := ⟨_, rfl⟩
        rw [← hW] at C2 R2 hc2 D2 X ⊢
        clear hW
        have C := C2; have R := R2; have hc := hc2; have D := D2; clear C2 R2 hc2 D2
        go_upto_region 17 with fail
        have hRt := R.there (n := 8) rfl
        have hCr := C.range
        obtain ⟨WF, hWF⟩ : ∃ W, W = W6.setCells w.heap.size 0 (#[.int .i64 kd, .int .i64 sx, .int .i64 no, .string st, .string nm, .string tg, .int .i64 nn, .slice A n c] : Array Value).toList := ⟨_, rfl⟩
        have cF : Ch (fun b => b = w.heap.size) W6 WF := by rw [hWF]; exact ch_setCells _ _ _
        have RF : BoxL WF w.heap.size [.int .i64 kd, .int .i64 sx, .int .i64 no, .string st, .string nm, .string tg, .int .i64 nn, .slice A n c] := by rw [hWF]; exact R.setCells rfl
        have hOne : (#[.int .i64 kd, .int .i64 sx, .int .i64 no, .string st, .string nm, .string tg, .int .i64 nn, .slice A n c] : Array Value).all (·.oneCell') = true := all_oneCell_toArray (cs := [.int .i64 kd, .int .i64 sx, .int .i64 no, .string st, .string nm, .string tg, .int .i64 nn, .slice A n c]) (by simp [Value.oneCell'])
        have hWr := RF.range
        have hbF : Below w.heap.size W6 WF := cF.below (fun k hk => by have hk : k = _ := hk; omega) (by have := R.lt; omega)
        have XF := (X.ch cF (fun b hb hh e => by have e : b = _ := e; omega)).fin (show w.heap.size ≤ lo by omega)
        clear X
        have hcF := hc.below hbF hlt
        have hDF := D.thenB hbF
        have HWF := Lib.hid hWF; clear hWF cF RF R C hc D hbF
        repeat (first | ((with_reducible refine wpList_store_mid ?_ 47 (.tmp 2) (.tmp 50) ?_ w.heap.size 0 #[.int .i64 kd, .int .i64 sx, .int .i64 no, .string st, .string nm, .string tg, .int .i64 nn, .slice A n c] ?_ ?_ ?_ ?_ hOne ?_); all_goals (first | rw [← HWF.out] | exact hRt | exact sizeCmdD | rfl)) | ((with_reducible refine loadCmdD ?_ (.tmp 3) ?_ h ?_ [.int .i64 kd, .int .i64 sx, .int .i64 no, .string st, .string nm, .string tg, .int .i64 nn, .slice A n c] ?_ hCr ?_); (rfl); (rfl); (rfl); (rfl)) | go_values | go_skip | go_guarded | go_step | go_upon | (simp only []; go_at_K))
        try simp only [Exit.inBlock, Exit.then, Act.put, List.setIfInBounds_toArray, List.set_cons_succ, List.set_cons_zero]
        refine bodyPost_ret (results_cellD Try.results153 rfl hWr Try.underlying47 rfl sizeCmdD) rfl ?_
        exact ⟨⟨kd, sx, no, st, nm, tg, nn, ch⟩, A, n, c, rfl, ⟨m1, m2, m3, by simp only; omega, m5⟩, XF, hcF, hDF⟩
      · go_wp2_with fail
        have al := (Below.refl w5.heap.size w5).alloc (Nat.le_refl _) (.cells (pickNo.map (Value.int .i64)).toArray 3)
        refine (l1PickInt_any g _ 3 _ (iAt pickNo) _ (hc5.keep al) (vals_new _ _ pickNo) (by omega) (by omega) (blk_ne hlg)).mono ?_
        rintro e w6 ⟨i, hi, rfl, hc', hch⟩
        generalize iAt pickNo i = sx at *
        have R' := (R5.keep al).ch hch (by omega)
        have C' := (C5.keep al).ch hch (by omega)
        have X' := (X5.keep al).ch hch (by omega)
        have D' := (D5.trans (Ch.of_below al)).trans hch
        clear R5 C5 X5 D5 hc5 hch al hi hlg
        have cj := C'.cell 2 _ rfl
        have fj := C'.fz 2 (by simp)
        go_upto_region 17 with fail
        have X := X'.ch (Ch.set (w := w6) (g := h) (o := 2) (v := .int .i64 sx)) (fun b hb hh e => hh e)
        clear X'
        have hs := Ch.set (w := w6) (g := h) (o := 2) (v := .int .i64 sx)
        have hb : Below w.heap.size w6 (w6.setCell ⟨h, 2, none⟩ (.int .i64 sx)) := (Below.refl _ _).setCell (Nat.le_of_lt hrh) _
        have C2 := C'.set (j := 2) (v := .int .i64 sx) (by simp)
        have R2 := R'.ch hs (by omega)
        have hc2 := hc'.below hb hlt
        have D2 := D'.thenB hb
        clear C' R' hc' D' hs hb cj fj
        simp only [List.set_cons_succ, List.set_cons_zero] at C2
        obtain ⟨W6, hW⟩ : ∃ W, W = w6.setCell ⟨h, 2, none⟩ (.int .i64 sx) := ⟨_, rfl⟩
        rw [← hW] at C2 R2 hc2 D2 X ⊢
        clear hW
        have C := C2; have R := R2; have hc := hc2; have D := D2; clear C2 R2 hc2 D2
        go_upto_region 17 with fail
        have hRt := R.there (n := 8) rfl
        have hCr := C.range
        obtain ⟨WF, hWF⟩ : ∃ W, W = W6.setCells w.heap.size 0 (#[.int .i64 kd, .int .i64 cl, .int .i64 sx, .string st, .string nm, .string tg, .int .i64 nn, .slice A n c] : Array Value).toList := ⟨_, rfl⟩
        have cF : Ch (fun b => b = w.heap.size) W6 WF := by rw [hWF]; exact ch_setCells _ _ _
        have RF : BoxL WF w.heap.size [.int .i64 kd, .int .i64 cl, .int .i64 sx, .string st, .string nm, .string tg, .int .i64 nn, .slice A n c] := by rw [hWF]; exact R.setCells rfl
        have hOne : (#[.int .i64 kd, .int .i64 cl, .int .i64 sx, .string st, .string nm, .string tg, .int .i64 nn, .slice A n c] : Array Value).all (·.oneCell') = true := all_oneCell_toArray (cs := [.int .i64 kd, .int .i64 cl, .int .i64 sx, .string st, .string nm, .string tg, .int .i64 nn, .slice A n c]) (by simp [Value.oneCell'])
        have hWr := RF.range
        have hbF : Below w.heap.size W6 WF := cF.below (fun k hk => by have hk : k = _ := hk; omega) (by have := R.lt; omega)
        have XF := (X.ch cF (fun b hb hh e => by have e : b = _ := e; omega)).fin (show w.heap.size ≤ lo by omega)
        clear X
        have hcF := hc.below hbF hlt
        have hDF := D.thenB hbF
        have HWF := Lib.hid hWF; clear hWF cF RF R C hc D hbF
        repeat (first | ((with_reducible refine wpList_store_mid ?_ 47 (.tmp 2) (.tmp 50) ?_ w.heap.size 0 #[.int .i64 kd, .int .i64 cl, .int .i64 sx, .string st, .string nm, .string tg, .int .i64 nn, .slice A n c] ?_ ?_ ?_ ?_ hOne ?_); all_goals (first | rw [← HWF.out] | exact hRt | exact sizeCmdD | rfl)) | ((with_reducible refine loadCmdD ?_ (.tmp 3) ?_ h ?_ [.int .i64 kd, .int .i64 cl, .int .i64 sx, .string st, .string nm, .string tg, .int .i64 nn, .slice A n c] ?_ hCr ?_); (rfl); (rfl); (rfl); (rfl)) | go_values | go_skip | go_guarded | go_step | go_upon | (simp only []; go_at_K))
        try simp only [Exit.inBlock, Exit.then, Act.put, List.setIfInBounds_toArray, List.set_cons_succ, List.set_cons_zero]
        refine bodyPost_ret (results_cellD Try.results153 rfl hWr Try.underlying47 rfl sizeCmdD) rfl ?_
        exact ⟨⟨kd, cl, sx, st, nm, tg, nn, ch⟩, A, n, c, rfl, ⟨m1, m2, m3, by simp only; omega, m5⟩, XF, hcF, hDF⟩
      · go_wp2_with fail
        have al := (Below.refl w5.heap.size w5).alloc (Nat.le_refl _) (.cells (pickX.map Value.string).toArray 9)
        refine (l1Pick_any g _ 4 _ pickX _ (hc5.keep al) (strs_new _ _ pickX) (by omega) (by omega) (blk_ne hlg)).mono ?_
        rintro e w6 ⟨i, hi, rfl, hc', hch⟩
        have ms := pickX_le i
        generalize sAt pickX i = sx at *
        have R' := (R5.keep al).ch hch (by omega)
        have C' := (C5.keep al).ch hch (by omega)
        have X' := (X5.keep al).ch hch (by omega)
        have D' := (D5.trans (Ch.of_below al)).trans hch
        clear R5 C5 X5 D5 hc5 hch al hi hlg
        have cj := C'.cell 3 _ rfl
        have fj := C'.fz 3 (by simp)
        go_upto_region 17 with fail
        have X := X'.ch (Ch.set (w := w6) (g := h) (o := 3) (v := .string sx)) (fun b hb hh e => hh e)
        clear X'
        have hs := Ch.set (w := w6) (g := h) (o := 3) (v := .string sx)
        have hb : Below w.heap.size w6 (w6.setCell ⟨h, 3, none⟩ (.string sx)) := (Below.refl _ _).setCell (Nat.le_of_lt hrh) _
        have C2 := C'.set (j := 3) (v := .string sx) (by simp)
        have R2 := R'.ch hs (by omega)
        have hc2 := hc'.below hb hlt
        have D2 := D'.thenB hb
        clear C' R' hc' D' hs hb cj fj
        simp only [List.set_cons_succ, List.set_cons_zero] at C2
        obtain ⟨W6, hW⟩ : ∃ W, W = w6.setCell ⟨h, 3, none⟩ (.string sx) := ⟨_, rfl⟩
        rw [← hW] at C2 R2 hc2 D2 X ⊢
        clear hW
        have C := C2; have R := R2; have hc := hc2; have D := D2; clear C2 R2 hc2 D2
        go_upto_region 17 with fail
        have hRt := R.there (n := 8) rfl
        have hCr := C.range
        obtain ⟨WF, hWF⟩ : ∃ W, W = W6.setCells w.heap.size 0 (#[.int .i64 kd, .int .i64 cl, .int .i64 no, .string sx, .string nm, .string tg, .int .i64 nn, .slice A n c] : Array Value).toList := ⟨_, rfl⟩
        have cF : Ch (fun b => b = w.heap.size) W6 WF := by rw [hWF]; exact ch_setCells _ _ _
        have RF : BoxL WF w.heap.size [.int .i64 kd, .int .i64 cl, .int .i64 no, .string sx, .string nm, .string tg, .int .i64 nn, .slice A n c] := by rw [hWF]; exact R.setCells rfl
        have hOne : (#[.int .i64 kd, .int .i64 cl, .int .i64 no, .string sx, .string nm, .string tg, .int .i64 nn, .slice A n c] : Array Value).all (·.oneCell') = true := all_oneCell_toArray (cs := [.int .i64 kd, .int .i64 cl, .int .i64 no, .string sx, .string nm, .string tg, .int .i64 nn, .slice A n c]) (by simp [Value.oneCell'])
        have hWr := RF.range
        have hbF : Below w.heap.size W6 WF := cF.below (fun k hk => by have hk : k = _ := hk; omega) (by have := R.lt; omega)
        have XF := (X.ch cF (fun b hb hh e => by have e : b = _ := e; omega)).fin (show w.heap.size ≤ lo by omega)
        clear X
        have hcF := hc.below hbF hlt
        have hDF := D.thenB hbF
        have HWF := Lib.hid hWF; clear hWF cF RF R C hc D hbF
        repeat (first | ((with_reducible refine wpList_store_mid ?_ 47 (.tmp 2) (.tmp 50) ?_ w.heap.size 0 #[.int .i64 kd, .int .i64 cl, .int .i64 no, .string sx, .string nm, .string tg, .int .i64 nn, .slice A n c] ?_ ?_ ?_ ?_ hOne ?_); all_goals (first | rw [← HWF.out] | exact hRt | exact sizeCmdD | rfl)) | ((with_reducible refine loadCmdD ?_ (.tmp 3) ?_ h ?_ [.int .i64 kd, .int .i64 cl, .int .i64 no, .string sx, .string nm, .string tg, .int .i64 nn, .slice A n c] ?_ hCr ?_); (rfl); (rfl); (rfl); (rfl)) | go_values | go_skip | go_guarded | go_step | go_upon | (simp only []; go_at_K))
        try simp only [Exit.inBlock, Exit.then, Act.put, List.setIfInBounds_toArray, List.set_cons_succ, List.set_cons_zero]
        refine bodyPost_ret (results_cellD Try.results153 rfl hWr Try.underlying47 rfl sizeCmdD) rfl ?_
        exact ⟨⟨kd, cl, no, sx, nm, tg, nn, ch⟩, A, n, c, rfl, ⟨ms, m2, m3, by simp only; omega, m5⟩, XF, hcF, hDF⟩
      · go_wp2_with fail
        have al := (Below.refl w5.heap.size w5).alloc (Nat.le_refl _) (.cells (pickV.map (Value.int .i64)).toArray 3)
        refine (l1PickInt_any g _ 3 _ (iAt pickV) _ (hc5.keep al) (vals_new _ _ pickV) (by omega) (by omega) (blk_ne hlg)).mono ?_
        rintro e w6 ⟨i, hi, rfl, hc', hch⟩
        generalize iAt pickV i = sx at *
        have R' := (R5.keep al).ch hch (by omega)
        have C' := (C5.keep al).ch hch (by omega)
        have X' := (X5.keep al).ch hch (by omega)
        have D' := (D5.trans (Ch.of_below al)).trans hch
        clear R5 C5 X5 D5 hc5 hch al hi hlg
        have cj := C'.cell 6 _ rfl
        have fj := C'.fz 6 (by simp)
        go_upto_region 17 with fail
        have X := X'.ch (Ch.set (w := w6) (g := h) (o := 6) (v := .int .i64 sx)) (fun b hb hh e => hh e)
        clear X'
        have hs := Ch.set (w := w6) (g := h) (o := 6) (v := .int .i64 sx)
        have hb : Below w.heap.size w6 (w6.setCell ⟨h, 6, none⟩ (.int .i64 sx)) := (Below.refl _ _).setCell (Nat.le_of_lt hrh) _
        have C2 := C'.set (j := 6) (v := .int .i64 sx) (by simp)
        have R2 := R'.ch hs (by omega)
        have hc2 := hc'.below hb hlt
        have D2 := D'.thenB hb
        clear C' R' hc' D' hs hb cj fj
        simp only [List.set_cons_succ, List.set_cons_zero] at C2
        obtain ⟨W6, hW⟩ : ∃ W, W = w6.setCell ⟨h, 6, none⟩ (.int .i64 sx) := ⟨_, rfl⟩
        rw [← hW] at C2 R2 hc2 D2 X ⊢
        clear hW
        have C := C2; have R := R2; have hc := hc2; have D := D2; clear C2 R2 hc2 D2
        go_upto_region 17 with fail
        have hRt := R.there (n := 8) rfl
        have hCr := C.range
        obtain ⟨WF, hWF⟩ : ∃ W, W = W6.setCells w.heap.size 0 (#[.int .i64 kd, .int .i64 cl, .int .i64 no, .string st, .string nm, .string tg, .int .i64 sx, .slice A n c] : Array Value).toList := ⟨_, rfl⟩
        have cF : Ch (fun b => b = w.heap.size) W6 WF := by rw [hWF]; exact ch_setCells _ _ _
        have RF : BoxL WF w.heap.size [.int .i64 kd, .int .i64 cl, .int .i64 no, .string st, .string nm, .string tg, .int .i64 sx, .slice A n c] := by rw [hWF]; exact R.setCells rfl
        have hOne : (#[.int .i64 kd, .int .i64 cl, .int .i64 no, .string st, .string nm, .string tg, .int .i64 sx, .slice A n c] : Array Value).all (·.oneCell') = true := all_oneCell_toArray (cs := [.int .i64 kd, .int .i64 cl, .int .i64 no, .string st, .string nm, .string tg, .int .i64 sx, .slice A n c]) (by simp [Value.oneCell'])
        have hWr := RF.range
        have hbF : Below w.heap.size W6 WF := cF.below (fun k hk => by have hk : k = _ := hk; omega) (by have := R.lt; omega)
        have XF := (X.ch cF (fun b hb hh e => by have e : b = _ := e; omega)).fin (show w.heap.size ≤ lo by omega)
        clear X
        have hcF := hc.below hbF hlt
        have hDF := D.thenB hbF
        have HWF := Lib.hid hWF; clear hWF cF RF R C hc D hbF
        repeat (first | ((with_reducible refine wpList_store_mid ?_ 47 (.tmp 2) (.tmp 50) ?_ w.heap.size 0 #[.int .i64 kd, .int .i64 cl, .int .i64 no, .string st, .string nm, .string tg, .int .i64 sx, .slice A n c] ?_ ?_ ?_ ?_ hOne ?_); all_goals (first | rw [← HWF.out] | exact hRt | exact sizeCmdD | rfl)) | ((with_reducible refine loadCmdD ?_ (.tmp 3) ?_ h ?_ [.int .i64 kd, .int .i64 cl, .int .i64 no, .string st, .string nm, .string tg, .int .i64 sx, .slice A n c] ?_ hCr ?_); (rfl); (rfl); (rfl); (rfl)) | go_values | go_skip | go_guarded | go_step | go_upon | (simp only []; go_at_K))
        try simp only [Exit.inBlock, Exit.then, Act.put, List.setIfInBounds_toArray, List.set_cons_succ, List.set_cons_zero]
        refine bodyPost_ret (results_cellD Try.results153 rfl hWr Try.underlying47 rfl sizeCmdD) rfl ?_
        exact ⟨⟨kd, cl, no, st, nm, tg, sx, ch⟩, A, n, c, rfl, ⟨m1, m2, m3, by simp only; omega, m5⟩, XF, hcF, hDF⟩
      · go_wp2
        refine wp_region_dagb [13, 14, 15, 16, 17, 18, 19] (by kernel_rfl) (by kernel_rfl) (fun D vs w' => ∃ v13 v14 v15 v16 v17 v18 v19 : Value, vs = [v13, v14, v15, v16, v17, v18, v19] ∧ Cur w' g ∧ Ch (fun k => k = g) w w' ∧ h < w'.heap.size ∧ BoxL w' w.heap.size [.int .i64 0, .int .i64 0, .int .i64 0, .string ⟨#[]⟩, .string ⟨#[]⟩, .string ⟨#[]⟩, .int .i64 0, .slice none 0 0] ∧ (D 7 = false → BoxL w' h [.int .i64 kd, .int .i64 cl, .int .i64 no, .string st, .string nm, .string tg, .int .i64 nn, .slice A n c]) ∧ (D 5 = false → RowX lo h w' A n c ch) ∧ (D 0 = true → v13 = .pointer (some ⟨h, 7, none⟩)) ∧ (D 1 = true → v14 = .slice A n c) ∧ (D 2 = true → v15 = .pointer (some ⟨g, 0, none⟩)) ∧ (D 3 = true → ∃ s : ByteArray, v16 = .string s ∧ s.size ≤ 9) ∧ (D 4 = true → ∃ (gb : Nat) (s : ByteArray), v17 = .slice (some ⟨gb, 0, none⟩) 1 1 ∧ s.size ≤ 9 ∧ (D 5 = false → CellsAt w' (some ⟨gb, 0, none⟩) 1 1 [.string s])) ∧ (D 5 = true → ∃ (A' : Option Addr) (c' : Nat) (s : ByteArray), v18 = .slice A' (n + 1) c' ∧ s.size ≤ 9 ∧ RowX lo h w' A' (n + 1) c' (ch ++ [s])) ∧ (D 6 = true → v19 = .pointer (some ⟨h, 7, none⟩)) ∧ (D 7 = true → ∃ (A' : Option Addr) (c' : Nat) (s : ByteArray), s.size ≤ 9 ∧ BoxL w' h [.int .i64 kd, .int .i64 cl, .int .i64 no, .string st, .string nm, .string tg, .int .i64 nn, .slice A' (n + 1) c'] ∧ RowX lo h w' A' (n + 1) c' (ch ++ [s])))
          ⟨_, _, _, _, _, _, _, rfl, hc5.keep (Below.refl _ _).drew, D5.thenB (Below.refl _ _).drew, C5.lt, (R5.keep (Below.refl _ _).drew), (fun _ => C5.keep (Below.refl _ _).drew), (fun _ => X5.keep (Below.refl _ _).drew), (fun h => by cases h), (fun h => by cases h), (fun h => by cases h), (fun h => by cases h), (fun h => by cases h), (fun h => by cases h), (fun h => by cases h), (fun h => by cases h)⟩ ?_ ?_
        · intro i D vs w' hi hD hdep hcl hI
          have hi' : i < 8 := hi
          obtain ⟨v13, v14, v15, v16, v17, v18, v19, rfl, hc, hch, hhw, q0, hb, hr, k0, k1, k2, k3, k4, k5, k6, k7⟩ := hI
          simp only [putAll, List.setIfInBounds_toArray, List.set_cons_succ, List.set_cons_zero]
          rcases (show i = 0 ∨ i = 1 ∨ i = 2 ∨ i = 3 ∨ i = 4 ∨ i = 5 ∨ i = 6 ∨ i = 7 by omega) with rfl | rfl | rfl | rfl | rfl | rfl | rfl | rfl
          · refine wpOp_step (by simp only [List.getElem?_toArray, List.getElem?_cons_zero]; rfl) (fun K hK => ?_)
            go_simp
            refine hK _ _ ⟨[.pointer (some ⟨h, 7, none⟩), v14, v15, v16, v17, v18, v19], ?_, _, _, _, _, _, _, _, rfl, hc, hch, hhw, q0, hb, hr, (fun _ => rfl), k1, k2, k3, k4, k5, k6, k7⟩
            simp only [putAll, List.setIfInBounds_toArray, List.set_cons_succ, List.set_cons_zero]
          · have e0 := k0 (hdep 0 (by kernel_rfl))
            subst e0
            have n7 : D 7 = false := Bool.eq_false_iff.2 (fun h => absurd (hcl 5 1 (hcl 7 5 h (by kernel_rfl)) (by kernel_rfl)) (by rw [hD]; simp))
            have hB := hb n7
            have b1 := hB.cell 7 _ rfl
            refine wpOp_step (by simp only [List.getElem?_toArray, List.getElem?_cons_succ, List.getElem?_cons_zero]; rfl) (fun K hK => ?_)
            go_simp
            refine hK _ _ ⟨[.pointer (some ⟨h, 7, none⟩), .slice A n c, v15, v16, v17, v18, v19], ?_, _, _, _, _, _, _, _, rfl, hc, hch, hhw, q0, hb, hr, (fun _ => rfl), (fun _ => rfl), k2, k3, k4, k5, k6, k7⟩
            simp only [putAll, List.setIfInBounds_toArray, List.set_cons_succ, List.set_cons_zero]
          · refine wpOp_step (by simp only [List.getElem?_toArray, List.getElem?_cons_succ, List.getElem?_cons_zero]; rfl) (fun K hK => ?_)
            go_simp
            refine hK _ _ ⟨[v13, v14, .pointer (some ⟨g, 0, none⟩), v16, v17, v18, v19], ?_, _, _, _, _, _, _, _, rfl, hc, hch, hhw, q0, hb, hr, k0, k1, (fun _ => rfl), k3, k4, k5, k6, k7⟩
            simp only [putAll, List.setIfInBounds_toArray, List.set_cons_succ, List.set_cons_zero]
          · have e2 := k2 (hdep 2 (by kernel_rfl))
            subst e2
            have n4 : D 4 = false := Bool.eq_false_iff.2 (fun h => absurd (hcl 4 3 h (by kernel_rfl)) (by rw [hD]; simp))
            have n5 : D 5 = false := Bool.eq_false_iff.2 (fun h => absurd (hcl 4 3 (hcl 5 4 h (by kernel_rfl)) (by kernel_rfl)) (by rw [hD]; simp))
            have n7 : D 7 = false := Bool.eq_false_iff.2 (fun h => absurd (hcl 4 3 (hcl 5 4 (hcl 7 5 h (by kernel_rfl)) (by kernel_rfl)) (by kernel_rfl)) (by rw [hD]; simp))
            refine wpOp_step (by simp only [List.getElem?_toArray, List.getElem?_cons_succ, List.getElem?_cons_zero]; rfl) (fun K hK => ?_)
            go_simp
            refine (l1Text_any g _ _ hc (by omega) (by omega)).mono ?_
            rintro e w4 ⟨s, rfl, hs9', hc4, hch4⟩
            have hs9 : s.size ≤ 9 := by omega
            have hz4 := hch4.size
            refine hK _ _ ⟨[v13, v14, .pointer (some ⟨g, 0, none⟩), .string s, v17, v18, v19], ?_, _, _, _, _, _, _, _, rfl, hc4, (hch.trans hch4), (Nat.lt_of_lt_of_le hhw hz4), (q0.ch hch4 (by omega)), (fun h' => (hb h').ch hch4 (by omega)), (fun h' => (hr h').ch hch4 (by omega)), k0, k1, (fun _ => rfl), (fun _ => ⟨s, rfl, hs9⟩), (fun h => by rw [show D 4 = true from by simpa using h] at n4; cases n4), (fun h => by rw [show D 5 = true from by simpa using h] at n5; cases n5), k6, (fun h => by rw [show D 7 = true from by simpa using h] at n7; cases n7)⟩
            simp only [putAll, List.setIfInBounds_toArray, List.set_cons_succ, List.set_cons_zero]
          · obtain ⟨s, rfl, hs9⟩ := k3 (hdep 3 (by kernel_rfl))
            have n5 : D 5 = false := Bool.eq_false_iff.2 (fun h => absurd (hcl 5 4 h (by kernel_rfl)) (by rw [hD]; simp))
            have n7 : D 7 = false := Bool.eq_false_iff.2 (fun h => absurd (hcl 5 4 (hcl 7 5 h (by kernel_rfl)) (by kernel_rfl)) (by rw [hD]; simp))
            have hal := (Below.refl w'.heap.size w').alloc (Nat.le_refl _) (.cells #[.string s] 9)
            refine wpOp_step (by simp only [List.getElem?_toArray, List.getElem?_cons_succ, List.getElem?_cons_zero]; rfl) (fun K hK => ?_)
            go_simp
            refine hK _ _ ⟨[v13, v14, v15, .string s, .slice (some ⟨w'.heap.size, 0, none⟩) 1 1, v18, v19], ?_, _, _, _, _, _, _, _, rfl, (hc.keep hal), (hch.trans (Ch.of_below hal)), (Nat.lt_of_lt_of_le hhw hal.size), (q0.keep hal), (fun h' => (hb h').keep hal), (fun h' => (hr h').keep hal), k0, k1, k2, (fun _ => ⟨s, rfl, hs9⟩), (fun _ => ⟨_, _, rfl, hs9, fun _ => new1d _ _ _⟩), (fun h => by rw [show D 5 = true from by simpa using h] at n5; cases n5), k6, (fun h => by rw [show D 7 = true from by simpa using h] at n7; cases n7)⟩
            simp only [putAll, List.setIfInBounds_toArray, List.set_cons_succ, List.set_cons_zero]
          · have e1 := k1 (hdep 1 (by kernel_rfl))
            subst e1
            obtain ⟨gb, s, rfl, hs9, hcl4⟩ := k4 (hdep 4 (by kernel_rfl))
            have n7 : D 7 = false := Bool.eq_false_iff.2 (fun h => absurd (hcl 7 5 h (by kernel_rfl)) (by rw [hD]; simp))
            have hX0 := hr hD
            have hown := hX0.own
            refine wpOp_step (by simp only [List.getElem?_toArray, List.getElem?_cons_succ, List.getElem?_cons_zero]; rfl) (fun K hK => ?_)
            refine step_app (by rfl) (.tmp 14) (.tmp 17) 38 (by rfl) lo 9 _ 1 16 Try.underlying38 infoString rfl (by omega) (.slice A n c) n (ch.map Value.string) (by rfl) hown (some ⟨gb, 0, none⟩) 1 1 [.string s] (by rfl) (hcl4 hD) (by simp [Value.oneCell']) (fun h => by cases h) (by unfold maxLen; omega) (by omega) hX0.lo ?_
            intro A' c' w6 hown5 hg5 hb5 hob5
            have hX := hX0.app hhw hb5 hown5 hob5
            have cg := Ch.of_grow hg5
            have hb5w : Below w.heap.size w' w6 := hb5.mono (by omega)
            refine hK _ _ ⟨[v13, .slice A n c, v15, v16, .slice (some ⟨gb, 0, none⟩) 1 1, .slice A' (n + 1) c', v19], ?_, _, _, _, _, _, _, _, rfl, (hc.ch cg (fun k hk => by have := (hX0.blk hk).1; omega)), (hch.thenB hb5w), (Nat.lt_of_lt_of_le hhw hb5.size), (q0.ch cg (fun e => by have := (hX0.blk e).1; omega)), (fun h' => (hb h').ch cg (fun e => (hX0.blk e).2.2 rfl)), (fun h => absurd h (by simp)), k0, (fun _ => rfl), k2, k3, (fun _ => ⟨gb, s, rfl, hs9, fun h => absurd h (by simp)⟩), (fun _ => ⟨A', c', s, rfl, hs9, hX⟩), k6, (fun h => by rw [show D 7 = true from by simpa using h] at n7; cases n7)⟩
            simp only [Act.put, putAll, List.setIfInBounds_toArray, List.set_cons_succ, List.set_cons_zero]
          · refine wpOp_step (by simp only [List.getElem?_toArray, List.getElem?_cons_succ, List.getElem?_cons_zero]; rfl) (fun K hK => ?_)
            go_simp
            refine hK _ _ ⟨[v13, v14, v15, v16, v17, v18, .pointer (some ⟨h, 7, none⟩)], ?_, _, _, _, _, _, _, _, rfl, hc, hch, hhw, q0, hb, hr, k0, k1, k2, k3, k4, k5, (fun _ => rfl), k7⟩
            simp only [putAll, List.setIfInBounds_toArray, List.set_cons_succ, List.set_cons_zero]
          · obtain ⟨A', c', s, rfl, hs9, hX⟩ := k5 (hdep 5 (by kernel_rfl))
            have e6 := k6 (hdep 6 (by kernel_rfl))
            subst e6
            have hB := hb hD
            have b1 := hB.cell 7 _ rfl
            have f1 := hB.fz 7 (by simp)
            have d5 : D 5 = true := hdep 5 (by kernel_rfl)
            have one : Ch (fun k => k = h) w' (w'.setCell ⟨h, 7, none⟩ (.slice A' (n + 1) c')) := Ch.set
            have hbS : Below w.heap.size w' (w'.setCell ⟨h, 7, none⟩ (.slice A' (n + 1) c')) := (Below.refl _ _).setCell (Nat.le_of_lt hrh) _
            refine wpOp_step (by simp only [List.getElem?_toArray, List.getElem?_cons_succ, List.getElem?_cons_zero]; rfl) (fun K hK => ?_)
            go_simp
            refine hK _ _ ⟨[v13, v14, v15, v16, v17, .slice A' (n + 1) c', .pointer (some ⟨h, 7, none⟩)], ?_, _, _, _, _, _, _, _, rfl, (hc.below hbS hlt), (hch.thenB hbS), (Nat.lt_of_lt_of_le hhw one.size), (q0.ch one (by omega)), (fun h => absurd h (by simp)), (fun h' => by rw [show D 5 = false from by simpa using h'] at d5; cases d5), k0, k1, k2, k3, (fun _ => by obtain ⟨gb, s4, e4, h4, h5⟩ := k4 (hcl 5 4 d5 (by kernel_rfl)); exact ⟨gb, s4, e4, h4, fun h' => by rw [show D 5 = false from by simpa using h'] at d5; cases d5⟩), (fun _ => ⟨A', c', s, rfl, hs9, hX.ch one (fun b _ hh e => hh e)⟩), (fun _ => rfl), (fun _ => ⟨A', c', s, hs9, hB.set (by simp), hX.ch one (fun b _ hh e => hh e)⟩)⟩
            simp only [putAll, List.setIfInBounds_toArray, List.set_cons_succ, List.set_cons_zero]
        · intro D vs w' hD hI
          obtain ⟨v13, v14, v15, v16, v17, v18, v19, rfl, hc, hch, hhw, q0, hb, hr, k0, k1, k2, k3, k4, k5, k6, k7⟩ := hI
          simp only [putAll, List.setIfInBounds_toArray, List.set_cons_succ, List.set_cons_zero]
          obtain ⟨A', c', s6, hs9, C, X⟩ := k7 (hD 7 (show 7 < 8 by decide))
          have R := q0; have D' := hch
          clear k0 k1 k2 k3 k4 k5 k6 k7 hD hb hr q0 C5 X5 R5 D5 hc5 hch
          clear D; have D := D'; clear D'
          go_upto_region 17 with fail
          have hRt := R.there (n := 8) rfl
          have hCr := C.range
          obtain ⟨WF, hWF⟩ : ∃ W, W = w'.setCells w.heap.size 0 (#[.int .i64 kd, .int .i64 cl, .int .i64 no, .string st, .string nm, .string tg, .int .i64 nn, .slice A' (n + 1) c'] : Array Value).toList := ⟨_, rfl⟩
          have cF : Ch (fun b => b = w.heap.size) w' WF := by rw [hWF]; exact ch_setCells _ _ _
          have RF : BoxL WF w.heap.size [.int .i64 kd, .int .i64 cl, .int .i64 no, .string st, .string nm, .string tg, .int .i64 nn, .slice A' (n + 1) c'] := by rw [hWF]; exact R.setCells rfl
          have hOne : (#[.int .i64 kd, .int .i64 cl, .int .i64 no, .string st, .string nm, .string tg, .int .i64 nn, .slice A' (n + 1) c'] : Array Value).all (·.oneCell') = true := all_oneCell_toArray (cs := [.int .i64 kd, .int .i64 cl, .int .i64 no, .string st, .string nm, .string tg, .int .i64 nn, .slice A' (n + 1) c']) (by simp [Value.oneCell'])
          have hWr := RF.range
          have hbF : Below w.heap.size w' WF := cF.below (fun k hk => by have hk : k = _ := hk; omega) (by have := R.lt; omega)
          have XF := (X.ch cF (fun b hb hh e => by have e : b = _ := e; omega)).fin (show w.heap.size ≤ lo by omega)
          clear X
          have hcF := hc.below hbF hlt
          have hDF := D.thenB hbF
          have HWF := Lib.hid hWF; clear hWF cF RF R C hc D hbF
          repeat (first | ((with_reducible refine wpList_store_mid ?_ 47 (.tmp 2) (.tmp 50) ?_ w.heap.size 0 #[.int .i64 kd, .int .i64 cl, .int .i64 no, .string st, .string nm, .string tg, .int .i64 nn, .slice A' (n + 1) c'] ?_ ?_ ?_ ?_ hOne ?_); all_goals (first | rw [← HWF.out] | exact hRt | exact sizeCmdD | rfl)) | ((with_reducible refine loadCmdD ?_ (.tmp 3) ?_ h ?_ [.int .i64 kd, .int .i64 cl, .int .i64 no, .string st, .string nm, .string tg, .int .i64 nn, .slice A' (n + 1) c'] ?_ hCr ?_); (rfl); (rfl); (rfl); (rfl)) | go_values | go_skip | go_guarded | go_step | go_upon | (simp only []; go_at_K))
          try simp only [Exit.inBlock, Exit.then, Act.put, List.setIfInBounds_toArray, List.set_cons_succ, List.set_cons_zero]
          refine bodyPost_ret (results_cellD Try.results153 rfl hWr Try.underlying47 rfl sizeCmdD) rfl ?_
          exact ⟨⟨kd, cl, no, st, nm, tg, nn, ch ++ [s6]⟩, A', n + 1, c', rfl, ⟨m1, m2, m3, by simp; omega, fun y hy => by rcases List.mem_append.1 hy with hy | hy; exact m5 y hy; simp at hy; subst hy; exact hs9⟩, XF, hcF, hDF⟩
  · skip
    have hRt := R.there (n := 8) rfl
    have hCr := R.range
    obtain ⟨WF, hWF⟩ : ∃ W, W = w1.setCells w.heap.size 0 (#[.int .i64 0, .int .i64 0, .int .i64 0, .string ⟨#[]⟩, .string ⟨#[]⟩, .string ⟨#[]⟩, .int .i64 0, .slice none 0 0] : Array Value).toList := ⟨_, rfl⟩
    have cF : Ch (fun b => b = w.heap.size) w1 WF := by rw [hWF]; exact ch_setCells _ _ _
    have RF : BoxL WF w.heap.size [.int .i64 0, .int .i64 0, .int .i64 0, .string ⟨#[]⟩, .string ⟨#[]⟩, .string ⟨#[]⟩, .int .i64 0, .slice none 0 0] := by rw [hWF]; exact R.setCells rfl
    have hOne : (#[.int .i64 0, .int .i64 0, .int .i64 0, .string ⟨#[]⟩, .string ⟨#[]⟩, .string ⟨#[]⟩, .int .i64 0, .slice none 0 0] : Array Value).all (·.oneCell') = true := all_oneCell_toArray (cs := [.int .i64 0, .int .i64 0, .int .i64 0, .string ⟨#[]⟩, .string ⟨#[]⟩, .string ⟨#[]⟩, .int .i64 0, .slice none 0 0]) (by simp [Value.oneCell'])
    have hWr := RF.range
    have hbF : Below w.heap.size w1 WF := cF.below (fun k hk => by have hk : k = _ := hk; omega) (by have := R.lt; omega)
    have hcF := hc.below hbF hlt
    have hDF := D.thenB hbF
    have HWF := Lib.hid hWF; clear hWF cF RF R hc D hbF
    repeat (first | ((with_reducible refine wpList_store_mid ?_ 47 (.tmp 2) (.tmp 6) ?_ w.heap.size 0 #[.int .i64 0, .int .i64 0, .int .i64 0, .string ⟨#[]⟩, .string ⟨#[]⟩, .string ⟨#[]⟩, .int .i64 0, .slice none 0 0] ?_ ?_ ?_ ?_ hOne ?_); all_goals (first | rw [← HWF.out] | exact hRt | exact sizeCmdD | rfl)) | ((with_reducible refine loadCmdD ?_ (.tmp 3) ?_ h ?_ [.int .i64 0, .int .i64 0, .int .i64 0, .string ⟨#[]⟩, .string ⟨#[]⟩, .string ⟨#[]⟩, .int .i64 0, .slice none 0 0] ?_ hCr ?_); (rfl); (rfl); (rfl); (rfl)) | go_values | go_skip | go_guarded | go_step | go_upon | (simp only []; go_at_K))
    try simp only [Exit.inBlock, Exit.then, Act.put, List.setIfInBounds_toArray, List.set_cons_succ, List.set_cons_zero]
    refine bodyPost_ret (results_cellD Try.results153 rfl hWr Try.underlying47 rfl sizeCmdD) rfl ?_
    exact ⟨⟨0, 0, 0, ⟨#[]⟩, ⟨#[]⟩, ⟨#[]⟩, 0, []⟩, none, 0, 0, rfl, ⟨Nat.zero_le _, Nat.zero_le _, Nat.zero_le _, by simp, fun y hy => by cases hy⟩, StrsIn.nil, hcF, hDF⟩
end Go.Proofs.Ytdphdnllhmnelaa
