/- Contracts and lemmas: StatePlay, RunInI. -/
import Derived.Test.YtdphdnllhmnelaaJ36
import Derived.Test.YtdphdnllhmnelaaJ15
import Derived.Test.YtdphdnllhmnelaaJ0
/- The program's StatePlay. -/
namespace Go.Proofs.Ytdphdnllhmnelaa
open Go.RowKit
attribute [local go_sem] Grow.cell Grow.frozen
theorem txtInfo : (Try.prog.info? 9).map (fun i => (i.zero, i.size, i.bytes)) = some (some (.string ByteArray.empty), 1, 16) := by kernel_rfl
theorem StaOut.out {s : Sta × ByteArray} {w w' : World} {e : Ending} (h : StaOut s w e w') : ∃ B1 m1 d1 B2 m2 d2 f1 f2, e = .returned (.tuple #[staV s.1 (.slice B1 m1 d1) (.slice B2 m2 d2), .string s.2]) ∧ RowO cstF 148 2 f1 w' B1 m1 d1 s.1.cat.sets ∧ RowO saiF 153 3 f2 w' B2 m2 d2 s.1.said ∧ (f1 ++ f2).Nodup ∧ (∀ b ∈ f1 ++ f2, w.heap.size ≤ b) ∧ Below w.heap.size w w' := h
/-- what a play leaves -/
def PlayOut (s : Sta) (w : World) (e : Ending) (w' : World) : Prop :=
  ∃ B1 m1 d1 B2 m2 d2 f1 f2 Z, e = .returned (.tuple #[staV s (.slice B1 m1 d1) (.slice B2 m2 d2), Z]) ∧ RowO cstF 148 2 f1 w' B1 m1 d1 s.cat.sets ∧ RowO saiF 153 3 f2 w' B2 m2 d2 s.said ∧ (f1 ++ f2).Nodup ∧ (∀ b ∈ f1 ++ f2, w.heap.size ≤ b) ∧ Below w.heap.size w w'
theorem play_out {s : Sta} {w w5 : World} {B1 B2 : Option Addr} {m1 d1 m2 d2 g p : Nat} {f1 f2 : List Nat} {Z : Value} (R1 : RowO cstF 148 2 f1 w5 B1 m1 d1 s.cat.sets) (R2 : RowO saiF 153 3 f2 w5 B2 m2 d2 s.said) (hN : (f1 ++ f2).Nodup)
    (hF : ∀ b ∈ f1 ++ f2, g ≤ b ∧ b ≠ p) (hb : Below g w w5) (hg : w.heap.size = g) (hp : g ≤ p) (hp5 : p < w5.heap.size) : PlayOut s w (.returned (.tuple #[.agg #[.slice B1 m1 d1, .slice B2 m2 d2], Z])) (w5.setCells p 0 [.slice B1 m1 d1, .slice B2 m2 d2]) := by
  have hch := ch_setCells (g := p) [.slice B1 m1 d1, .slice B2 m2 d2] 0 w5
  subst hg
  exact ⟨B1, m1, d1, B2, m2, d2, f1, f2, Z, rfl, R1.ch cstK hch (fun b hb => (hF b (List.mem_append_left _ hb)).2), R2.ch saiK hch (fun b hb => (hF b (List.mem_append_right _ hb)).2), hN, fun b hb => (hF b hb).1, hch.belowB hb (by omega) (fun k hk => by have hk : k = p := hk; omega)⟩
theorem stPlay_take {l : List Cm} {k : Nat} {x : Cm} (s : Sta) (hx : l[k]? = some x) : stPlay s (l.take (k + 1)) = (stDo (stPlay s (l.take k)) x).1 := by rw [take_more hx, stPlay_snoc]
theorem cm_el {l : List Cm} {w : World} {n c b off i : Nat} (h : RowR cmR 8 w (some ⟨b, off, none⟩) n c l) (hi : i < n) : b < w.heap.size ∧ ∃ x A1 n1 c1, l[i]? = some x ∧ StrR w A1 n1 c1 x.ch ∧ w.rangeAt b (off + i * 8) [.int .i64 x.kd, .int .i64 x.cl, .int .i64 x.no, .string x.s, .string x.nm, .string x.tg, .int .i64 x.n, .slice A1 n1 c1] := by
  obtain ⟨bl, x, cs, hx, ⟨A1, n1, c1, rfl, hS⟩, hcell⟩ := h.elem_at hi
  exact ⟨bl, x, A1, n1, c1, hx, hS, hcell⟩
theorem blk_or {A A' : Option Addr} {n c n' c' m : Nat} (h : (Value.slice A' n' c').ownBlock = (Value.slice A n c).ownBlock ∨ (Value.slice A' n' c').ownBlock = some m) : ∀ b ∈ blkL A', b ∈ blkL A ∨ b = m := fun b hb => by
  have h1 := blk_own (n := n') (c := c') (mem_blkL.1 hb)
  rcases h with h2 | h2
  · exact .inl (mem_blkL.2 (blk_of (h2.symm.trans h1)))
  · exact .inr (Option.some.inj (h1.symm.trans h2))
theorem staO_read {f1 f2 : List Nat} {w : World} {B1 B2 : Option Addr} {m1 d1 m2 d2 : Nat} {l1 : List Cst} {l2 : List Sai} (R1 : RowO cstF 148 2 f1 w B1 m1 d1 l1) (R2 : RowO saiF 153 3 f2 w B2 m2 d2 l2) : RowR cstR 2 w B1 m1 d1 l1 ∧ RowR saiR 3 w B2 m2 d2 l2 := ⟨R1.at_ cstK (by omega), R2.at_ saiK (by omega)⟩
attribute [local irreducible] StrsAt StrR RowR RowO StaOut stPlay stDo StaBd PlayOut
set_option maxRecDepth 8000 in
set_option maxHeartbeats 8000000 in
theorem staPlay_impl (l : List Cm) (A : Option Addr) (n c : Nat) (w : World) (h : RowR cmR 8 w A n c l) (hn : n ≤ 1048576) (hb : ∀ m ∈ l, cmB m) :
    Calls Try.prog 114 #[.slice A n c] w (PlayOut (stPlay staNew l) w) := by
  have HL := Lib.hid h.len
  have al1 := (Below.refl w.heap.size w).alloc (Nat.le_refl _) (.cells #[.slice none 0 0, .slice none 0 0] 87)
  have al2 := al1.alloc al1.size (.cells #[.slice none 0 0, .slice none 0 0] 87)
  have al3 := al2.alloc al2.size (.cells #[] 9)
  have hz1 : (w.alloc (.cells #[.slice none 0 0, .slice none 0 0] 87)).heap.size = w.heap.size + 1 := Array.size_push _
  have hz2 : ((w.alloc (.cells #[.slice none 0 0, .slice none 0 0] 87)).alloc (.cells #[.slice none 0 0, .slice none 0 0] 87)).heap.size = w.heap.size + 2 := (Array.size_push _).trans (by rw [hz1])
  have BO := ((BoxL.new w [.slice none 0 0, .slice none 0 0] 87).keep ((Below.refl _ _).alloc (Nat.le_refl _) (.cells #[.slice none 0 0, .slice none 0 0] 87))).keep ((Below.refl _ _).alloc (Nat.le_refl _) (.cells #[] 9))
  have BS := (BoxL.new (w.alloc (.cells #[.slice none 0 0, .slice none 0 0] 87)) [.slice none 0 0, .slice none 0 0] 87).keep ((Below.refl _ _).alloc (Nat.le_refl _) (.cells #[] 9))
  have own0 := own_empty ((w.alloc (.cells #[.slice none 0 0, .slice none 0 0] 87)).alloc (.cells #[.slice none 0 0, .slice none 0 0] 87)) 9 1 (base := 0) (Nat.zero_le _)
  go_enter Try.func114, Try.ntmps114
  go_wp2_with fail
  obtain ⟨W, hWW⟩ : ∃ W, W = ((w.alloc (.cells #[.slice none 0 0, .slice none 0 0] 87)).alloc (.cells #[.slice none 0 0, .slice none 0 0] 87)).alloc (.cells #[] 9) := ⟨_, rfl⟩
  obtain ⟨g, hg⟩ : ∃ g, w.heap.size = g := ⟨_, rfl⟩
  rw [hz1] at BS
  rw [hz2] at own0
  have HG := Lib.hid hg
  rw [← hWW] at al3 BO BS own0 ⊢
  simp only [hg] at BO BS own0 ⊢
  clear hWW hg al1 al2 hz1 hz2
  have hWg : g + 2 < W.heap.size := by have := (own_lo own0 (g + 2) (by simp [blkL])).2; omega
  go_loopw [5, 14] (fun s i wr => ∃ (k : Nat) (Z : Option Addr) (cz : Nat) (xs : List Value) (B1 : Option Addr) (m1 d1 : Nat) (B2 : Option Addr) (m2 d2 : Nat) (f1 f2 : List Nat), k ≤ n ∧ i = .int .i64 k ∧ s = .slice Z k cz ∧ wr.ownsRow 0 9 1 (.slice Z k cz) k xs ∧ (∀ b ∈ blkL Z, g + 1 < b ∧ b < wr.heap.size ∧ b ∉ f1 ++ f2) ∧
      BoxL wr g [.slice none 0 0, .slice none 0 0] ∧ BoxL wr (g + 1) [.slice B1 m1 d1, .slice B2 m2 d2] ∧ RowO cstF 148 2 f1 wr B1 m1 d1 (stPlay staNew (l.take k)).cat.sets ∧ RowO saiF 153 3 f2 wr B2 m2 d2 (stPlay staNew (l.take k)).said ∧ (f1 ++ f2).Nodup ∧ (∀ b ∈ f1 ++ f2, g + 1 < b) ∧ Below g w wr ∧ W.heap.size ≤ wr.heap.size) (fun _ i _ => n - (intOf i).toNat)
  case atStart => exact ⟨0, _, _, [], none, 0, 0, none, 0, 0, [], [], Nat.zero_le _, rfl, rfl, own0, (fun b hb => by have hb2 : b = g + 2 := (by simpa [blkL] using hb); subst hb2; exact ⟨by omega, hWg, by simp⟩), BO, BS, (by rw [List.take_zero, stPlay]; exact RowO.nil), (by rw [List.take_zero, stPlay]; exact RowO.nil), List.nodup_nil, (fun b hb => by cases hb), (by rw [HG.out] at al3; exact al3), Nat.le_refl _⟩
  case round =>
    clear BO BS own0
    obtain ⟨k, Z, cz, xs, B1, m1, d1, B2, m2, d2, f1, f2, hk, rfl, rfl, own, hZ, BO, BS, R1, R2, hN, hF, hB, hz⟩ := hrel
    have hBw : Below w.heap.size w wr := by rw [HG.out]; exact hB
    have hR := h.keep cmK hBw
    have s0 := BS.cell 0 _ rfl
    have s1 := BS.cell 1 _ rfl
    have lg := BO.lt
    have lg1 := BS.lt
    by_cases hlt : k < n
    · obtain ⟨b, off, rfl⟩ := hR.head (by omega)
      obtain ⟨bl, m, C1, q1, e1, hm, hmc, hcr⟩ := cm_el hR hlt
      have HT := Lib.hid (stPlay_take staNew hm)
      have hmB := hb m (List.mem_of_getElem? hm)
      have r0 : wr.cell? ⟨b, off + k * 8, none⟩ = some (.int .i64 m.kd) := hcr 0 _ rfl
      have r1 : wr.cell? ⟨b, off + k * 8 + 1, none⟩ = some (.int .i64 m.cl) := hcr 1 _ rfl
      have r2 : wr.cell? ⟨b, off + k * 8 + 2, none⟩ = some (.int .i64 m.no) := hcr 2 _ rfl
      have r3 : wr.cell? ⟨b, off + k * 8 + 3, none⟩ = some (.string m.s) := hcr 3 _ rfl
      have r4 : wr.cell? ⟨b, off + k * 8 + 4, none⟩ = some (.string m.nm) := hcr 4 _ rfl
      have r5 : wr.cell? ⟨b, off + k * 8 + 5, none⟩ = some (.string m.tg) := hcr 5 _ rfl
      have r6 : wr.cell? ⟨b, off + k * 8 + 6, none⟩ = some (.int .i64 m.n) := hcr 6 _ rfl
      have r7 : wr.cell? ⟨b, off + k * 8 + 7, none⟩ = some (.slice C1 q1 e1) := hcr 7 _ rfl
      have aly := (Below.refl wr.heap.size wr).alloc (Nat.le_refl _) (.cells #[.int .i64 m.kd, .int .i64 m.cl, .int .i64 m.no, .string m.s, .string m.nm, .string m.tg, .int .i64 m.n, .slice C1 q1 e1] 47)
      have RR := staO_read (R1.keep cstK aly) (R2.keep saiK aly)
      have hbd : StaBd (stPlay staNew (l.take k)) := stPlay_bd _ staBd_nil
      clear hm hcr
      go_wp2_with fail
      have hdo := staDo_impl (stPlay staNew (l.take k)) m B1 m1 d1 B2 m2 d2 C1 q1 e1 _ RR.1 RR.2 hbd (hmc.keep aly) hmB
      unfold staV cmV at hdo
      refine hdo.mono ?_
      intro e w5 hout
      obtain ⟨E1, j1, k1, E2, j2, k2, h1', h2', rfl, R1', R2', N', F', hb5⟩ := hout.out
      unfold staV
      clear hdo hout RR r0 r1 r2 r3 r4 r5 r6 r7 s0 s1
      have hb6 := bthen aly hb5
      have hsz := aly.size
      have hz5 := hb6.size
      have BO5 := BO.keep hb6; have BS5 := BS.keep hb6
      have own5 := own_chL own (Ch.of_below (S := fun _ => False) hb6) (fun _ _ h => h)
      have hB5 : Below g w w5 := hB.trans (hb6.mono (show g ≤ wr.heap.size by omega))
      have hZ5 : ∀ b ∈ blkL Z, g + 1 < b ∧ b < w5.heap.size ∧ b ∉ h1' ++ h2' := fun b hb => by have h5 := hZ b hb; exact ⟨h5.1, by omega, fun h6 => by have h7 := F' b h6; omega⟩
      have FF : ∀ b ∈ h1' ++ h2', g + 1 < b := fun b hb => by have h5 := F' b hb; omega
      clear own hZ BO BS R1 R2 hN hF hB hR aly hb5 hb6 F' hmc
      have cs := ch_setCells (g := g + 1) [.slice E1 j1 k1, .slice E2 j2 k2] 0 w5
      have al := (Below.refl (w5.setCells (g + 1) 0 [.slice E1 j1 k1, .slice E2 j2 k2]).heap.size (w5.setCells (g + 1) 0 [.slice E1 j1 k1, .slice E2 j2 k2])).alloc (Nat.le_refl _) (.cells #[.slice E1 j1 k1, .slice E2 j2 k2] 87)
      have hne : ∀ b ∈ h1' ++ h2', ¬ b = g + 1 := fun b hb => by have h5 := FF b hb; omega
      have BO6 := (BO5.ch cs (by omega)).keep al
      have BS6 := (BS5.setCells (vs := [.slice E1 j1 k1, .slice E2 j2 k2]) rfl).keep al
      have R16 := (R1'.ch cstK cs (fun b hb => hne b (List.mem_append_left _ hb))).keep cstK al
      have R26 := (R2'.ch saiK cs (fun b hb => hne b (List.mem_append_right _ hb))).keep saiK al
      have own6 : (((w5.setCell ⟨g + 1, 0, none⟩ (.slice E1 j1 k1)).setCell ⟨g + 1, 1, none⟩ (.slice E2 j2 k2)).alloc (.cells #[.slice E1 j1 k1, .slice E2 j2 k2] 87)).ownsRow 0 9 1 (.slice Z k cz) k xs :=
        own_chL (own_chL own5 cs (fun b hb e => by have h5 := hZ5 b hb; have e : b = g + 1 := e; omega)) (Ch.of_below (S := fun _ => False) al) (fun _ _ h => h)
      have hB6 : Below g w _ := (cs.belowB hB5 (by omega) (fun b hb => by have hb : b = g + 1 := hb; omega)).trans (al.mono (show g ≤ (w5.setCells (g + 1) 0 [.slice E1 j1 k1, .slice E2 j2 k2]).heap.size by have := cs.size; omega))
      have hzs := cs.size
      have hza := al.size
      have s0 := BS5.cell 0 _ rfl
      have s1 := BS5.cell 1 _ rfl
      have sf := BS5.fz 0 (by simp)
      have sg := BS5.fz 1 (by simp)
      have lg := BS5.lt
      clear bl
      go_wp2_with (first | (at_builtin; refine wpList_app1g (P := Try.prog) _ rfl (.tmp 25) (.tmp 27) 38 rfl 0 9 _ 1 16 Try.underlying38 txtInfo rfl (by omega) (.slice Z k cz) _ _ rfl own6 _ _ rfl (by simp) rfl (by simp [Value.oneCell']) (by unfold maxLen; omega) (by omega) (Nat.zero_le _) ?_; intro Z' cz' w7 own7 hg7 hb7 hob7; refine stop_of ?_) | fail)
      unfold Stop
      have C7 : Ch (fun b => b ∈ blkL Z) _ w7 := (Ch.of_grow hg7).mono (fun b hb => mem_blkL.2 (blk_of hb))
      have hz7 := C7.size
      have BO7 := BO6.ch C7 (fun h6 => by have h5 := hZ5 _ h6; omega)
      have BS7 := BS6.ch C7 (fun h6 => by have h5 := hZ5 _ h6; omega)
      have R17 := R16.ch cstK C7 (fun b hb h6 => (hZ5 b h6).2.2 (List.mem_append_left _ hb))
      have R27 := R26.ch saiK C7 (fun b hb h6 => (hZ5 b h6).2.2 (List.mem_append_right _ hb))
      have hza' : w5.heap.size ≤ (((w5.setCell ⟨g + 1, 0, none⟩ (.slice E1 j1 k1)).setCell ⟨g + 1, 1, none⟩ (.slice E2 j2 k2)).alloc (.cells #[.slice E1 j1 k1, .slice E2 j2 k2] 87)).heap.size := Nat.le_trans hzs hza
      have hbk := blk_or hob7
      have hB7 : Below g w w7 := C7.belowB hB6 (by omega) (fun b hb => by have h5 := hZ5 b hb; omega)
      have hl1 := R1'.lt cstK
      have hl2 := R2'.lt saiK
      have hZ7 : ∀ b ∈ blkL Z', g + 1 < b ∧ b < w7.heap.size ∧ b ∉ h1' ++ h2' := fun b hb => by
        have h6 := (own_lo own7 b hb).2
        rcases hbk b hb with h7 | h7
        · have h5 := hZ5 b h7; exact ⟨h5.1, h6, h5.2.2⟩
        · refine ⟨by omega, h6, fun h8 => ?_⟩
          rcases List.mem_append.1 h8 with h9 | h9
          · have := hl1 b h9; omega
          · have := hl2 b h9; omega
      rw [← HT.out] at R17 R27
      clear s0 s1 sf sg lg lg1 own5 own6 BO5 BS5 BO6 BS6 R16 R26 R1' R2' C7 hg7 hb7 hob7 hbk hl1 hl2
      go_wp2
      exact ⟨⟨k + 1, Z', cz', _, E1, j1, k1, E2, j2, k2, h1', h2', by omega, by go_num, rfl, own7, hZ7, BO7, BS7, R17, R27, N', FF, hB7, by omega⟩, by simp [intOf]; omega⟩
    · have hkn : k = n := by omega
      subst hkn
      have e1 : l.take k = l := by rw [List.take_of_length_le (by have := HL.out; omega)]
      rw [e1] at R1 R2
      have o0 := BO.cell 0 _ rfl
      have o1 := BO.cell 1 _ rfl
      have of := BO.fz 0 (by simp)
      have og := BO.fz 1 (by simp)
      have hWr := (BO.setCells (vs := [.slice B1 m1 d1, .slice B2 m2 d2]) rfl).range
      go_wp2
      refine bodyPost_ret (results_cell_tmp Try.results114 rfl hWr Try.underlying87 rfl sizeState0) rfl ?_
      exact play_out (g := g) (p := g) R1 R2 hN (fun b hb => by have h5 := hF b hb; omega) hB HG.out (Nat.le_refl _) lg
end Go.Proofs.Ytdphdnllhmnelaa
/- RunIn: the program's side. -/
namespace Go.Proofs.Ytdphdnllhmnelaa
open Go.RowKit
attribute [local go_sem] Grow.cell Grow.frozen
theorem blk_newI {A A' : Option Addr} {n c n' c' m B : Nat} (h : (Value.slice A' n' c').ownBlock = (Value.slice A n c).ownBlock ∨ (Value.slice A' n' c').ownBlock = some m) (hA : ∀ b ∈ blkL A, B ≤ b) (hm : B ≤ m) : ∀ b ∈ blkL A', B ≤ b := fun b hb => by
  have h1 := blk_own (n := n') (c := c') (mem_blkL.1 hb)
  rcases h with h2 | h2
  · exact hA b (mem_blkL.2 (blk_of (h2.symm.trans h1)))
  · have := Option.some.inj (h1.symm.trans h2); omega
/-- what a run leaves -/
def RunOut (s : Sta) (w : World) (e : Ending) (w' : World) : Prop :=
  ∃ B1 m1 d1 B2 m2 d2 f1 f2, e = .returned (staV s (.slice B1 m1 d1) (.slice B2 m2 d2)) ∧ RowO cstF 148 2 f1 w' B1 m1 d1 s.cat.sets ∧ RowO saiF 153 3 f2 w' B2 m2 d2 s.said ∧ (f1 ++ f2).Nodup ∧ (∀ b ∈ f1 ++ f2, w.heap.size ≤ b) ∧ Below w.heap.size w w'
theorem PlayOut.out {s : Sta} {w w' : World} {e : Ending} (h : PlayOut s w e w') : ∃ B1 m1 d1 B2 m2 d2 f1 f2 Z, e = .returned (.tuple #[staV s (.slice B1 m1 d1) (.slice B2 m2 d2), Z]) ∧ RowO cstF 148 2 f1 w' B1 m1 d1 s.cat.sets ∧ RowO saiF 153 3 f2 w' B2 m2 d2 s.said ∧ (f1 ++ f2).Nodup ∧ (∀ b ∈ f1 ++ f2, w.heap.size ≤ b) ∧ Below w.heap.size w w' := h
theorem run_out {s : Sta} {w w5 w6 : World} {B1 B2 : Option Addr} {m1 d1 m2 d2 g : Nat} {f1 f2 : List Nat} (R1 : RowO cstF 148 2 f1 w5 B1 m1 d1 s.cat.sets) (R2 : RowO saiF 153 3 f2 w5 B2 m2 d2 s.said) (hN : (f1 ++ f2).Nodup)
    (hF : ∀ b ∈ f1 ++ f2, g < b) (hb : Below g w w5) (hg : w.heap.size = g) (hg5 : g < w5.heap.size) (ha : Below (w5.setCells g 0 [.slice B1 m1 d1, .slice B2 m2 d2]).heap.size (w5.setCells g 0 [.slice B1 m1 d1, .slice B2 m2 d2]) w6) : RunOut s w (.returned (.agg #[.slice B1 m1 d1, .slice B2 m2 d2])) w6 := by
  have hch := ch_setCells (g := g) [.slice B1 m1 d1, .slice B2 m2 d2] 0 w5
  have hz := hch.size
  subst hg
  have hne : ∀ b ∈ f1 ++ f2, ¬ b = w.heap.size := fun b hb => by have := hF b hb; omega
  exact ⟨B1, m1, d1, B2, m2, d2, f1, f2, rfl, (R1.ch cstK hch (fun b hb => hne b (List.mem_append_left _ hb))).keep cstK ha, (R2.ch saiK hch (fun b hb => hne b (List.mem_append_right _ hb))).keep saiK ha, hN, fun b hb => by have := hF b hb; omega,
    (hch.belowB hb hb.size (fun k hk => by have hk : k = w.heap.size := hk; omega)).trans (ha.mono (by omega))⟩
theorem pick_drop (l : List Cm) {o : List Int} {k : Nat} (hk : k < o.length) : pickL l (o.drop k) = if 0 ≤ iAt o k ∧ iAt o k < (l.length : Int) then cmAt l (iAt o k).toNat :: pickL l (o.drop (k + 1)) else pickL l (o.drop (k + 1)) := by
  rw [List.drop_eq_getElem_cons hk, pickL, show iAt o k = o[k] by simp [iAt, hk]]
theorem pick_mem {l : List Cm} : ∀ {o : List Int}, ∀ m ∈ pickL l o, m ∈ l
  | [], m, h => by cases h
  | i :: o, m, h => by
    unfold pickL at h
    split at h
    · rename_i hi
      rcases List.mem_cons.1 h with rfl | h
      · have hj : i.toNat < l.length := by omega
        rw [show cmAt l i.toNat = l[i.toNat] by simp [cmAt, hj]]
        exact List.getElem_mem hj
      · exact pick_mem m h
    · exact pick_mem m h
theorem cm_els {css : List (List Value)} {l : List Cm} {m : Cm} {w : World} {A : Option Addr} {n c : Nat} (h : ElsR cmR w css l) (hs : StrR w A n c m.ch) : ElsR cmR w (css ++ [[.int .i64 m.kd, .int .i64 m.cl, .int .i64 m.no, .string m.s, .string m.nm, .string m.tg, .int .i64 m.n, .slice A n c]]) (l ++ [m]) := h.snoc ⟨A, n, c, rfl, hs⟩
theorem results_one {P : Program} {fn : Func} {c : Tmp} {ty : TypeId} (h : fn.results = #[.cell c ty]) {tmps : Array Value} {w : World} {b : Nat} {cs : List Value} {d : TypeDesc} (hp : tmps.getD c undef = .pointer (some ⟨b, 0, none⟩))
    (hc : w.rangeAt b 0 cs) (hu : P.underlying ty = some d) (hd : d.isRow = true) (hi : (P.info? ty).map (·.size) = some cs.length) : (results fn tmps).run P w = .ok (.agg cs.toArray) w := results_cell1 h hp hc hu hd hi
attribute [local irreducible] StrsAt StrR RowR RowO stPlay PlayOut RunOut pickL runL ElsR
set_option maxRecDepth 8000 in
set_option maxHeartbeats 8000000 in
theorem runIn_impl (l : List Cm) (or_ : List Int) (A : Option Addr) (n c : Nat) (A2 : Option Addr) (n2 c2 : Nat) (w : World) (h : RowR cmR 8 w A n c l) (h2 : IntsAt w A2 n2 or_) (hn : n ≤ 1048576) (hn2 : n2 ≤ 1048576) (hb : ∀ m ∈ l, cmB m) :
    Calls Try.prog 47 #[.slice A n c, .slice A2 n2 c2] w (RunOut (runL l or_) w) := by
  have HL := Lib.hid h.len
  have HL2 := Lib.hid h2.1
  have al1 := (Below.refl w.heap.size w).alloc (Nat.le_refl _) (.cells #[.slice none 0 0, .slice none 0 0] 87)
  have al2 := al1.alloc al1.size (.cells #[] 47)
  have hz1 : (w.alloc (.cells #[.slice none 0 0, .slice none 0 0] 87)).heap.size = w.heap.size + 1 := Array.size_push _
  have BO := (BoxL.new w [.slice none 0 0, .slice none 0 0] 87).keep ((Below.refl _ _).alloc (Nat.le_refl _) (.cells #[] 47))
  have own0 := own_empty (w.alloc (.cells #[.slice none 0 0, .slice none 0 0] 87)) 47 8 (base := 0) (Nat.zero_le _)
  go_enter Try.func47, Try.ntmps47
  go_wp2_with fail
  obtain ⟨W, hWW⟩ : ∃ W, W = (w.alloc (.cells #[.slice none 0 0, .slice none 0 0] 87)).alloc (.cells #[] 47) := ⟨_, rfl⟩
  obtain ⟨g, hg⟩ : ∃ g, w.heap.size = g := ⟨_, rfl⟩
  rw [hz1] at own0
  have HG := Lib.hid hg
  rw [← hWW] at al2 BO own0 ⊢
  simp only [hg] at BO own0 ⊢
  clear hWW hg al1 hz1
  have hgl := BO.lt
  go_loopw [5, 13] (fun s i wr => ∃ (k : Nat) (P : Option Addr) (cp : Nat) (css : List (List Value)) (lO : List Cm), k ≤ n2 ∧ i = .int .i64 k ∧ s = .slice P lO.length cp ∧ lO.length ≤ k ∧ wr.ownsRow 0 47 8 (.slice P lO.length cp) lO.length css.flatten ∧ (∀ x ∈ blkL P, g + 1 ≤ x) ∧
      ElsR cmR w css lO ∧ pickL l or_ = lO ++ pickL l (or_.drop k) ∧ BoxL wr g [.slice none 0 0, .slice none 0 0] ∧ Below w.heap.size w wr ∧ g + 1 ≤ wr.heap.size) (fun _ i _ => n2 - (intOf i).toNat)
  case atStart => exact ⟨0, _, _, [], [], Nat.zero_le _, rfl, rfl, Nat.le_refl _, own0, (fun x hx => by have h2 : x = g + 1 := (by simpa [blkL] using hx); omega), ElsR.nil, rfl, BO, al2, by omega⟩
  case round =>
    clear BO own0 al2
    obtain ⟨k, P, cp, css, lO, hk, rfl, rfl, hlO, own1, hP, hE, hpk, BO, hB, hgz⟩ := hrel
    have HI := Lib.hid hpk; clear hpk
    have HO := Lib.hid hlO
    have lg := BO.lt
    by_cases hlt : k < n2
    · have hki : (k : Int) < (n2 : Int) := by omega
      obtain ⟨ob, oo, rfl, hobl, hc2⟩ := (h2.keep hB).2 (by omega)
      have oc : wr.cell? ⟨ob, oo + k, none⟩ = some (.int .i64 (iAt or_ k)) := hc2 k hlt
      have HD := Lib.hid (pick_drop l (o := or_) (k := k) (by have := HL2.out; omega))
      have hlO3 : lO.length ≤ 1048576 := by omega
      obtain ⟨v, hv⟩ : ∃ v, iAt or_ k = v := ⟨_, rfl⟩
      rw [hv] at oc HD
      clear hv hc2 hlO
      by_cases hin : 0 ≤ v ∧ v < (n : Int)
      · obtain ⟨j, rfl⟩ : ∃ j : Nat, v = (j : Int) := ⟨v.toNat, by omega⟩
        have hjn : j < n := by omega
        have hji : (j : Int) < (n : Int) := by omega
        have hR := h.keep cmK hB
        obtain ⟨b, off, rfl⟩ := hR.head (by omega)
        obtain ⟨bl, m, C1, q1, e1, hm, hmc, hcr⟩ := cm_el hR hjn
        obtain ⟨_, m', C1', q1', e1', hm', hmc', hcr'⟩ := cm_el h hjn
        obtain rfl : m = m' := Option.some.inj (hm.symm.trans hm')
        have hq := hcr 7 _ rfl
        have hq' := (hB.cell (p := ⟨b, off + j * 8 + 7, none⟩) (cell_lt (hcr' 7 _ rfl))).trans (hcr' 7 _ rfl)
        have hqe := Option.some.inj (hq.symm.trans hq')
        injection hqe with e7 e8 e9
        subst e7 e8 e9
        have r0 : wr.cell? ⟨b, off + j * 8, none⟩ = some (.int .i64 m.kd) := hcr 0 _ rfl
        have r1 : wr.cell? ⟨b, off + j * 8 + 1, none⟩ = some (.int .i64 m.cl) := hcr 1 _ rfl
        have r2 : wr.cell? ⟨b, off + j * 8 + 2, none⟩ = some (.int .i64 m.no) := hcr 2 _ rfl
        have r3 : wr.cell? ⟨b, off + j * 8 + 3, none⟩ = some (.string m.s) := hcr 3 _ rfl
        have r4 : wr.cell? ⟨b, off + j * 8 + 4, none⟩ = some (.string m.nm) := hcr 4 _ rfl
        have r5 : wr.cell? ⟨b, off + j * 8 + 5, none⟩ = some (.string m.tg) := hcr 5 _ rfl
        have r6 : wr.cell? ⟨b, off + j * 8 + 6, none⟩ = some (.int .i64 m.n) := hcr 6 _ rfl
        have r7 : wr.cell? ⟨b, off + j * 8 + 7, none⟩ = some (.slice C1 q1 e1) := hq
        have HE2 := Lib.hid (cm_els hE hmc')
        have HJ := Lib.hid (show pickL l or_ = (lO ++ [m]) ++ pickL l (or_.drop (k + 1)) by
          rw [HI.out, HD.out, if_pos (by have := HL.out; omega), Int.toNat_natCast, show cmAt l j = m by unfold cmAt; simp [hm]]; simp)
        clear hm hm' hmc hmc' hcr hcr' hq hq' hE hR
        go_wp2_with fail
        refine (within_any _ _ _ _).mono ?_
        rintro e w' ⟨rfl, rfl⟩
        have hw : inB (j : Int) 0 ((n : Int) - 1) = true := by unfold inB; simp; omega
        rw [hw]
        go_wp2_with (first | (at_builtin; refine wpList_app1g (P := Try.prog) _ rfl (.tmp 22) (.tmp 27) 26 rfl 0 47 _ 8 104 Try.underlying26 infoCmd rfl (by omega) (.slice P lO.length cp) _ _ rfl own1 _ _ rfl (by simp) rfl (by simp [Value.oneCell']) (by unfold maxLen; omega) (by omega) (Nat.zero_le _) ?_; intro P3 cp3 w3 own3 hg3 hb3 hob3; refine stop_of ?_) | fail)
        unfold Stop
        have C3 : Ch (fun t => g + 1 ≤ t) wr w3 := (Ch.of_grow hg3).mono (fun t ht => hP t (mem_blkL.2 (blk_of ht)))
        have hP3 := blk_newI hob3 hP (by omega)
        have hB3 : Below w.heap.size w w3 := C3.belowB hB hB.size (fun t ht => by have ht : g + 1 ≤ t := ht; have := HG.out; omega)
        have BO3 := BO.ch C3 (by omega)
        have hgz3 := Nat.le_trans hgz C3.size
        have HX := Lib.hid (And.intro (And.intro BO3 hB3) (And.intro hgz3 hP3)); have HOW := Lib.hid own3; clear BO3 hB3 hgz3 hP3 own3 C3 hg3 hb3 hob3 r0 r1 r2 r3 r4 r5 r6 r7 oc
        go_wp2
        exact ⟨⟨k + 1, P3, cp3, _, (lO ++ [m]), by omega, by go_num, by simp, by have := HO.out; simp; omega, by have h5 := HOW.out; simpa using h5, HX.out.2.2, HE2.out, HJ.out, HX.out.1.1, HX.out.1.2, HX.out.2.1⟩, by simp [intOf]; omega⟩
      · have HJ := Lib.hid (show pickL l or_ = lO ++ pickL l (or_.drop (k + 1)) by rw [HI.out, HD.out, if_neg (by have := HL.out; omega)])
        go_wp2_with fail
        refine (within_any _ _ _ _).mono ?_
        rintro e w' ⟨rfl, rfl⟩
        have hw : inB v 0 ((n : Int) - 1) = false := by unfold inB; simp; omega
        rw [hw]
        go_wp2
        exact ⟨⟨k + 1, P, cp, css, lO, by omega, by go_num, rfl, by have := HO.out; omega, own1, hP, hE, HJ.out, BO, hB, hgz⟩, by simp [intOf]; omega⟩
    · have hkn : k = n2 := by omega
      subst hkn
      have hpe : pickL l or_ = lO := by rw [HI.out, List.drop_eq_nil_of_le (by have := HL2.out; omega), pickL, List.append_nil]
      have HPE := Lib.hid hpe; clear hpe
      have hRO : RowR cmR 8 wr P lO.length cp lO := RowR.of_els cmK (by omega) own1 rfl (hE.keep cmK hB)
      have hbO : ∀ m ∈ lO, cmB m := fun m hm => hb m (pick_mem (o := or_) m (by rw [HPE.out]; exact hm))
      have hlO2 : lO.length ≤ 1048576 := by omega
      have hpl := staPlay_impl lO P lO.length cp wr hRO hlO2 hbO
      clear hlO
      go_wp2_with fail
      refine hpl.mono ?_
      intro e w5 hout
      obtain ⟨B1, m1, d1, B2, m2, d2, f1, f2, Z, rfl, R1, R2, N, F, hb5⟩ := hout.out
      unfold staV
      clear hpl hout own1 hE hRO
      have BO5 := BO.keep hb5
      have hB5 := bthen hB hb5
      rw [HG.out] at hB5
      have hz5 := hb5.size
      have o0 := BO5.cell 0 _ rfl; have o1 := BO5.cell 1 _ rfl; have of := BO5.fz 0 (by simp); have og := BO5.fz 1 (by simp); have l5 := BO5.lt
      have hFF : ∀ b ∈ f1 ++ f2, g < b := fun b hb => by have h5 := F b hb; omega
      have hBx := BO5.setCells (vs := [.slice B1 m1 d1, .slice B2 m2 d2]) rfl
      have ala := (Below.refl (w5.setCells g 0 [.slice B1 m1 d1, .slice B2 m2 d2]).heap.size (w5.setCells g 0 [.slice B1 m1 d1, .slice B2 m2 d2])).alloc (Nat.le_refl _) (.cells #[.slice B1 m1 d1, .slice B2 m2 d2] 87)
      have hWr := (hBx.keep ala).range
      have HWR := Lib.hid hWr; have HAL := Lib.hid ala; clear hWr ala hBx
      go_wp2
      refine bodyPost_ret (results_one Try.results47 rfl HWR.out Try.underlying87 rfl sizeState0) rfl ?_
      unfold runL
      rw [HPE.out]
      exact run_out R1 R2 N hFF hB5 HG.out l5 HAL.out
end Go.Proofs.Ytdphdnllhmnelaa
