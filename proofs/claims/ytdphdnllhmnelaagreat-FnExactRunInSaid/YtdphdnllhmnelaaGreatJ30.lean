/- Contracts and lemmas: StatePlay, CatR, CreateS, PruneS. -/
import Derived.Test.YtdphdnllhmnelaaGreatJ29
import Derived.Test.YtdphdnllhmnelaaGreatJ26
/- The program's StatePlay. -/
namespace Go.Proofs.YtdphdnllhmnelaaGreat
open Go.RowKit
attribute [local go_sem] Grow.cell Grow.frozen
theorem txtInfo : (Tryz.prog.info? 9).map (fun i => (i.zero, i.size, i.bytes)) = some (some (.string ByteArray.empty), 1, 16) := by kernel_rfl
theorem StaOut.out {s : Sta × ByteArray} {w w' : World} {e : Ending} (h : StaOut s w e w') : ∃ B1 m1 d1 B2 m2 d2 f1 f2, e = .returned (.tuple #[staV s.1 (.slice B1 m1 d1) (.slice B2 m2 d2), .string s.2]) ∧ RowO cstF 165 2 f1 w' B1 m1 d1 s.1.cat.sets ∧ RowO saiF 114 3 f2 w' B2 m2 d2 s.1.said ∧ (f1 ++ f2).Nodup ∧ (∀ b ∈ f1 ++ f2, w.heap.size ≤ b) ∧ Below w.heap.size w w' := h
/-- what a play leaves -/
def PlayOut (s : Sta) (w : World) (e : Ending) (w' : World) : Prop :=
  ∃ B1 m1 d1 B2 m2 d2 f1 f2 Z, e = .returned (.tuple #[staV s (.slice B1 m1 d1) (.slice B2 m2 d2), Z]) ∧ RowO cstF 165 2 f1 w' B1 m1 d1 s.cat.sets ∧ RowO saiF 114 3 f2 w' B2 m2 d2 s.said ∧ (f1 ++ f2).Nodup ∧ (∀ b ∈ f1 ++ f2, w.heap.size ≤ b) ∧ Below w.heap.size w w'
theorem play_out {s : Sta} {w w5 : World} {B1 B2 : Option Addr} {m1 d1 m2 d2 g p : Nat} {f1 f2 : List Nat} {Z : Value} (R1 : RowO cstF 165 2 f1 w5 B1 m1 d1 s.cat.sets) (R2 : RowO saiF 114 3 f2 w5 B2 m2 d2 s.said) (hN : (f1 ++ f2).Nodup)
    (hF : ∀ b ∈ f1 ++ f2, g ≤ b ∧ b ≠ p) (hb : Below g w w5) (hg : w.heap.size = g) (hp : g ≤ p) (hp5 : p < w5.heap.size) : PlayOut s w (.returned (.tuple #[.agg #[.slice B1 m1 d1, .slice B2 m2 d2], Z])) (w5.setCells p 0 [.slice B1 m1 d1, .slice B2 m2 d2]) := by
  have hch := ch_setCells (g := p) [.slice B1 m1 d1, .slice B2 m2 d2] 0 w5
  subst hg
  exact ⟨B1, m1, d1, B2, m2, d2, f1, f2, Z, rfl, R1.ch cstK hch (fun b hb => (hF b (List.mem_append_left _ hb)).2), R2.ch saiK hch (fun b hb => (hF b (List.mem_append_right _ hb)).2), hN, fun b hb => (hF b hb).1, hch.belowB hb (by omega) (fun k hk => by have hk : k = p := hk; omega)⟩
theorem stPlay_take {l : List Cm} {k : Nat} {x : Cm} (s : Sta) (hx : l[k]? = some x) : stPlay s (l.take (k + 1)) = (stDo (stPlay s (l.take k)) x).1 := by rw [take_more hx, stPlay_snoc]
theorem cm_el {l : List Cm} {w : World} {n c b off i : Nat} (h : RowR cmR 8 w (some ⟨b, off, none⟩) n c l) (hi : i < n) : b < w.heap.size ∧ ∃ x A1 n1 c1, l[i]? = some x ∧ StrR w A1 n1 c1 x.ch ∧ w.rangeAt b (off + i * 8) [.int .i64 x.kd, .int .i64 x.cl, .int .i64 x.no, .string x.s, .string x.nm, .string x.tg, .int .i64 x.n, .slice A1 n1 c1] := by
  obtain ⟨bl, x, cs, hx, ⟨A1, n1, c1, rfl, hS⟩, hcell⟩ := h.elem_at hi
  exact ⟨bl, x, A1, n1, c1, hx, hS, hcell⟩
theorem blk_or {A A' : Option Addr} {n c n' c' m : Nat} (h : (Value.slice A' n' c').ownBlock = (Value.slice A n c).ownBlock ∨ (Value.slice A' n' c').ownBlock = some m) : ∀ b ∈ blkL A', b ∈ blkL A ∨ b = m := fun b hb => by
  have h1 := blk_own (n := n') (c := c') (mem_blkL.1 hb)
  rcases h with h2 | h2
  · exact .inl (mem_blkL.2 (blk_of (h2.symm.trans h1)))
  · exact .inr (Option.some.inj (h1.symm.trans h2))
theorem staO_read {f1 f2 : List Nat} {w : World} {B1 B2 : Option Addr} {m1 d1 m2 d2 : Nat} {l1 : List Cst} {l2 : List Sai} (R1 : RowO cstF 165 2 f1 w B1 m1 d1 l1) (R2 : RowO saiF 114 3 f2 w B2 m2 d2 l2) : RowR cstR 2 w B1 m1 d1 l1 ∧ RowR saiR 3 w B2 m2 d2 l2 := ⟨R1.at_ cstK (by omega), R2.at_ saiK (by omega)⟩
attribute [local irreducible] StrsAt StrR RowR RowO StaOut stPlay stDo StaBd PlayOut
set_option maxRecDepth 8000 in
set_option maxHeartbeats 8000000 in
theorem staPlay_impl (l : List Cm) (A : Option Addr) (n c : Nat) (w : World) (h : RowR cmR 8 w A n c l) (hn : n ≤ 1048576) (hb : ∀ m ∈ l, cmB m) :
    Calls Tryz.prog 37 #[.slice A n c] w (PlayOut (stPlay staNew l) w) := by
  have HL := Lib.hid h.len
  have al1 := (Below.refl w.heap.size w).alloc (Nat.le_refl _) (.cells #[.slice none 0 0, .slice none 0 0] 30)
  have al2 := al1.alloc al1.size (.cells #[.slice none 0 0, .slice none 0 0] 30)
  have al3 := al2.alloc al2.size (.cells #[] 9)
  have hz1 : (w.alloc (.cells #[.slice none 0 0, .slice none 0 0] 30)).heap.size = w.heap.size + 1 := Array.size_push _
  have hz2 : ((w.alloc (.cells #[.slice none 0 0, .slice none 0 0] 30)).alloc (.cells #[.slice none 0 0, .slice none 0 0] 30)).heap.size = w.heap.size + 2 := (Array.size_push _).trans (by rw [hz1])
  have BO := ((BoxL.new w [.slice none 0 0, .slice none 0 0] 30).keep ((Below.refl _ _).alloc (Nat.le_refl _) (.cells #[.slice none 0 0, .slice none 0 0] 30))).keep ((Below.refl _ _).alloc (Nat.le_refl _) (.cells #[] 9))
  have BS := (BoxL.new (w.alloc (.cells #[.slice none 0 0, .slice none 0 0] 30)) [.slice none 0 0, .slice none 0 0] 30).keep ((Below.refl _ _).alloc (Nat.le_refl _) (.cells #[] 9))
  have own0 := own_empty ((w.alloc (.cells #[.slice none 0 0, .slice none 0 0] 30)).alloc (.cells #[.slice none 0 0, .slice none 0 0] 30)) 9 1 (base := 0) (Nat.zero_le _)
  go_enter Tryz.func37, Tryz.ntmps37
  go_wp2_with fail
  obtain ⟨W, hWW⟩ : ∃ W, W = ((w.alloc (.cells #[.slice none 0 0, .slice none 0 0] 30)).alloc (.cells #[.slice none 0 0, .slice none 0 0] 30)).alloc (.cells #[] 9) := ⟨_, rfl⟩
  obtain ⟨g, hg⟩ : ∃ g, w.heap.size = g := ⟨_, rfl⟩
  rw [hz1] at BS
  rw [hz2] at own0
  have HG := Lib.hid hg
  rw [← hWW] at al3 BO BS own0 ⊢
  simp only [hg] at BO BS own0 ⊢
  clear hWW hg al1 al2 hz1 hz2
  have hWg : g + 2 < W.heap.size := by have := (own_lo own0 (g + 2) (by simp [blkL])).2; omega
  go_loopw [5, 14] (fun s i wr => ∃ (k : Nat) (Z : Option Addr) (cz : Nat) (xs : List Value) (B1 : Option Addr) (m1 d1 : Nat) (B2 : Option Addr) (m2 d2 : Nat) (f1 f2 : List Nat), k ≤ n ∧ i = .int .i64 k ∧ s = .slice Z k cz ∧ wr.ownsRow 0 9 1 (.slice Z k cz) k xs ∧ (∀ b ∈ blkL Z, g + 1 < b ∧ b < wr.heap.size ∧ b ∉ f1 ++ f2) ∧
      BoxL wr g [.slice none 0 0, .slice none 0 0] ∧ BoxL wr (g + 1) [.slice B1 m1 d1, .slice B2 m2 d2] ∧ RowO cstF 165 2 f1 wr B1 m1 d1 (stPlay staNew (l.take k)).cat.sets ∧ RowO saiF 114 3 f2 wr B2 m2 d2 (stPlay staNew (l.take k)).said ∧ (f1 ++ f2).Nodup ∧ (∀ b ∈ f1 ++ f2, g + 1 < b) ∧ Below g w wr ∧ W.heap.size ≤ wr.heap.size) (fun _ i _ => n - (intOf i).toNat)
  case atStart => exact ⟨0, _, _, [], none, 0, 0, none, 0, 0, [], [], Nat.zero_le _, rfl, rfl, own0, (fun b hb => by have hb2 : b = g + 2 := (by simpa [blkL] using hb); subst hb2; exact ⟨by omega, hWg, by simp⟩), BO, BS, (by rw [List.take_zero, stPlay]; exact RowO.nil), (by rw [List.take_zero, stPlay]; exact RowO.nil), List.nodup_nil, (fun b hb => by cases hb), (by rw [HG.out] at al3; exact al3), Nat.le_refl _⟩
  case round =>
    clear BO BS own0
    obtain ⟨k, Z, cz, xs, B1, m1, d1, B2, m2, d2, f1, f2, hk, rfl, rfl, own, hZ, BO, BS, R1, R2, hN, hF, hB, hz⟩ := hrel
    have hBw : Below w.heap.size w wr := by rw [HG.out]; exact hB
    have hR := h.keep cmK hBw
    have s0 := BS.cell 0 _ rfl
    have s1 := BS.cell 1 _ rfl
    have lg := BO.lt
    have lg1 := BS.lt
    by_cases hlt : k < n
    · obtain ⟨b, off, rfl⟩ := hR.head (by omega)
      obtain ⟨bl, m, C1, q1, e1, hm, hmc, hcr⟩ := cm_el hR hlt
      have HT := Lib.hid (stPlay_take staNew hm)
      have hmB := hb m (List.mem_of_getElem? hm)
      have r0 : wr.cell? ⟨b, off + k * 8, none⟩ = some (.int .i64 m.kd) := hcr 0 _ rfl
      have r1 : wr.cell? ⟨b, off + k * 8 + 1, none⟩ = some (.int .i64 m.cl) := hcr 1 _ rfl
      have r2 : wr.cell? ⟨b, off + k * 8 + 2, none⟩ = some (.int .i64 m.no) := hcr 2 _ rfl
      have r3 : wr.cell? ⟨b, off + k * 8 + 3, none⟩ = some (.string m.s) := hcr 3 _ rfl
      have r4 : wr.cell? ⟨b, off + k * 8 + 4, none⟩ = some (.string m.nm) := hcr 4 _ rfl
      have r5 : wr.cell? ⟨b, off + k * 8 + 5, none⟩ = some (.string m.tg) := hcr 5 _ rfl
      have r6 : wr.cell? ⟨b, off + k * 8 + 6, none⟩ = some (.int .i64 m.n) := hcr 6 _ rfl
      have r7 : wr.cell? ⟨b, off + k * 8 + 7, none⟩ = some (.slice C1 q1 e1) := hcr 7 _ rfl
      have aly := (Below.refl wr.heap.size wr).alloc (Nat.le_refl _) (.cells #[.int .i64 m.kd, .int .i64 m.cl, .int .i64 m.no, .string m.s, .string m.nm, .string m.tg, .int .i64 m.n, .slice C1 q1 e1] 48)
      have RR := staO_read (R1.keep cstK aly) (R2.keep saiK aly)
      have hbd : StaBd (stPlay staNew (l.take k)) := stPlay_bd _ staBd_nil
      clear hm hcr
      go_wp2_with fail
      have hdo := staDo_impl (stPlay staNew (l.take k)) m B1 m1 d1 B2 m2 d2 C1 q1 e1 _ RR.1 RR.2 hbd (hmc.keep aly) hmB
      unfold staV cmV at hdo
      refine hdo.mono ?_
      intro e w5 hout
      obtain ⟨E1, j1, k1, E2, j2, k2, h1', h2', rfl, R1', R2', N', F', hb5⟩ := hout.out
      unfold staV
      clear hdo hout RR r0 r1 r2 r3 r4 r5 r6 r7 s0 s1
      have hb6 := bthen aly hb5
      have hsz := aly.size
      have hz5 := hb6.size
      have BO5 := BO.keep hb6; have BS5 := BS.keep hb6
      have own5 := own_chL own (Ch.of_below (S := fun _ => False) hb6) (fun _ _ h => h)
      have hB5 : Below g w w5 := hB.trans (hb6.mono (show g ≤ wr.heap.size by omega))
      have hZ5 : ∀ b ∈ blkL Z, g + 1 < b ∧ b < w5.heap.size ∧ b ∉ h1' ++ h2' := fun b hb => by have h5 := hZ b hb; exact ⟨h5.1, by omega, fun h6 => by have h7 := F' b h6; omega⟩
      have FF : ∀ b ∈ h1' ++ h2', g + 1 < b := fun b hb => by have h5 := F' b hb; omega
      clear own hZ BO BS R1 R2 hN hF hB hR aly hb5 hb6 F' hmc
      have cs := ch_setCells (g := g + 1) [.slice E1 j1 k1, .slice E2 j2 k2] 0 w5
      have al := (Below.refl (w5.setCells (g + 1) 0 [.slice E1 j1 k1, .slice E2 j2 k2]).heap.size (w5.setCells (g + 1) 0 [.slice E1 j1 k1, .slice E2 j2 k2])).alloc (Nat.le_refl _) (.cells #[.slice E1 j1 k1, .slice E2 j2 k2] 30)
      have hne : ∀ b ∈ h1' ++ h2', ¬ b = g + 1 := fun b hb => by have h5 := FF b hb; omega
      have BO6 := (BO5.ch cs (by omega)).keep al
      have BS6 := (BS5.setCells (vs := [.slice E1 j1 k1, .slice E2 j2 k2]) rfl).keep al
      have R16 := (R1'.ch cstK cs (fun b hb => hne b (List.mem_append_left _ hb))).keep cstK al
      have R26 := (R2'.ch saiK cs (fun b hb => hne b (List.mem_append_right _ hb))).keep saiK al
      have own6 : (((w5.setCell ⟨g + 1, 0, none⟩ (.slice E1 j1 k1)).setCell ⟨g + 1, 1, none⟩ (.slice E2 j2 k2)).alloc (.cells #[.slice E1 j1 k1, .slice E2 j2 k2] 30)).ownsRow 0 9 1 (.slice Z k cz) k xs :=
        own_chL (own_chL own5 cs (fun b hb e => by have h5 := hZ5 b hb; have e : b = g + 1 := e; omega)) (Ch.of_below (S := fun _ => False) al) (fun _ _ h => h)
      have hB6 : Below g w _ := (cs.belowB hB5 (by omega) (fun b hb => by have hb : b = g + 1 := hb; omega)).trans (al.mono (show g ≤ (w5.setCells (g + 1) 0 [.slice E1 j1 k1, .slice E2 j2 k2]).heap.size by have := cs.size; omega))
      have hzs := cs.size
      have hza := al.size
      have s0 := BS5.cell 0 _ rfl
      have s1 := BS5.cell 1 _ rfl
      have sf := BS5.fz 0 (by simp)
      have sg := BS5.fz 1 (by simp)
      have lg := BS5.lt
      clear bl
      go_wp2_with (first | (at_builtin; refine wpList_app1g (P := Tryz.prog) _ rfl (.tmp 25) (.tmp 27) 46 rfl 0 9 _ 1 16 Tryz.underlying46 txtInfo rfl (by omega) (.slice Z k cz) _ _ rfl own6 _ _ rfl (by simp) rfl (by simp [Value.oneCell']) (by unfold maxLen; omega) (by omega) (Nat.zero_le _) ?_; intro Z' cz' w7 own7 hg7 hb7 hob7; refine stop_of ?_) | fail)
      unfold Stop
      have C7 : Ch (fun b => b ∈ blkL Z) _ w7 := (Ch.of_grow hg7).mono (fun b hb => mem_blkL.2 (blk_of hb))
      have hz7 := C7.size
      have BO7 := BO6.ch C7 (fun h6 => by have h5 := hZ5 _ h6; omega)
      have BS7 := BS6.ch C7 (fun h6 => by have h5 := hZ5 _ h6; omega)
      have R17 := R16.ch cstK C7 (fun b hb h6 => (hZ5 b h6).2.2 (List.mem_append_left _ hb))
      have R27 := R26.ch saiK C7 (fun b hb h6 => (hZ5 b h6).2.2 (List.mem_append_right _ hb))
      have hza' : w5.heap.size ≤ (((w5.setCell ⟨g + 1, 0, none⟩ (.slice E1 j1 k1)).setCell ⟨g + 1, 1, none⟩ (.slice E2 j2 k2)).alloc (.cells #[.slice E1 j1 k1, .slice E2 j2 k2] 30)).heap.size := Nat.le_trans hzs hza
      have hbk := blk_or hob7
      have hB7 : Below g w w7 := C7.belowB hB6 (by omega) (fun b hb => by have h5 := hZ5 b hb; omega)
      have hl1 := R1'.lt cstK
      have hl2 := R2'.lt saiK
      have hZ7 : ∀ b ∈ blkL Z', g + 1 < b ∧ b < w7.heap.size ∧ b ∉ h1' ++ h2' := fun b hb => by
        have h6 := (own_lo own7 b hb).2
        rcases hbk b hb with h7 | h7
        · have h5 := hZ5 b h7; exact ⟨h5.1, h6, h5.2.2⟩
        · refine ⟨by omega, h6, fun h8 => ?_⟩
          rcases List.mem_append.1 h8 with h9 | h9
          · have := hl1 b h9; omega
          · have := hl2 b h9; omega
      rw [← HT.out] at R17 R27
      clear s0 s1 sf sg lg lg1 own5 own6 BO5 BS5 BO6 BS6 R16 R26 R1' R2' C7 hg7 hb7 hob7 hbk hl1 hl2
      go_wp2
      exact ⟨⟨k + 1, Z', cz', _, E1, j1, k1, E2, j2, k2, h1', h2', by omega, by go_num, rfl, own7, hZ7, BO7, BS7, R17, R27, N', FF, hB7, by omega⟩, by simp [intOf]; omega⟩
    · have hkn : k = n := by omega
      subst hkn
      have e1 : l.take k = l := by rw [List.take_of_length_le (by have := HL.out; omega)]
      rw [e1] at R1 R2
      have o0 := BO.cell 0 _ rfl
      have o1 := BO.cell 1 _ rfl
      have of := BO.fz 0 (by simp)
      have og := BO.fz 1 (by simp)
      have hWr := (BO.setCells (vs := [.slice B1 m1 d1, .slice B2 m2 d2]) rfl).range
      go_wp2
      refine bodyPost_ret (results_cell_tmp Tryz.results37 rfl hWr Tryz.underlying30 rfl sizeState0) rfl ?_
      exact play_out (g := g) (p := g) R1 R2 hN (fun b hb => by have h5 := hF b hb; omega) hB HG.out (Nat.le_refl _) lg
end Go.Proofs.YtdphdnllhmnelaaGreat
/- Plain laws: the reference's create and prune make what the program's make. -/
namespace Go.Proofs.YtdphdnllhmnelaaGreat
open Go.RowKit
/-- a set put in, as the reference goes -/
def insF : List Cst → ByteArray → Bool → List Cst
  | [], nm, put => if put then [] else [⟨nm, []⟩]
  | s :: l, nm, put => if put = false ∧ sLt s.nm nm = false then ⟨nm, []⟩ :: s :: insF l nm true else s :: insF l nm put
theorem insF_drop {l : List Cst} {k : Nat} {s : Cst} (nm : ByteArray) (put : Bool) (hs : l[k]? = some s) :
    insF (l.drop k) nm put = if put = false ∧ sLt s.nm nm = false then ⟨nm, []⟩ :: s :: insF (l.drop (k + 1)) nm true else s :: insF (l.drop (k + 1)) nm put := by
  obtain ⟨hk, rfl⟩ := List.getElem?_eq_some_iff.1 hs
  rw [List.drop_eq_getElem_cons hk, insF]
theorem insF_end {l : List Cst} {k : Nat} (nm : ByteArray) (put : Bool) (hk : l.length ≤ k) : insF (l.drop k) nm put = if put then [] else [⟨nm, []⟩] := by
  rw [List.drop_eq_nil_of_le hk, insF]
theorem insF_true (nm : ByteArray) : ∀ l : List Cst, insF l nm true = l
  | [] => rfl
  | s :: l => by unfold insF; rw [if_neg (by simp), insF_true nm l]
theorem insF_ins (nm : ByteArray) : ∀ l : List Cst, insF l nm false = insS l nm
  | [] => rfl
  | s :: l => by
    unfold insF insS atS
    cases h : sLt s.nm nm
    · rw [if_pos ⟨rfl, rfl⟩, if_neg (by simp), insF_true]; rfl
    · rw [if_neg (by simp), if_pos rfl, insF_ins nm l]; rfl
/-- the snapshots that stay, as the reference goes: bare are still to come -/
def pruF : List Snp → Int → Int → List Snp
  | [], _, _ => []
  | p :: l, b, n => if p.tg = ByteArray.empty then (if n ≤ b - 1 then pruF l (b - 1) n else p :: pruF l (b - 1) n) else p :: pruF l b n
theorem pruF_drop {l : List Snp} {k : Nat} {p : Snp} (b n : Int) (hp : l[k]? = some p) :
    pruF (l.drop k) b n = if p.tg = ByteArray.empty then (if n ≤ b - 1 then pruF (l.drop (k + 1)) (b - 1) n else p :: pruF (l.drop (k + 1)) (b - 1) n) else p :: pruF (l.drop (k + 1)) b n := by
  obtain ⟨hk, rfl⟩ := List.getElem?_eq_some_iff.1 hp
  rw [List.drop_eq_getElem_cons hk, pruF]
theorem pruF_end {l : List Snp} {k : Nat} (b n : Int) (hk : l.length ≤ k) : pruF (l.drop k) b n = [] := by
  rw [List.drop_eq_nil_of_le hk, pruF]
theorem pruF_pru (n : Int) : ∀ (l : List Snp) (b : Int), pruF l b n = pruL l (b - n).toNat
  | [], b => rfl
  | p :: l, b => by
    unfold pruF pruL
    by_cases ht : p.tg = ByteArray.empty
    · rw [if_pos ht]
      by_cases hn : n ≤ b - 1
      · rw [if_pos hn, if_pos ⟨ht, by omega⟩, pruF_pru n l]
        congr 1; omega
      · rw [if_neg hn, if_neg (by omega), pruF_pru n l]
        congr 2; omega
    · rw [if_neg ht, if_neg (fun h => ht h.1), pruF_pru n l]
/-- snapshots without a tag -/
def bareL : List Snp → Nat
  | [] => 0
  | p :: l => bareL l + if p.tg = ByteArray.empty then 1 else 0
theorem pruL_len : ∀ (l : List Snp) (g : Nat), (pruL l g).length = l.length - min g (bareL l)
  | [], g => by simp [pruL]
  | p :: l, g => by
    have hb : ∀ l : List Snp, bareL l ≤ l.length := fun l => by
      induction l with
      | nil => exact Nat.le_refl _
      | cons a l ih => unfold bareL; simp only [List.length_cons]; split <;> omega
    have h1 := hb l
    unfold pruL bareL
    by_cases ht : p.tg = ByteArray.empty
    · rw [if_pos ht]
      by_cases hg : 0 < g
      · rw [if_pos ⟨ht, hg⟩, pruL_len l]; simp only [List.length_cons]; omega
      · rw [if_neg (by omega), List.length_cons, pruL_len l]; simp only [List.length_cons]; omega
    · rw [if_neg (fun h => ht h.1), if_neg ht, List.length_cons, pruL_len l]; simp only [List.length_cons]; omega
theorem bareTo_app (a b : List Snp) : ∀ k, k ≤ a.length → bareTo (a ++ b) k = bareTo a k
  | 0, _ => rfl
  | k + 1, hk => by
    unfold bareTo
    rw [bareTo_app a b k (by omega), snpAt_of (show (a ++ b)[k]? = some a[k] by rw [List.getElem?_append_left (by omega)]; exact List.getElem?_eq_getElem (by omega)), snpAt_of (List.getElem?_eq_getElem (show k < a.length by omega))]
theorem bareL_snoc (p : Snp) : ∀ l : List Snp, bareL (l ++ [p]) = bareL l + if p.tg = ByteArray.empty then 1 else 0
  | [] => by simp [bareL]
  | q :: l => by simp only [List.cons_append, bareL, bareL_snoc p l]; omega
theorem bareTo_take (l : List Snp) : ∀ k, k ≤ l.length → bareTo l k = bareL (l.take k)
  | 0, _ => rfl
  | k + 1, hk => by
    have hx := List.getElem?_eq_getElem (show k < l.length by omega)
    rw [bareTo_succ hx, bareTo_take l k (by omega), take_more hx, bareL_snoc]
theorem bareTo_all (l : List Snp) : bareTo l l.length = bareL l := by rw [bareTo_take l _ (Nat.le_refl _), List.take_length]
/-- how many go: what is lacking -/
theorem prune_len (l : List Snp) (n : Int) (hn : 0 ≤ n) : pruF l (bareTo l l.length : Nat) n = pruL l (goneN l n.toNat) ∧ (l.length : Int) - ((pruL l (goneN l n.toNat)).length : Int) = (goneN l n.toNat : Nat) := by
  have hb := bareTo_le l l.length
  refine ⟨?_, ?_⟩
  · rw [pruF_pru]; unfold goneN; congr 1; omega
  · rw [pruL_len, ← bareTo_all]; unfold goneN; omega
end Go.Proofs.YtdphdnllhmnelaaGreat
/- The reference's create on a catalog of its own. -/
namespace Go.Proofs.YtdphdnllhmnelaaGreat
open Go.RowKit
attribute [local go_sem] Grow.cell Grow.frozen
/-- what a call on a catalog of its own leaves -/
def CatOut (l : List Cst) (t : ByteArray) (B : Nat) (w : World) (e : Ending) (w' : World) : Prop :=
  ∃ A' n' c' fq', e = .returned (.tuple #[.agg #[.slice A' n' c'], .string t]) ∧ RowO cstF 165 2 fq' w' A' n' c' l ∧ fq'.Nodup ∧ (∀ t ∈ fq', B ≤ t) ∧ Below B w w'
theorem CatOut.mk' {l : List Cst} {t : ByteArray} {fq' : List Nat} {B : Nat} {w w' : World} {A : Option Addr} {n c : Nat} (h1 : RowO cstF 165 2 fq' w' A n c l) (h2 : fq'.Nodup) (h3 : ∀ t ∈ fq', B ≤ t) (h4 : Below B w w') :
    CatOut l t B w (.returned (.tuple #[.agg #[.slice A n c], .string t])) w' := ⟨A, n, c, fq', rfl, h1, h2, h3, h4⟩
theorem fps_next {fps : List (List Nat)} {k : Nat} {f : List Nat} (h : fps[k]? = some f) : (fps.take (k + 1)).flatten = (fps.take k).flatten ++ f := by rw [take_more h]; simp
theorem cst_get {css : List (List Value)} {fps : List (List Nat)} {w w' : World} {l : List Cst} {A : Option Addr} {n c k : Nat} (own : w.ownsRow 0 165 2 (.slice A n c) n css.flatten) (hl : n = l.length) (E : Els cstF w css fps l) (hk : k < n) (hb : Below w.heap.size w w') :
    ∃ qb s Q qn qc f, A = some ⟨qb, 0, none⟩ ∧ qb < w.heap.size ∧ l[k]? = some s ∧ fps[k]? = some f ∧ cstF f w [.string s.nm, .slice Q qn qc] s ∧ w'.cell? ⟨qb, k * 2, none⟩ = some (.string s.nm) ∧ w'.cell? ⟨qb, k * 2 + 1, none⟩ = some (.slice Q qn qc) := by
  have hs := List.getElem?_eq_getElem (show k < l.length by omega)
  obtain ⟨cs, f, h1, h2, h3⟩ := E.get hs
  have h3' := h3
  obtain ⟨Q, qn, qc, f', rfl, rfl, S⟩ := h3'
  rcases own_form own with ⟨_, h0, _⟩ | ⟨g, rfl, _, hg⟩
  · omega
  · have c0 := own.cells (g := g) rfl (k * 2) (.string l[k].nm) (by have := flat_get (E.clen cstK) h1 (j := 0) (by omega); rw [Nat.add_zero] at this; rw [this]; rfl)
    have c1 := own.cells (g := g) rfl (k * 2 + 1) (.slice Q qn qc) (by rw [flat_get (E.clen cstK) h1 (j := 1) (by omega)]; rfl)
    rw [Addr.add_lit] at c0 c1
    exact ⟨g, l[k], Q, qn, qc, f, rfl, hg, hs, h2, h3, keep_cell hb (by simpa using c0), keep_cell hb (by simpa using c1)⟩
theorem blk_or' {A A' : Option Addr} {n c n' c' m : Nat} (h : (Value.slice A' n' c').ownBlock = (Value.slice A n c).ownBlock ∨ (Value.slice A' n' c').ownBlock = some m) : ∀ b ∈ blkL A', b ∈ blkL A ∨ b = m := fun b hb => by
  have h1 := blk_own (n := n') (c := c') (mem_blkL.1 hb)
  rcases h with h2 | h2
  · exact .inl (mem_blkL.2 (blk_of (h2.symm.trans h1)))
  · exact .inr (Option.some.inj (h1.symm.trans h2))
theorem str_neq {a b : ByteArray} (h : a ≠ b) : (a.toList == b.toList) = false := by
  rw [beq_eq_false_iff_ne]
  intro e
  rw [Lib.toList_data, Lib.toList_data] at e
  apply h
  cases a; cases b
  simp only [ByteArray.mk.injEq]
  exact Array.toList_inj.1 e
/-- what create makes of the sets, and its answer -/
def crL (l : List Cst) (nm : ByteArray) : List Cst := if 0 ≤ cstFnd l 0 nm then l else if l.length = 5 then l else insS l nm
def crT (l : List Cst) (nm : ByteArray) : ByteArray := if 0 ≤ cstFnd l 0 nm then exT else if l.length = 5 then fuT else okT
theorem cr_ex {l : List Cst} {nm : ByteArray} (h : 0 ≤ cstFnd l 0 nm) : crL l nm = l ∧ crT l nm = exT := by unfold crL crT; rw [if_pos h, if_pos h]; exact ⟨rfl, rfl⟩
theorem cr_fu {l : List Cst} {nm : ByteArray} (h : ¬ 0 ≤ cstFnd l 0 nm) (h5 : l.length = 5) : crL l nm = l ∧ crT l nm = fuT := by unfold crL crT; rw [if_neg h, if_neg h, if_pos h5, if_pos h5]; exact ⟨rfl, rfl⟩
theorem cr_ok {l : List Cst} {nm : ByteArray} (h : ¬ 0 ≤ cstFnd l 0 nm) (h5 : ¬ l.length = 5) : crL l nm = insF l nm false ∧ crT l nm = okT := by unfold crL crT; rw [if_neg h, if_neg h, if_neg h5, if_neg h5, insF_ins]; exact ⟨rfl, rfl⟩
theorem cr_end {A P : Option Addr} {m cp B : Nat} {w w' : World} {fq : List Nat} {fps fp1 : List (List Nat)} {cs1 : List (List Value)} {lO : List Cst} (hfq : fq = blkL A ++ fps.flatten) (hN : fq.Nodup) (hFB : ∀ t ∈ fq, B ≤ t) (hBw : B ≤ w.heap.size) (hnq : ∀ t ∈ fq, t < w.heap.size)
    (E : Els cstF w cs1 fp1 lO) (hfl : fp1.flatten = fps.flatten) (own : w'.ownsRow 0 165 2 (.slice P m cp) m cs1.flatten) (hm : m = lO.length) (hP : ∀ b ∈ blkL P, w.heap.size ≤ b) (hb : Below w.heap.size w w') :
    RowO cstF 165 2 (blkL P ++ fp1.flatten) w' P m cp lO ∧ (blkL P ++ fp1.flatten).Nodup ∧ (∀ t ∈ blkL P ++ fp1.flatten, B ≤ t) ∧ Below B w w' := by
  subst hfq
  have hN2 := (List.nodup_append.1 hN).2.1
  refine ⟨RowO.intro own hm (E.keep cstK hb), List.nodup_append.2 ⟨by cases P <;> simp [blkL], by rw [hfl]; exact hN2, fun a ha b hb e => ?_⟩, fun t ht => ?_, hb.mono hBw⟩
  · rw [hfl] at hb
    have h1 := hP a ha
    have h2 := hnq b (List.mem_append_right _ hb)
    omega
  · rcases List.mem_append.1 ht with h | h
    · exact Nat.le_trans hBw (hP t h)
    · rw [hfl] at h; exact hFB t (List.mem_append_right _ h)
attribute [local irreducible] StrsAt StrR StrO RowR RowO cstFnd sLt insF CatOut crL crT
set_option maxRecDepth 8000 in
set_option maxHeartbeats 8000000 in
theorem create_spec (x : Ctl) (nm : ByteArray) (A : Option Addr) (n c : Nat) (fq : List Nat) (w : World) (hA : RowO cstF 165 2 fq w A n c x.sets) (hN : fq.Nodup) (hn : n ≤ 5) (B : Nat) (hBw : B ≤ w.heap.size) (hFB : ∀ t ∈ fq, B ≤ t) :
    Calls Tryz.prog 165 #[ctlV x (.slice A n c), .string nm] w (CatOut (crL x.sets nm) (crT x.sets nm) B w) := by
  have HL := Lib.hid hA.len
  have hnq2 := hA.lt cstK
  have hNew : cstF [] w [.string nm, .slice none 0 0] ⟨nm, []⟩ := ⟨none, 0, 0, [], rfl, rfl, RowO.nil⟩
  have hnq : ∀ t ∈ fq, t < w.heap.size := hA.lt cstK
  have al1 := (Below.refl w.heap.size w).alloc (Nat.le_refl _) (.cells #[.slice A n c] 27)
  have al2 := al1.alloc al1.size (.cells #[.slice none 0 0] 27)
  have BX := (BoxL.new w [.slice A n c] 27).keep ((Below.refl _ _).alloc (Nat.le_refl _) (.cells #[.slice none 0 0] 27))
  have BO := BoxL.new (w.alloc (.cells #[.slice A n c] 27)) [.slice none 0 0] 27
  have hz1 : (w.alloc (.cells #[.slice A n c] 27)).heap.size = w.heap.size + 1 := Array.size_push _
  unfold ctlV
  go_enter Tryz.func165, Tryz.ntmps165
  go_wp2_with fail
  obtain ⟨W, hWW⟩ : ∃ W, W = (w.alloc (.cells #[.slice A n c] 27)).alloc (.cells #[.slice none 0 0] 27) := ⟨_, rfl⟩
  obtain ⟨g, hg⟩ : ∃ g, w.heap.size = g := ⟨_, rfl⟩
  rw [hz1] at BO
  have HG := Lib.hid hg
  rw [← hWW] at al2 BX BO ⊢
  simp only [hg] at BX BO hnq ⊢
  clear hWW hg al1 hz1
  have hfo := cstFnd_spec x nm A n c W ((hA.keep cstK al2).at_ cstK (by omega)) (by omega)
  unfold ctlV at hfo
  refine hfo.mono ?_
  rintro e w1 ⟨rfl, hb1⟩
  clear hfo
  have BX1 := BX.keep hb1; have BO1 := BO.keep hb1
  have hB1 := bthen al2 hb1
  clear BX BO al2 hb1
  obtain ⟨t, ht⟩ : ∃ t, cstFnd x.sets 0 nm = t := ⟨_, rfl⟩
  have T := Lib.hid ht
  simp only [ht]
  clear ht
  have o0 := BO1.cell 0 _ rfl
  have of := BO1.fz 0 (by simp)
  have x0 := BX1.cell 0 _ rfl
  have xf := BX1.fz 0 (by simp)
  have lg := BX1.lt
  have lo := BO1.lt
  have A1 := hA.keep cstK hB1
  have hBB : Below B w w1 := hB1.mono hBw
  by_cases ht0 : 0 ≤ t
  · have gd : decide (t ≥ 0) = true := decide_eq_true ht0
    have hcs := Ch.set (w := w1) (g := g + 1) (o := 0) (v := .slice A n c)
    have hWr := (BO1.set (v := .slice A n c) (j := 0) (by simp)).range
    simp only [List.set_cons_zero] at hWr
    have HT0 := Lib.hid ht0
    go_wp2
    refine bodyPost_ret (results_cell_tmp Tryz.results165 rfl hWr Tryz.underlying27 rfl sizeCat0) rfl ?_
    obtain ⟨r1, r2⟩ := cr_ex (l := x.sets) (nm := nm) (by rw [T.out]; exact HT0.out)
    rw [r1, r2]
    exact CatOut.mk' (A1.ch cstK hcs (fun b hb e => by have e : b = g + 1 := e; have := hnq b hb; omega)) hN hFB (hcs.belowB hBB (by have := hB1.size; omega) (fun k hk => by have hk : k = g + 1 := hk; have := HG.out; omega))
  have gd : decide (t ≥ 0) = false := decide_eq_false ht0
  have HT0 := Lib.hid ht0
  by_cases h5 : n = 5
  · have g5 : decide ((n : Int) ≥ 5) = true := decide_eq_true (by omega)
    have hcs := Ch.set (w := w1) (g := g + 1) (o := 0) (v := .slice A n c)
    have hWr := (BO1.set (v := .slice A n c) (j := 0) (by simp)).range
    simp only [List.set_cons_zero] at hWr
    have h55 : x.sets.length = 5 := by have := HL.out; omega
    have H55 := Lib.hid h55
    clear h5 h55
    go_wp2
    refine bodyPost_ret (results_cell_tmp Tryz.results165 rfl hWr Tryz.underlying27 rfl sizeCat0) rfl ?_
    obtain ⟨r1, r2⟩ := cr_fu (l := x.sets) (nm := nm) (by rw [T.out]; have := HT0.out; omega) H55.out
    rw [r1, r2]
    exact CatOut.mk' (A1.ch cstK hcs (fun b hb e => by have e : b = g + 1 := e; have := hnq b hb; omega)) hN hFB (hcs.belowB hBB (by have := hB1.size; omega) (fun k hk => by have hk : k = g + 1 := hk; have := HG.out; omega))
  have g5 : decide ((n : Int) ≥ 5) = false := decide_eq_false (by omega)
  have h55 : ¬ x.sets.length = 5 := by have := HL.out; omega
  have H55 := Lib.hid h55
  clear h5 h55
  have hnf : ∀ s ∈ x.sets, s.nm ≠ nm := by
    rcases cstFnd_in nm x.sets 0 with ⟨_, h⟩ | ⟨j, _, h, _⟩
    · exact h
    · rw [T.out] at h; omega
  obtain ⟨css, fps, hfq, own, hl, E⟩ := hA.ex
  have HFQ := Lib.hid hfq; clear hfq
  have HLE := Lib.hid hl; clear hl
  have own0 := own_empty w1 165 2 (base := 0) (Nat.zero_le _)
  have alq := (Below.refl w1.heap.size w1).alloc (Nat.le_refl _) (.cells #[] 165)
  have hle1 := hB1.size
  go_wp2_with fail
  go_loopw [6, 7, 8] (fun s p i wr => ∃ (k : Nat) (b : Bool) (P : Option Addr) (cp : Nat) (cs1 : List (List Value)) (fp1 : List (List Nat)) (lO : List Cst), k ≤ n ∧ i = .int .i64 k ∧ p = .bool b ∧ s = .slice P lO.length cp ∧ lO.length ≤ 2 * k ∧ wr.ownsRow 0 165 2 (.slice P lO.length cp) lO.length cs1.flatten ∧ (∀ b ∈ blkL P, w1.heap.size ≤ b) ∧
      Els cstF w cs1 fp1 lO ∧ fp1.flatten = (fps.take k).flatten ∧ insF x.sets nm false = lO ++ insF (x.sets.drop k) nm b ∧ Below w1.heap.size w1 wr) (fun _ _ i _ => n - (intOf i).toNat)
  case atStart => exact ⟨0, false, _, _, [], [], [], Nat.zero_le _, rfl, rfl, rfl, Nat.le_refl _, own0, (fun b hb => by have hb2 : b = w1.heap.size := (by simpa [blkL] using hb); omega), trivial, rfl, rfl, alq⟩
  case round =>
    obtain ⟨k, b, P, cp, cs1, fp1, lO, hk, rfl, rfl, rfl, hlO, own1, hP, E1, hfl, hins, hbr⟩ := hrel
    have BXr := BX1.keep hbr; have BOr := BO1.keep hbr
    have hBr := bthen hB1 hbr
    have x0r := BXr.cell 0 _ rfl
    have xfr := BXr.fz 0 (by simp)
    have lgr := BXr.lt
    have HI := Lib.hid hins; clear hins
    have HFL := Lib.hid hfl; clear hfl
    by_cases hlt : k < n
    · obtain ⟨qb, s, Q, qn, qc, f, rfl, hqb, hs, hf, hF, c0, c1⟩ := cst_get own HLE.out E hlt hBr
      have hsn := hnf s (List.mem_of_getElem? hs)
      have hne := str_neq hsn
      have hqw1 : qb < w1.heap.size := by omega
      have HD := Lib.hid (insF_drop nm b hs)
      have HN2 := Lib.hid (fps_next hf)
      have HO := Lib.hid hlO; clear hlO
      have hlO3 : lO.length ≤ 2 * n := by have := HO.out; omega
      clear hs hf hsn
      obtain ⟨u, hu⟩ : ∃ u, Op.bytesLess s.nm.toList nm.toList = u := ⟨_, rfl⟩
      have HU := Lib.hid (show sLt s.nm nm = u by unfold sLt; exact hu)
      have hcap : lO.length ≤ 20 := by omega
      by_cases hnew : b = false ∧ u = false
      · obtain ⟨rfl, rfl⟩ := hnew
        have HJ := Lib.hid (show insF x.sets nm false = ((lO ++ [⟨nm, []⟩]) ++ [s]) ++ insF (x.sets.drop (k + 1)) nm true by rw [HI.out, HD.out, if_pos ⟨rfl, HU.out⟩]; simp)
        go_wp2_with (first | (at_builtin; refine wpList_app1g (P := Tryz.prog) _ rfl (.tmp 39) (.tmp 42) 25 rfl 0 165 _ 2 40 Tryz.underlying25 cstInfo rfl (by omega) (.slice P lO.length cp) _ _ rfl own1 _ _ rfl (by simp) rfl (by simp [Value.oneCell']) (by unfold maxLen; omega) (by omega) (Nat.zero_le _) ?_; intro P2 cp2 w2 own2 hg2 hb2 hob2; refine stop_of ?_) | fail)
        unfold Stop
        have C2 : Ch (fun b => w1.heap.size ≤ b) wr w2 := (Ch.of_grow hg2).mono (fun b hb => hP b (mem_blkL.2 (blk_of hb)))
        have hB2 : Below w1.heap.size w1 w2 := C2.belowB hbr hbr.size (fun b hb => hb)
        have hP2 : ∀ b ∈ blkL P2, w1.heap.size ≤ b := fun b hb => by rcases blk_or' hob2 b hb with h | h; (exact hP b h); (have := hbr.size; omega)
        have BX2 := BX1.keep hB2
        have x02 := BX2.cell 0 _ rfl; have xf2 := BX2.fz 0 (by simp); have lg2 := BX2.lt
        have c02 := (hB2.cell (p := ⟨qb, k * 2, none⟩) hqw1).trans ((hbr.cell (p := ⟨qb, k * 2, none⟩) hqw1).symm.trans c0)
        have c12 := (hB2.cell (p := ⟨qb, k * 2 + 1, none⟩) hqw1).trans ((hbr.cell (p := ⟨qb, k * 2 + 1, none⟩) hqw1).symm.trans c1)
        have hqb2 := cell_lt c02
        clear c0 c1 x0r xfr lgr BXr BOr
        go_wp2_with (first | (at_builtin; refine wpList_app1g (P := Tryz.prog) _ rfl (.tmp 44) (.tmp 50) 25 rfl 0 165 _ 2 40 Tryz.underlying25 cstInfo rfl (by omega) (.slice P2 (lO.length + 1) cp2) _ _ rfl own2 _ _ rfl (by simp) rfl (by simp [Value.oneCell']) (by unfold maxLen; omega) (by omega) (Nat.zero_le _) ?_; intro P3 cp3 w3 own3 hg3 hb3 hob3; refine stop_of ?_) | fail)
        unfold Stop
        have C3 : Ch (fun b => w1.heap.size ≤ b) w2 w3 := (Ch.of_grow hg3).mono (fun b hb => hP2 b (mem_blkL.2 (blk_of hb)))
        have hB3 : Below w1.heap.size w1 w3 := C3.belowB hB2 hB2.size (fun b hb => hb)
        have hP3 : ∀ b ∈ blkL P3, w1.heap.size ≤ b := fun b hb => by rcases blk_or' hob3 b hb with h | h; (exact hP2 b h); (have := hB2.size; omega)
        have HOK := Lib.hid (And.intro hP3 hB3); clear hP3 hB3 C3 hg3 hb3 hob3
        go_wp2
        exact ⟨⟨k + 1, true, P3, cp3, _, _, ((lO ++ [⟨nm, []⟩]) ++ [s]), by omega, by go_num, rfl, by simp, by have := HO.out; simp; omega, by simpa using own3, HOK.out.1, ((E1.app (Els.one (show cstF [] w [.string nm, .slice none 0 0] ⟨nm, []⟩ from hNew))).app (Els.one hF)), by rw [HN2.out, ← HFL.out]; simp, HJ.out, HOK.out.2⟩, by simp [intOf]; omega⟩
      · have HJ := Lib.hid (show insF x.sets nm false = (lO ++ [s]) ++ insF (x.sets.drop (k + 1)) nm b by rw [HI.out, HD.out, if_neg (by rw [HU.out]; exact hnew)]; simp)
        cases b
        · cases u
          · exact absurd ⟨rfl, rfl⟩ hnew
          · go_wp2_with (first | (at_builtin; refine wpList_app1g (P := Tryz.prog) _ rfl (.tmp 44) (.tmp 50) 25 rfl 0 165 _ 2 40 Tryz.underlying25 cstInfo rfl (by omega) (.slice P lO.length cp) _ _ rfl own1 _ _ rfl (by simp) rfl (by simp [Value.oneCell']) (by unfold maxLen; omega) (by omega) (Nat.zero_le _) ?_; intro P3 cp3 w3 own3 hg3 hb3 hob3; refine stop_of ?_) | fail)
            unfold Stop
            have C3 : Ch (fun b => w1.heap.size ≤ b) wr w3 := (Ch.of_grow hg3).mono (fun b hb => hP b (mem_blkL.2 (blk_of hb)))
            have hB3 : Below w1.heap.size w1 w3 := C3.belowB hbr hbr.size (fun b hb => hb)
            have hP3 : ∀ b ∈ blkL P3, w1.heap.size ≤ b := fun b hb => by rcases blk_or' hob3 b hb with h | h; (exact hP b h); (have := hbr.size; omega)
            have HOK := Lib.hid (And.intro hP3 hB3); clear hP3 hB3 C3 hg3 hb3 hob3
            go_wp2
            exact ⟨⟨k + 1, false, P3, cp3, _, _, (lO ++ [s]), by omega, by go_num, rfl, by simp, by have := HO.out; simp; omega, by simpa using own3, HOK.out.1, (E1.app (Els.one hF)), by rw [HN2.out, ← HFL.out]; simp, HJ.out, HOK.out.2⟩, by simp [intOf]; omega⟩
        · go_wp2_with (first | (at_builtin; refine wpList_app1g (P := Tryz.prog) _ rfl (.tmp 44) (.tmp 50) 25 rfl 0 165 _ 2 40 Tryz.underlying25 cstInfo rfl (by omega) (.slice P lO.length cp) _ _ rfl own1 _ _ rfl (by simp) rfl (by simp [Value.oneCell']) (by unfold maxLen; omega) (by omega) (Nat.zero_le _) ?_; intro P3 cp3 w3 own3 hg3 hb3 hob3; refine stop_of ?_) | fail)
          unfold Stop
          have C3 : Ch (fun b => w1.heap.size ≤ b) wr w3 := (Ch.of_grow hg3).mono (fun b hb => hP b (mem_blkL.2 (blk_of hb)))
          have hB3 : Below w1.heap.size w1 w3 := C3.belowB hbr hbr.size (fun b hb => hb)
          have hP3 : ∀ b ∈ blkL P3, w1.heap.size ≤ b := fun b hb => by rcases blk_or' hob3 b hb with h | h; (exact hP b h); (have := hbr.size; omega)
          have HOK := Lib.hid (And.intro hP3 hB3); clear hP3 hB3 C3 hg3 hb3 hob3
          go_wp2
          exact ⟨⟨k + 1, true, P3, cp3, _, _, (lO ++ [s]), by omega, by go_num, rfl, by simp, by have := HO.out; simp; omega, by simpa using own3, HOK.out.1, (E1.app (Els.one hF)), by rw [HN2.out, ← HFL.out]; simp, HJ.out, HOK.out.2⟩, by simp [intOf]; omega⟩
    · have hkn : k = n := by omega
      subst hkn
      have hfl3 : fp1.flatten = fps.flatten := by rw [HFL.out, List.take_of_length_le (by have := E.lens.2; have := HLE.out; omega)]
      have HF3 := Lib.hid hfl3; clear hfl3
      have he := insF_end (l := x.sets) (k := k) nm b (by have := HL.out; omega)
      have hins2 : insF x.sets nm false = lO ++ (if b then [] else [⟨nm, []⟩]) := by rw [HI.out, he]
      have HI2 := Lib.hid hins2; clear hins2 he
      have hlO20 : lO.length ≤ 20 := by omega
      have o0r := BOr.cell 0 _ rfl
      have ofr := BOr.fz 0 (by simp)
      have lor := BOr.lt
      have HO := Lib.hid hlO; clear hlO
      cases b
      · go_wp2_with (first | (at_builtin; refine wpList_app1g (P := Tryz.prog) _ rfl (.tmp 54) (.tmp 57) 25 rfl 0 165 _ 2 40 Tryz.underlying25 cstInfo rfl (by omega) (.slice P lO.length cp) _ _ rfl own1 _ _ rfl (by simp) rfl (by simp [Value.oneCell']) (by unfold maxLen; omega) (by omega) (Nat.zero_le _) ?_; intro P3 cp3 w3 own3 hg3 hb3 hob3; refine stop_of ?_) | fail)
        unfold Stop
        have C3 : Ch (fun b => w1.heap.size ≤ b) wr w3 := (Ch.of_grow hg3).mono (fun b hb => hP b (mem_blkL.2 (blk_of hb)))
        have hB3 : Below w1.heap.size w1 w3 := C3.belowB hbr hbr.size (fun b hb => hb)
        have hP3 : ∀ b ∈ blkL P3, w1.heap.size ≤ b := fun b hb => by rcases blk_or' hob3 b hb with h | h; (exact hP b h); (have := hbr.size; omega)
        have own4 : w3.ownsRow 0 165 2 (.slice P3 (lO.length + 1) cp3) (lO.length + 1) (cs1 ++ [[Value.string nm, Value.slice none 0 0]]).flatten := by simpa using own3
        have E4 := E1.app (Els.one (show cstF [] w [.string nm, .slice none 0 0] ⟨nm, []⟩ from hNew))
        have BX3 := BX1.keep hB3; have BO3 := BO1.keep hB3
        have hBw3 := bthen hB1 hB3
        have cA := Ch.set (w := w3) (g := g) (o := 0) (v := .slice P3 (lO.length + 1) cp3)
        have BX4 := BX3.set (j := 0) (v := .slice P3 (lO.length + 1) cp3) (by simp)
        simp only [List.set_cons_zero] at BX4
        have BO4 := BO3.ch cA (ne_blk (by omega))
        obtain ⟨w4, hw4⟩ : ∃ w4, w4 = w3.setCell ⟨g, 0, none⟩ (.slice P3 (lO.length + 1) cp3) := ⟨_, rfl⟩
        have cB := Ch.set (w := w4) (g := g + 1) (o := 0) (v := .slice P3 (lO.length + 1) cp3)
        have hBw4 : Below w.heap.size w w4 := by rw [hw4]; exact cA.belowB hBw3 hBw3.size (fun k hk => by have hk : k = g := hk; have := HG.out; omega)
        have hBw5 := cB.belowB hBw4 hBw4.size (fun k hk => by have hk : k = g + 1 := hk; have := HG.out; omega)
        have hne4 : ∀ b ∈ blkL P3, ¬ b = g ∧ ¬ b = g + 1 := fun b hb => by have := hP3 b hb; omega
        have own5 := own_chL (own_chL own4 cA (fun b hb => (hne4 b hb).1)) (by rw [← hw4]; exact cB) (fun b hb => (hne4 b hb).2)
        have hfin := cr_end HFQ.out hN hFB hBw hnq2 E4 (by rw [List.flatten_append, HF3.out]; simp) own5 (by simp) (fun b hb => Nat.le_trans hB1.size (hP3 b hb)) hBw5
        rw [← hw4] at BX4 BO4
        have hWr := (BO4.set (v := .slice P3 (lO.length + 1) cp3) (j := 0) (by simp)).range
        simp only [List.set_cons_zero] at hWr
        have HW4 := Lib.hid hw4
        have p0 := BX3.cell 0 _ rfl; have pf := BX3.fz 0 (by simp); have pl := BX3.lt; have q0 := BO3.cell 0 _ rfl; have qf := BO3.fz 0 (by simp); have ql := BO3.lt
        clear x0r xfr lgr o0r ofr lor
        rw [hw4] at hWr hfin
        have HWR := Lib.hid hWr; have HFIN := Lib.hid hfin
        clear hw4 hWr hfin BX3 BX4 BO3 BO4 own4 own5 cA cB hBw4 hBw5 hne4 hP3 hB3 HW4
        go_wp2
        refine bodyPost_ret (results_cell_tmp Tryz.results165 rfl HWR.out Tryz.underlying27 rfl sizeCat0) rfl ?_
        obtain ⟨r1, r2⟩ := cr_ok (l := x.sets) (nm := nm) (by rw [T.out]; have := HT0.out; omega) H55.out
        rw [r1, r2, HI2.out]
        try simp only [if_true, if_false, Bool.false_eq_true, List.append_nil]
        exact CatOut.mk' HFIN.out.1 HFIN.out.2.1 HFIN.out.2.2.1 HFIN.out.2.2.2
      · have own4 := own1
        have E4 := E1
        have hP3 := hP
        have hB3 := hbr
        obtain ⟨w3, hw3⟩ : ∃ w3, w3 = wr := ⟨_, rfl⟩
        subst hw3
        have BX3 := BX1.keep hB3; have BO3 := BO1.keep hB3
        have hBw3 := bthen hB1 hB3
        have cA := Ch.set (w := w3) (g := g) (o := 0) (v := .slice P lO.length cp)
        have BX4 := BX3.set (j := 0) (v := .slice P lO.length cp) (by simp)
        simp only [List.set_cons_zero] at BX4
        have BO4 := BO3.ch cA (ne_blk (by omega))
        obtain ⟨w4, hw4⟩ : ∃ w4, w4 = w3.setCell ⟨g, 0, none⟩ (.slice P lO.length cp) := ⟨_, rfl⟩
        have cB := Ch.set (w := w4) (g := g + 1) (o := 0) (v := .slice P lO.length cp)
        have hBw4 : Below w.heap.size w w4 := by rw [hw4]; exact cA.belowB hBw3 hBw3.size (fun k hk => by have hk : k = g := hk; have := HG.out; omega)
        have hBw5 := cB.belowB hBw4 hBw4.size (fun k hk => by have hk : k = g + 1 := hk; have := HG.out; omega)
        have hne4 : ∀ b ∈ blkL P, ¬ b = g ∧ ¬ b = g + 1 := fun b hb => by have := hP3 b hb; omega
        have own5 := own_chL (own_chL own4 cA (fun b hb => (hne4 b hb).1)) (by rw [← hw4]; exact cB) (fun b hb => (hne4 b hb).2)
        have hfin := cr_end HFQ.out hN hFB hBw hnq2 E4 (by exact HF3.out) own5 (by simp) (fun b hb => Nat.le_trans hB1.size (hP3 b hb)) hBw5
        rw [← hw4] at BX4 BO4
        have hWr := (BO4.set (v := .slice P lO.length cp) (j := 0) (by simp)).range
        simp only [List.set_cons_zero] at hWr
        have HW4 := Lib.hid hw4
        have p0 := BX3.cell 0 _ rfl; have pf := BX3.fz 0 (by simp); have pl := BX3.lt; have q0 := BO3.cell 0 _ rfl; have qf := BO3.fz 0 (by simp); have ql := BO3.lt
        clear x0r xfr lgr o0r ofr lor
        rw [hw4] at hWr hfin
        have HWR := Lib.hid hWr; have HFIN := Lib.hid hfin
        clear hw4 hWr hfin BX3 BX4 BO3 BO4 own4 own5 cA cB hBw4 hBw5 hne4 hP3 hB3 HW4
        go_wp2
        refine bodyPost_ret (results_cell_tmp Tryz.results165 rfl HWR.out Tryz.underlying27 rfl sizeCat0) rfl ?_
        obtain ⟨r1, r2⟩ := cr_ok (l := x.sets) (nm := nm) (by rw [T.out]; have := HT0.out; omega) H55.out
        rw [r1, r2, HI2.out]
        try simp only [if_true, if_false, Bool.false_eq_true, List.append_nil]
        exact CatOut.mk' HFIN.out.1 HFIN.out.2.1 HFIN.out.2.2.1 HFIN.out.2.2.2
end Go.Proofs.YtdphdnllhmnelaaGreat
/- The reference's prune on snapshots of its own. -/
namespace Go.Proofs.YtdphdnllhmnelaaGreat
open Go.RowKit
attribute [local go_sem] Grow.cell Grow.frozen
theorem snp_get {css : List (List Value)} {fps : List (List Nat)} {w w' : World} {l : List Snp} {A : Option Addr} {n c k : Nat} (own : w.ownsRow 0 195 3 (.slice A n c) n css.flatten) (hl : n = l.length) (E : Els snpF w css fps l) (hk : k < n) (hb : Below w.heap.size w w') :
    ∃ qb s Q qn qc f, A = some ⟨qb, 0, none⟩ ∧ qb < w.heap.size ∧ l[k]? = some s ∧ fps[k]? = some f ∧ snpF f w [.string s.nm, .string s.tg, .slice Q qn qc] s ∧ w'.cell? ⟨qb, k * 3, none⟩ = some (.string s.nm) ∧ w'.cell? ⟨qb, k * 3 + 1, none⟩ = some (.string s.tg) ∧ w'.cell? ⟨qb, k * 3 + 2, none⟩ = some (.slice Q qn qc) := by
  have hs := List.getElem?_eq_getElem (show k < l.length by omega)
  obtain ⟨cs, f, h1, h2, h3⟩ := E.get hs
  have h3' := h3
  obtain ⟨Q, qn, qc, f', rfl, rfl, S⟩ := h3'
  rcases own_form own with ⟨_, h0, _⟩ | ⟨g, rfl, _, hg⟩
  · omega
  · have c0 := own.cells (g := g) rfl (k * 3) (.string l[k].nm) (by have := flat_get (E.clen snpK) h1 (j := 0) (by omega); rw [Nat.add_zero] at this; rw [this]; rfl)
    have c1 := own.cells (g := g) rfl (k * 3 + 1) (.string l[k].tg) (by rw [flat_get (E.clen snpK) h1 (j := 1) (by omega)]; rfl)
    have c2 := own.cells (g := g) rfl (k * 3 + 2) (.slice Q qn qc) (by rw [flat_get (E.clen snpK) h1 (j := 2) (by omega)]; rfl)
    rw [Addr.add_lit] at c0 c1 c2
    exact ⟨g, l[k], Q, qn, qc, f, rfl, hg, hs, h2, h3, keep_cell hb (by simpa using c0), keep_cell hb (by simpa using c1), keep_cell hb (by simpa using c2)⟩
theorem sub_next {fps fp1 : List (List Nat)} {k : Nat} {f : List Nat} (h : fps[k]? = some f) (hs : fp1.Sublist (fps.take k)) : (fp1 ++ [f]).Sublist (fps.take (k + 1)) ∧ fp1.Sublist (fps.take (k + 1)) := by
  rw [take_more h]
  exact ⟨List.Sublist.append hs (List.Sublist.refl _), hs.trans (List.sublist_append_left _ _)⟩
theorem sub_flat {a b : List (List Nat)} (h : a.Sublist b) : a.flatten.Sublist b.flatten := by
  induction h
  · exact List.Sublist.refl _
  · rename_i ih
    rw [List.flatten_cons]
    exact ih.trans (List.sublist_append_right _ _)
  · rename_i ih
    rw [List.flatten_cons, List.flatten_cons]
    exact List.Sublist.append (List.Sublist.refl _) ih
theorem pru_end {A P : Option Addr} {m cp : Nat} {w w' : World} {fq : List Nat} {fps fp1 : List (List Nat)} {cs1 : List (List Value)} {lO : List Snp} (hfq : fq = blkL A ++ fps.flatten) (hN : fq.Nodup) (hnq : ∀ t ∈ fq, t < w.heap.size)
    (E : Els snpF w cs1 fp1 lO) (hfl : fp1.Sublist fps) (own : w'.ownsRow 0 195 3 (.slice P m cp) m cs1.flatten) (hm : m = lO.length) (hP : ∀ b ∈ blkL P, w.heap.size ≤ b) (hb : Below w.heap.size w w') :
    RowO snpF 195 3 (blkL P ++ fp1.flatten) w' P m cp lO ∧ (blkL P ++ fp1.flatten).Nodup ∧ (∀ t ∈ blkL P ++ fp1.flatten, t ∈ fq ∨ w.heap.size ≤ t) := by
  subst hfq
  have hN2 := (List.nodup_append.1 hN).2.1
  have hsub : fp1.flatten.Sublist fps.flatten := sub_flat hfl
  refine ⟨RowO.intro own hm (E.keep snpK hb), List.nodup_append.2 ⟨by cases P <;> simp [blkL], hN2.sublist hsub, fun a ha b hb e => ?_⟩, fun t ht => ?_⟩
  · have h1 := hP a ha
    have h2 := hnq b (List.mem_append_right _ (hsub.subset hb))
    omega
  · rcases List.mem_append.1 ht with h | h
    · exact .inr (hP t h)
    · exact .inl (List.mem_append_right _ (hsub.subset h))
attribute [local irreducible] StrsAt StrR StrO RowR RowO bareTo pruL pruF
set_option maxRecDepth 8000 in
set_option maxHeartbeats 8000000 in
theorem prune_spec (l : List Snp) (keep : Int) (A : Option Addr) (n c : Nat) (fq : List Nat) (w : World) (hA : RowO snpF 195 3 fq w A n c l) (hN : fq.Nodup) (hn : n ≤ 9) (h0 : 0 ≤ keep) (h9 : keep ≤ 9) :
    Calls Tryz.prog 196 #[.slice A n c, .int .i64 keep] w fun e w' => ∃ P m cp fp', e = .returned (.tuple #[.slice P m cp, .int .i64 (goneN l keep.toNat : Nat)]) ∧ RowO snpF 195 3 fp' w' P m cp (pruL l (goneN l keep.toNat)) ∧ fp'.Nodup ∧ (∀ t ∈ fp', t ∈ fq ∨ w.heap.size ≤ t) ∧ Below w.heap.size w w' := by
  have HL := Lib.hid hA.len
  have hnq := hA.lt snpK
  obtain ⟨css, fps, hfq, own, hl, E⟩ := hA.ex
  have HFQ := Lib.hid hfq; clear hfq
  have HLE := Lib.hid hl; clear hl
  have HPL := Lib.hid (prune_len l keep h0)
  go_enter Tryz.func196, Tryz.ntmps196
  go_wp2_with fail
  go_loopw [6, 7] (fun t i wr => ∃ k : Nat, k ≤ n ∧ i = .int .i64 k ∧ t = .int .i64 ((bareTo l k : Nat) : Int) ∧ Below w.heap.size w wr) (fun _ i _ => n - (intOf i).toNat)
  case atStart => exact ⟨0, Nat.zero_le _, rfl, by unfold bareTo; rfl, Below.refl _ _⟩
  case round =>
    obtain ⟨k, hk, rfl, rfl, hbr⟩ := hrel
    have hbk := bareTo_le l k
    by_cases hlt : k < n
    · obtain ⟨qb, y, Q, qn, qc, f, rfl, hqb, hy, hf, hF, c0, c1, c2⟩ := snp_get own HLE.out E hlt hbr
      have HBS := Lib.hid (bareTo_succ hy)
      have hte := isEmpty_str y.tg
      clear hy hf hF
      by_cases ht : y.tg = ByteArray.empty
      · rw [decide_eq_true ht] at hte
        have HT := Lib.hid ht; clear ht
        go_wp2
        exact ⟨⟨k + 1, by omega, by go_num, by rw [HBS.out, if_pos HT.out]; go_num, hbr⟩, by simp [intOf]; omega⟩
      · rw [decide_eq_false ht] at hte
        have HT := Lib.hid ht; clear ht
        go_wp2
        exact ⟨⟨k + 1, by omega, by go_num, by rw [HBS.out, if_neg HT.out]; rfl, hbr⟩, by simp [intOf]; omega⟩
    · have hkn : k = l.length := by have := HL.out; omega
      obtain ⟨wr, hwr⟩ := Below.nam hbr; subst hwr
      have own0 := own_empty wr 195 3 (base := 0) (Nat.zero_le _)
      have alq := (Below.refl wr.heap.size wr).alloc (Nat.le_refl _) (.cells #[] 195)
      have hlr := hbr.size
      obtain ⟨b0, hb0⟩ : ∃ b0 : Int, ((bareTo l k : Nat) : Int) = b0 := ⟨_, rfl⟩
      have HB0 := Lib.hid (show ((bareTo l l.length : Nat) : Int) = b0 by rw [← hkn]; exact hb0)
      have hb9 : 0 ≤ b0 ∧ b0 ≤ 9 := by omega
      rw [hb0]
      clear hb0 hbk hkn
      go_wp2_with fail
      go_loopw [6, 8, 9] (fun t s i wq => ∃ (k : Nat) (b : Int) (P : Option Addr) (cp : Nat) (cs1 : List (List Value)) (fp1 : List (List Nat)) (lO : List Snp), k ≤ n ∧ i = .int .i64 k ∧ t = .int .i64 b ∧ s = .slice P lO.length cp ∧ lO.length ≤ k ∧ b0 - k ≤ b ∧ b ≤ b0 ∧ wq.ownsRow 0 195 3 (.slice P lO.length cp) lO.length cs1.flatten ∧ (∀ x ∈ blkL P, wr.heap.size ≤ x) ∧
          Els snpF w cs1 fp1 lO ∧ fp1.Sublist (fps.take k) ∧ pruF l b0 keep = lO ++ pruF (l.drop k) b keep ∧ Below wr.heap.size wr wq) (fun _ _ i _ => n - (intOf i).toNat)
      case atStart => exact ⟨0, b0, _, _, [], [], [], Nat.zero_le _, rfl, rfl, rfl, Nat.le_refl _, by omega, by omega, own0, (fun x hx => by have h2 : x = wr.heap.size := (by simpa [blkL] using hx); omega), trivial, List.Sublist.refl _, rfl, alq⟩
      case round =>
        obtain ⟨k, b, P, cp, cs1, fp1, lO, hk, rfl, rfl, rfl, hlO, hbl, hbu, own1, hP, E1, hsub, hpr, hbq⟩ := hrel
        have hBq := bthen hbr hbq
        have HI := Lib.hid hpr; clear hpr
        obtain ⟨wq, hwq⟩ := Below.nam hbq; subst hwq
        by_cases hlt : k < n
        · obtain ⟨qb, y, Q, qn, qc, f, rfl, hqb, hy, hf, hF, c0, c1, c2⟩ := snp_get own HLE.out E hlt hBq
          have HD := Lib.hid (pruF_drop b keep hy)
          obtain ⟨hS1, hS2⟩ := sub_next hf hsub
          have HO := Lib.hid hlO; clear hlO
          have hlO3 : lO.length ≤ 20 := by have := HO.out; omega
          have hte := isEmpty_str y.tg
          have hw1 : IntKind.i64.wrap (b - 1) = b - 1 := by rw [IntKind.wrap_i64]; omega
          clear hy hf
          by_cases ht : y.tg = ByteArray.empty
          · rw [decide_eq_true ht] at hte
            by_cases hge : keep ≤ b - 1
            · have gd : decide (b - 1 ≥ keep) = true := decide_eq_true hge
              have HJ := Lib.hid (show pruF l b0 keep = lO ++ pruF (l.drop (k + 1)) (b - 1) keep by rw [HI.out, HD.out, if_pos ht, if_pos hge])
              clear ht
              go_wp2
              exact ⟨⟨k + 1, b - 1, P, cp, cs1, fp1, lO, by omega, by go_num, by go_num, rfl, by have := HO.out; omega, by omega, by omega, own1, hP, E1, hS2, HJ.out, hbq⟩, by simp [intOf]; omega⟩
            · have gd : decide (b - 1 ≥ keep) = false := decide_eq_false hge
              have HJ := Lib.hid (show pruF l b0 keep = (lO ++ [y]) ++ pruF (l.drop (k + 1)) (b - 1) keep by rw [HI.out, HD.out, if_pos ht, if_neg hge]; simp)
              clear ht
              go_wp2_with (first | (at_builtin; refine wpList_app1g (P := Tryz.prog) _ rfl (.tmp 42) (.tmp 47) 163 rfl 0 195 _ 3 56 Tryz.underlying163 snpInfo rfl (by omega) (.slice P lO.length cp) _ _ rfl own1 _ _ rfl (by simp) rfl (by simp [Value.oneCell']) (by unfold maxLen; omega) (by omega) (Nat.zero_le _) ?_; intro P3 cp3 w3 own3 hg3 hb3 hob3; refine stop_of ?_) | fail)
              unfold Stop
              have C3 : Ch (fun x => wr.heap.size ≤ x) wq w3 := (Ch.of_grow hg3).mono (fun x hx => hP x (mem_blkL.2 (blk_of hx)))
              have hB3 : Below wr.heap.size wr w3 := C3.belowB hbq hbq.size (fun x hx => hx)
              have hP3 : ∀ x ∈ blkL P3, wr.heap.size ≤ x := fun x hx => by rcases blk_or' hob3 x hx with h | h; (exact hP x h); (have := hbq.size; omega)
              have HOK := Lib.hid (And.intro hP3 hB3); clear hP3 hB3 C3 hg3 hb3 hob3
              go_wp2
              exact ⟨⟨k + 1, (b - 1), P3, cp3, _, _, (lO ++ [y]), by omega, by go_num, by go_num, by simp, by have := HO.out; simp; omega, by omega, by omega, by simpa using own3, HOK.out.1, (E1.app (Els.one hF)), hS1, HJ.out, HOK.out.2⟩, by simp [intOf]; omega⟩
          · rw [decide_eq_false ht] at hte
            have HJ := Lib.hid (show pruF l b0 keep = (lO ++ [y]) ++ pruF (l.drop (k + 1)) b keep by rw [HI.out, HD.out, if_neg ht]; simp)
            clear ht
            go_wp2_with (first | (at_builtin; refine wpList_app1g (P := Tryz.prog) _ rfl (.tmp 42) (.tmp 47) 163 rfl 0 195 _ 3 56 Tryz.underlying163 snpInfo rfl (by omega) (.slice P lO.length cp) _ _ rfl own1 _ _ rfl (by simp) rfl (by simp [Value.oneCell']) (by unfold maxLen; omega) (by omega) (Nat.zero_le _) ?_; intro P3 cp3 w3 own3 hg3 hb3 hob3; refine stop_of ?_) | fail)
            unfold Stop
            have C3 : Ch (fun x => wr.heap.size ≤ x) wq w3 := (Ch.of_grow hg3).mono (fun x hx => hP x (mem_blkL.2 (blk_of hx)))
            have hB3 : Below wr.heap.size wr w3 := C3.belowB hbq hbq.size (fun x hx => hx)
            have hP3 : ∀ x ∈ blkL P3, wr.heap.size ≤ x := fun x hx => by rcases blk_or' hob3 x hx with h | h; (exact hP x h); (have := hbq.size; omega)
            have HOK := Lib.hid (And.intro hP3 hB3); clear hP3 hB3 C3 hg3 hb3 hob3
            go_wp2
            exact ⟨⟨k + 1, b, P3, cp3, _, _, (lO ++ [y]), by omega, by go_num, by go_num, by simp, by have := HO.out; simp; omega, by omega, by omega, by simpa using own3, HOK.out.1, (E1.app (Els.one hF)), hS1, HJ.out, HOK.out.2⟩, by simp [intOf]; omega⟩
        · have hkn : k = n := by omega
          subst hkn
          have hfl3 : fp1.Sublist fps := by rw [List.take_of_length_le (by have := E.lens.2; have := HLE.out; omega)] at hsub; exact hsub
          have he : pruL l (goneN l keep.toNat) = lO := by rw [← HPL.out.1, HB0.out, HI.out, pruF_end _ _ (by have := HL.out; omega), List.append_nil]
          have hg : (k : Int) - (lO.length : Int) = (goneN l keep.toNat : Nat) := by have := HPL.out.2; rw [he] at this; have := HL.out; omega
          have hend := pru_end HFQ.out hN hnq E1 hfl3 own1 rfl (fun x hx => Nat.le_trans hlr (hP x hx)) hBq
          have HE := Lib.hid he; have HE2 := Lib.hid hend; clear he hend hfl3 hsub
          go_wp2
          go_returns
          rw [HE.out]
          exact ⟨P, lO.length, cp, _, rfl, HE2.out.1, HE2.out.2.1, HE2.out.2.2, hBq⟩
end Go.Proofs.YtdphdnllhmnelaaGreat
