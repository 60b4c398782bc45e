/- Contracts and lemmas: ShowCmd, InsText, ShowInst, ShowInstS, CopyK, KindA. -/
import Derived.Test.YtdphdnllhmnelaaJ10
import Derived.Test.YtdphdnllhmnelaaJ7
import Derived.Test.YtdphdnllhmnelaaJ6
import Derived.Test.YtdphdnllhmnelaaJ8
import Derived.Test.YtdphdnllhmnelaaJ0
import Derived.Test.YtdphdnllhmnelaaJ1
/- Contracts of ShowCmd (both sides): the text of a command. -/
namespace Go.Proofs.Ytdphdnllhmnelaa
open Go.RowKit
attribute [local go_sem] Grow.cell Grow.frozen
theorem var_implZ (z : Int) (w : World) (h0 : 0 ≤ z) (h1 : z ≤ 562949953421311) :
    Calls Try.prog 76 #[.int .i64 z] w fun e w' => e = .returned (.string (varS z.toNat)) ∧ Below w.heap.size w w' := by
  obtain ⟨n, rfl⟩ := Int.eq_ofNat_of_zero_le h0
  exact var_impl n w (by omega)
theorem var_specZ (z : Int) (w : World) (h0 : 0 ≤ z) (h1 : z ≤ 562949953421311) :
    Calls Try.prog 70 #[.int .i64 z] w fun e w' => e = .returned (.string (varS z.toNat)) ∧ Below w.heap.size w w' := by
  obtain ⟨n, rfl⟩ := Int.eq_ofNat_of_zero_le h0
  exact var_spec n w (by omega)
theorem strsCell {w : World} {A : Option Addr} {n : Nat} {l : List ByteArray} (h : StrsAt w A n l) {k : Nat} (hk : k < n) : ∃ b off, A = some ⟨b, off, none⟩ ∧ b < w.heap.size ∧ w.cell? ⟨b, off + k, none⟩ = some (.string (sAt l k)) := by
  obtain ⟨b, off, hA, hb, hc⟩ := h.2 (by omega)
  exact ⟨b, off, hA, hb, hc k hk⟩
theorem strR_at {w : World} {A : Option Addr} {n c : Nat} {l : List ByteArray} (h : StrR w A n c l) : StrsAt w A n l := h.1
attribute [local irreducible] StrsAt StrR varS cmOkB
set_option maxRecDepth 8000 in
set_option maxHeartbeats 4000000 in
theorem showCmd_impl (x : Cm) (A1 : Option Addr) (n1 c1 : Nat) (w : World) (h1 : StrR w A1 n1 c1 x.ch) (hb : cmB x) :
    Calls Try.prog 78 #[cmV x (.slice A1 n1 c1)] w fun e w' => e = .returned (.string (cmText x)) ∧ Below w.heap.size w w' := by
  have HN := Lib.hid h1.len
  have al := (Below.refl w.heap.size w).alloc (Nat.le_refl _) (.cells #[.int .i64 x.kd, .int .i64 x.cl, .int .i64 x.no, .string x.s, .string x.nm, .string x.tg, .int .i64 x.n, .slice A1 n1 c1] 47)
  obtain ⟨q, hq⟩ : ∃ q, cmOkB x = q := ⟨_, rfl⟩
  have HQ := Lib.hid hq
  cases q
  · have HT := Lib.hid (cmText_no hq)
    clear hq
    rw [HT.out]
    unfold cmV
    go_enter Try.func78, Try.ntmps78
    go_wp2_with fail
    refine (cmdOk_impl x _ _ _ _ (h1.keep al) hb).mono ?_
    rintro e w1 ⟨rfl, hb1⟩
    rw [HQ.out]
    go_wp2
    go_returns
    exact ⟨rfl, bthen al hb1⟩
  · have HT := Lib.hid (cmText_yes hq)
    have hd := cmOk_bd hq
    have hts := cmTo_size hd
    have HTS := Lib.hid hts; clear hts
    obtain ⟨a1, a2, a3, a4, a5, a6, a7, a8, a9⟩ := hd
    have A9 := Lib.hid a9; clear a9 hq
    rw [HT.out]
    unfold cmV
    go_enter Try.func78, Try.ntmps78
    go_wp2_with fail
    refine (cmdOk_impl x _ _ _ _ (h1.keep al) hb).mono ?_
    rintro e w1 ⟨rfl, hb1⟩
    rw [HQ.out]
    have hB1 := bthen al hb1
    have hz1 := hb1.size
    simp at hz1
    have hz1' : w.heap.size < w1.heap.size := by omega
    have e0 : w1.cell? ⟨w.heap.size, 0, none⟩ = some (.int .i64 x.kd) := keep_cell hb1 (by simp [go_sem])
    have e1 : w1.cell? ⟨w.heap.size, 1, none⟩ = some (.int .i64 x.cl) := keep_cell hb1 (by simp [go_sem])
    have e2 : w1.cell? ⟨w.heap.size, 2, none⟩ = some (.int .i64 x.no) := keep_cell hb1 (by simp [go_sem])
    have e3 : w1.cell? ⟨w.heap.size, 3, none⟩ = some (.string x.s) := keep_cell hb1 (by simp [go_sem])
    have e4 : w1.cell? ⟨w.heap.size, 4, none⟩ = some (.string x.nm) := keep_cell hb1 (by simp [go_sem])
    have e5 : w1.cell? ⟨w.heap.size, 5, none⟩ = some (.string x.tg) := keep_cell hb1 (by simp [go_sem])
    have e6 : w1.cell? ⟨w.heap.size, 6, none⟩ = some (.int .i64 x.n) := keep_cell hb1 (by simp [go_sem])
    have e7 : w1.cell? ⟨w.heap.size, 7, none⟩ = some (.slice A1 n1 c1) := keep_cell hb1 (by simp [go_sem])
    have v0 := varS_size (x.kd.toNat)
    have v1 := varS_size (x.cl.toNat)
    have v2 := varS_size (x.no.toNat)
    have v3 := varS_size (x.n.toNat)
    have v4 := varS_size (x.s.size)
    have v5 := varS_size (x.nm.size)
    have v6 := varS_size (x.tg.size)
    have v7 := varS_size (n1)
    have hn1 : n1 ≤ 4 := by have := HN.out; omega
    go_wp2
    refine wp_region_grow (by kernel_rfl) (by kernel_rfl) ?_
    repeat (first | go_big_quiet_step (first | (go_at_call 76; with_reducible exact grow_of (var_impl _ _ (by omega))) | (go_at_call 76; exact grow_of (var_implZ _ _ (by omega) (by omega))) | (go_at_call 77; exact grow_of (sized_impl _ _ (by omega)))))
    refine wpQuiet_nil ?_
    intro _ hw'
    obtain ⟨⟨w2, hb2⟩, hw''⟩ := hw'
    change _ = w2 at hw''
    subst hw''
    rename_i w2
    have hB2 := bthen hB1 hb2
    have e7' := keep_cell hb2 e7
    have hz2 := hb2.size
    have hz2' : w.heap.size < w2.heap.size := by omega
    clear e0 e1 e2 e3 e4 e5 e6 e7 v0 v1 v2 v3 v4 v5 v6 v7
    obtain ⟨hd, hhd⟩ : ∃ t, cmHd x = t := ⟨_, rfl⟩
    have HH := Lib.hid (show cmTo x 0 = hd from hhd)
    unfold cmHd at hhd; have HHD := Lib.hid hhd; clear hhd
    try simp only [← HN.out] at HHD
    go_wp2
    go_loopw [3, 44] (fun o i wr => ∃ k : Nat, k ≤ n1 ∧ i = .int .i64 k ∧ o = .string (cmTo x k) ∧ Below w2.heap.size w2 wr) (fun _ i _ => n1 - (intOf i).toNat)
    case atStart => exact ⟨0, Nat.zero_le _, rfl, by rw [HH.out, ← HHD.out, HN.out], by first | exact Below.refl _ _ | exact (Below.refl _ _).drew⟩
    case round =>
      obtain ⟨k, hk, rfl, rfl, hbr⟩ := hrel
      have HS := Lib.hid (show cmTo x (k + 1) = cmTo x k ++ sAt x.ch k from rfl)
      have ht := HTS.out k (by have := HN.out; omega)
      by_cases hlt : k < n1
      · have h8 := A9.out k (by have := HN.out; omega)
        obtain ⟨b, off, rfl, hbl, hc⟩ := strsCell (strR_at ((h1.keep hB2).keep hbr)) hlt
        go_wp2
        exact ⟨⟨k + 1, by omega, by go_num, by rw [HS.out], hbr⟩, by simp [intOf]; omega⟩
      · go_wp2
        go_returns
        have hkn : k = x.ch.length := by have := HN.out; omega
        exact ⟨by rw [hkn]; rfl, bthen hB2 hbr⟩
set_option maxRecDepth 8000 in
set_option maxHeartbeats 4000000 in
theorem showCmd_spec (x : Cm) (A1 : Option Addr) (n1 c1 : Nat) (w : World) (h1 : StrR w A1 n1 c1 x.ch) (hb : cmB x) :
    Calls Try.prog 72 #[cmV x (.slice A1 n1 c1)] w fun e w' => e = .returned (.string (cmText x)) ∧ Below w.heap.size w w' := by
  have HN := Lib.hid h1.len
  have al := (Below.refl w.heap.size w).alloc (Nat.le_refl _) (.cells #[.int .i64 x.kd, .int .i64 x.cl, .int .i64 x.no, .string x.s, .string x.nm, .string x.tg, .int .i64 x.n, .slice A1 n1 c1] 47)
  obtain ⟨q, hq⟩ : ∃ q, cmOkB x = q := ⟨_, rfl⟩
  have HQ := Lib.hid hq
  cases q
  · have HT := Lib.hid (cmText_no hq)
    clear hq
    rw [HT.out]
    unfold cmV
    go_enter Try.func72, Try.ntmps72
    go_wp2_with fail
    refine (cmdOk_spec x _ _ _ _ (h1.keep al) hb).mono ?_
    rintro e w1 ⟨rfl, hb1⟩
    rw [HQ.out]
    go_wp2
    go_returns
    exact ⟨rfl, bthen al hb1⟩
  · have HT := Lib.hid (cmText_yes hq)
    have hd := cmOk_bd hq
    have hts := cmTo_size hd
    have HTS := Lib.hid hts; clear hts
    obtain ⟨a1, a2, a3, a4, a5, a6, a7, a8, a9⟩ := hd
    have A9 := Lib.hid a9; clear a9 hq
    rw [HT.out]
    unfold cmV
    go_enter Try.func72, Try.ntmps72
    go_wp2_with fail
    refine (cmdOk_spec x _ _ _ _ (h1.keep al) hb).mono ?_
    rintro e w1 ⟨rfl, hb1⟩
    rw [HQ.out]
    have hB1 := bthen al hb1
    have hz1 := hb1.size
    simp at hz1
    have hz1' : w.heap.size < w1.heap.size := by omega
    have e0 : w1.cell? ⟨w.heap.size, 0, none⟩ = some (.int .i64 x.kd) := keep_cell hb1 (by simp [go_sem])
    have e1 : w1.cell? ⟨w.heap.size, 1, none⟩ = some (.int .i64 x.cl) := keep_cell hb1 (by simp [go_sem])
    have e2 : w1.cell? ⟨w.heap.size, 2, none⟩ = some (.int .i64 x.no) := keep_cell hb1 (by simp [go_sem])
    have e3 : w1.cell? ⟨w.heap.size, 3, none⟩ = some (.string x.s) := keep_cell hb1 (by simp [go_sem])
    have e4 : w1.cell? ⟨w.heap.size, 4, none⟩ = some (.string x.nm) := keep_cell hb1 (by simp [go_sem])
    have e5 : w1.cell? ⟨w.heap.size, 5, none⟩ = some (.string x.tg) := keep_cell hb1 (by simp [go_sem])
    have e6 : w1.cell? ⟨w.heap.size, 6, none⟩ = some (.int .i64 x.n) := keep_cell hb1 (by simp [go_sem])
    have e7 : w1.cell? ⟨w.heap.size, 7, none⟩ = some (.slice A1 n1 c1) := keep_cell hb1 (by simp [go_sem])
    have v0 := varS_size (x.kd.toNat)
    have v1 := varS_size (x.cl.toNat)
    have v2 := varS_size (x.no.toNat)
    have v3 := varS_size (x.n.toNat)
    have v4 := varS_size (x.s.size)
    have v5 := varS_size (x.nm.size)
    have v6 := varS_size (x.tg.size)
    have v7 := varS_size (n1)
    have hn1 : n1 ≤ 4 := by have := HN.out; omega
    go_wp2
    refine wp_region_grow (by kernel_rfl) (by kernel_rfl) ?_
    repeat (first | go_big_quiet_step (first | (go_at_call 70; with_reducible exact grow_of (var_spec _ _ (by omega))) | (go_at_call 70; exact grow_of (var_specZ _ _ (by omega) (by omega))) | (go_at_call 71; exact grow_of (l4Piece_spec _ _ (by omega)))))
    refine wpQuiet_nil ?_
    intro _ hw'
    obtain ⟨⟨w2, hb2⟩, hw''⟩ := hw'
    change _ = w2 at hw''
    subst hw''
    rename_i w2
    have hB2 := bthen hB1 hb2
    have e7' := keep_cell hb2 e7
    have hz2 := hb2.size
    have hz2' : w.heap.size < w2.heap.size := by omega
    clear e0 e1 e2 e3 e4 e5 e6 e7 v0 v1 v2 v3 v4 v5 v6 v7
    obtain ⟨hd, hhd⟩ : ∃ t, cmHd x = t := ⟨_, rfl⟩
    have HH := Lib.hid (show cmTo x 0 = hd from hhd)
    unfold cmHd at hhd; have HHD := Lib.hid hhd; clear hhd
    try simp only [← HN.out] at HHD
    go_wp2
    go_loopw [3, 4] (fun o i wr => ∃ k : Nat, k ≤ n1 ∧ i = .int .i64 k ∧ o = .string (cmTo x k) ∧ Below w2.heap.size w2 wr) (fun _ i _ => n1 - (intOf i).toNat)
    case atStart => exact ⟨0, Nat.zero_le _, rfl, by rw [HH.out, ← HHD.out, HN.out], by first | exact Below.refl _ _ | exact (Below.refl _ _).drew⟩
    case round =>
      obtain ⟨k, hk, rfl, rfl, hbr⟩ := hrel
      have HS := Lib.hid (show cmTo x (k + 1) = cmTo x k ++ sAt x.ch k from rfl)
      have ht := HTS.out k (by have := HN.out; omega)
      have c7 := keep_cell hbr e7'
      by_cases hlt : k < n1
      · have h8 := A9.out k (by have := HN.out; omega)
        obtain ⟨b, off, rfl, hbl, hc⟩ := strsCell (strR_at ((h1.keep hB2).keep hbr)) hlt
        go_wp2
        exact ⟨⟨k + 1, by omega, by go_num, by rw [HS.out], hbr⟩, by simp [intOf]; omega⟩
      · go_wp2
        go_returns
        have hkn : k = x.ch.length := by have := HN.out; omega
        exact ⟨by rw [hkn]; rfl, bthen hB2 hbr⟩
end Go.Proofs.Ytdphdnllhmnelaa
/- Plain laws: the text of an instance, and its being read back. -/
namespace Go.Proofs.Ytdphdnllhmnelaa
open Go.RowKit

theorem iddOk_bd {x : Idd} (h : iddOkB x = true) : (0 ≤ x.r ∧ x.r ≤ 2) ∧ 1 ≤ x.s ∧ x.s ≤ 6 := by
  unfold iddOkB at h
  rw [Bool.and_eq_true] at h
  exact ⟨inB_le h.1, inB_le h.2⟩
theorem idsOk_at {l : List Idd} (h : idsOkB l = true) {j : Nat} (hj : j < l.length) : iddOkB (iddAt l j) = true ∧ (j = 0 ∨ iddLess (iddAt l (j - 1)) (iddAt l j) = true) := by
  unfold idsOkB at h
  rw [List.all_eq_true] at h
  have := h j (List.mem_range.2 hj)
  simpa [Bool.and_eq_true, Bool.or_eq_true] using this
theorem idsOk_key {l : List Idd} (h : idsOkB l = true) : ∀ j, j < l.length → (j : Int) ≤ 6 * (iddAt l j).r + (iddAt l j).s - 1
  | 0, hj => by have := iddOk_bd (idsOk_at h hj).1; omega
  | j + 1, hj => by
    have ih := idsOk_key h j (by omega)
    have h1 := iddOk_bd (idsOk_at h hj).1
    have h2 := iddOk_bd (idsOk_at h (j := j) (by omega)).1
    rcases (idsOk_at h hj).2 with h3 | h3
    · omega
    · unfold iddLess at h3
      simp only [Nat.add_sub_cancel, Bool.or_eq_true, Bool.and_eq_true, decide_eq_true_eq, beq_iff_eq] at h3
      omega
theorem idsOk_len {l : List Idd} (h : idsOkB l = true) : l.length ≤ 18 := by
  rcases Nat.lt_or_ge 18 l.length with h1 | h1
  · have h2 := idsOk_key h 18 h1
    have h3 := iddOk_bd (idsOk_at h h1).1
    omega
  · exact h1
/-- the bounds of a right instance -/
structure InsBd (x : Ins) : Prop where
  r : 0 ≤ x.id.r ∧ x.id.r ≤ 2
  s : 1 ≤ x.id.s ∧ x.id.s ≤ 6
  bal : -1 ≤ x.bal ∧ x.bal ≤ 600
  vb : -1 ≤ x.vb ∧ x.vb ≤ 600
  st : 0 ≤ x.st ∧ x.st ≤ 3
  cmd : cmOkB x.cmd = true
  seq : 0 ≤ x.seq ∧ x.seq ≤ 60
  len : x.deps.length ≤ 18
  dep : ∀ j, j < x.deps.length → (0 ≤ (iddAt x.deps j).r ∧ (iddAt x.deps j).r ≤ 2) ∧ 1 ≤ (iddAt x.deps j).s ∧ (iddAt x.deps j).s ≤ 6
theorem insOk_bd {x : Ins} (h : insOkB x = true) : InsBd x := by
  unfold insOkB at h
  simp only [Bool.and_eq_true] at h
  obtain ⟨⟨⟨⟨⟨⟨⟨⟨h1, h2⟩, h3⟩, h4⟩, h5⟩, h6⟩, h7⟩, h8⟩, h9⟩ := h
  have k1 := iddOk_bd h1
  have k2 := inB_le h2
  have k3 := inB_le h3
  exact ⟨k1.1, k1.2, k2, by omega, inB_le h4, h5, inB_le h6, idsOk_len h7, fun j hj => iddOk_bd (idsOk_at h7 hj).1⟩
def sameT (b : Bool) : ByteArray := if b then ⟨#[1]⟩ else ⟨#[0]⟩
theorem sameT_size (b : Bool) : (sameT b).size = 1 := by cases b <;> rfl
def insHd (x : Ins) : ByteArray := varS x.id.r.toNat ++ varS x.id.s.toNat ++ varS (x.bal + 1).toNat ++ varS (x.vb + 1).toNat ++ varS x.st.toNat ++ varS x.seq.toNat ++ sameT x.same ++ (varS (cmText x.cmd).size ++ cmText x.cmd) ++ varS x.deps.length
def insTo (x : Ins) : Nat → ByteArray
  | 0 => insHd x
  | k + 1 => insTo x k ++ varS (iddAt x.deps k).r.toNat ++ varS (iddAt x.deps k).s.toNat
/-- an instance as text -/
def insText (x : Ins) : ByteArray := if insOkB x = true then insTo x x.deps.length else ByteArray.empty
def depL : List Idd → ByteArray
  | [] => ByteArray.empty
  | d :: l => varS d.r.toNat ++ (varS d.s.toNat ++ depL l)
theorem depL_app (a b : List Idd) : depL (a ++ b) = depL a ++ depL b := by
  induction a with
  | nil => simp [depL]
  | cons x a ih => simp only [List.cons_append, depL, ih, ByteArray.append_assoc]
theorem depL_drop {l : List Idd} {k : Nat} (h : k < l.length) : depL (l.drop k) = varS (iddAt l k).r.toNat ++ (varS (iddAt l k).s.toNat ++ depL (l.drop (k + 1))) := by
  rw [iddAt_get h, List.drop_eq_getElem_cons h]
  rfl
theorem insText_yes {x : Ins} (h : insOkB x = true) : insText x = insTo x x.deps.length := by unfold insText; rw [if_pos h]
theorem insText_no {x : Ins} (h : insOkB x = false) : insText x = ByteArray.empty := by unfold insText; rw [if_neg (by rw [h]; simp)]
theorem insTo_depL (x : Ins) : ∀ k, k ≤ x.deps.length → insTo x k = insHd x ++ depL (x.deps.take k)
  | 0, _ => by simp [insTo, depL]
  | k + 1, h => by
    have e : iddAt x.deps k = x.deps[k]'(by omega) := iddAt_get (by omega)
    rw [List.take_succ_eq_append_getElem (by omega), depL_app, insTo, insTo_depL x k (by omega), e]
    simp [depL, ByteArray.append_assoc]
theorem insText_depL {x : Ins} (h : insOkB x = true) : insText x = varS x.id.r.toNat ++ (varS x.id.s.toNat ++ (varS (x.bal + 1).toNat ++ (varS (x.vb + 1).toNat ++ (varS x.st.toNat ++ (varS x.seq.toNat ++ (sameT x.same ++ (varS (cmText x.cmd).size ++ (cmText x.cmd ++ (varS x.deps.length ++ depL x.deps))))))))) := by
  rw [insText_yes h, insTo_depL x _ (Nat.le_refl _), List.take_length]
  unfold insHd
  simp only [ByteArray.append_assoc]
theorem insHd_size {x : Ins} (h : InsBd x) : (insHd x).size ≤ 5000 := by
  obtain ⟨a, b, c, d, e, f, g, i, j⟩ := h
  have v1 := varS_size x.id.r.toNat
  have v2 := varS_size x.id.s.toNat
  have v3 := varS_size (x.bal + 1).toNat
  have v4 := varS_size (x.vb + 1).toNat
  have v5 := varS_size x.st.toNat
  have v6 := varS_size x.seq.toNat
  have v7 := sameT_size x.same
  have v8 := varS_size (cmText x.cmd).size
  have v9 := cmText_size x.cmd
  have v10 := varS_size x.deps.length
  unfold insHd
  simp only [ByteArray.size_append]
  omega
theorem insTo_size {x : Ins} (h : InsBd x) : ∀ k, k ≤ x.deps.length → (insTo x k).size ≤ 5000 + 10 * k
  | 0, _ => by have := insHd_size h; unfold insTo; omega
  | k + 1, hk => by
    have h1 := insTo_size h k (by omega)
    have h2 := h.dep k (by omega)
    have v1 := varS_size (iddAt x.deps k).r.toNat
    have v2 := varS_size (iddAt x.deps k).s.toNat
    unfold insTo
    simp only [ByteArray.size_append]; omega
theorem insText_size (x : Ins) : (insText x).size ≤ 5180 := by
  cases h : insOkB x
  · rw [insText_no h]; exact Nat.zero_le _
  · have h1 := insOk_bd h
    have h2 := insTo_size h1 _ (Nat.le_refl _)
    have h3 := h1.len
    rw [insText_yes h]; omega
theorem insText_ne {x : Ins} (h : insOkB x = true) : insText x ≠ ByteArray.empty := by
  intro e
  have h1 := congrArg ByteArray.size e
  rw [insText_depL h, ByteArray.size_append] at h1
  have h2 := varS_pos x.id.r.toNat
  have h3 : ByteArray.empty.size = 0 := rfl
  omega
/-- what the reader's steps give on the text of a right instance -/
theorem ins_parse {x : Ins} (h : insOkB x = true) : ∃ r1 r2 r3 r4 r5 r6 r7 r8, numF (insText x, false) = (x.id.r.toNat, (r1, false)) ∧ numF (r1, false) = (x.id.s.toNat, (r2, false)) ∧ numF (r2, false) = ((x.bal + 1).toNat, (r3, false)) ∧ numF (r3, false) = ((x.vb + 1).toNat, (r4, false)) ∧
    numF (r4, false) = (x.st.toNat, (r5, false)) ∧ numF (r5, false) = (x.seq.toNat, (r6, false)) ∧ cutF (r6, false) 1 = (sameT x.same, (r7, false)) ∧ textF (r7, false) = (cmText x.cmd, (r8, false)) ∧ manyF (r8, false) 18 = (x.deps.length, (depL x.deps, false)) := by
  have hb := insOk_bd h
  have a := hb.r; have b := hb.s; have c := hb.bal; have d := hb.vb; have e := hb.st; have f := hb.seq; have g := hb.len
  have i := cmText_size x.cmd
  rw [insText_depL h]
  exact ⟨_, _, _, _, _, _, _, _, numF_var (by omega) _, numF_var (by omega) _, numF_var (by omega) _, numF_var (by omega) _, numF_var (by omega) _, numF_var (by omega) _, cutF_app _ _ (sameT_size _), textF_app (by omega) _, manyF_var (by omega) (by omega) _⟩
/-- what is read so far agrees with whatever instance the text is the text of -/
def InJ (s : ByteArray) (r sl bal vb st sq : Nat) (sm t : ByteArray) (m : Nat) (ds : List Idd) (x : Sc) : Prop :=
  ∀ c, insOkB c = true → insText c = s → c.id = ⟨r, sl⟩ ∧ c.bal = bal - 1 ∧ c.vb = vb - 1 ∧ c.st = st ∧ c.seq = sq ∧ sameT c.same = sm ∧ cmText c.cmd = t ∧ m = c.deps.length ∧ ds = c.deps.take ds.length ∧ ds.length ≤ c.deps.length ∧ x = (depL (c.deps.drop ds.length), false)
theorem InJ.start {s : ByteArray} {x1 x2 x3 x4 x5 x6 x9 : Nat × Sc} {x7 x8 : ByteArray × Sc} (f1 : numF (s, false) = x1) (f2 : numF x1.2 = x2) (f3 : numF x2.2 = x3) (f4 : numF x3.2 = x4) (f5 : numF x4.2 = x5) (f6 : numF x5.2 = x6) (f7 : cutF x6.2 1 = x7) (f8 : textF x7.2 = x8) (f9 : manyF x8.2 18 = x9) :
    InJ s x1.1 x2.1 x3.1 x4.1 x5.1 x6.1 x7.1 x8.1 x9.1 [] x9.2 := by
  intro c hc hs
  obtain ⟨r1, r2, r3, r4, r5, r6, r7, r8, e1, e2, e3, e4, e5, e6, e7, e8, e9⟩ := ins_parse hc
  rw [hs] at e1
  have hb := insOk_bd hc
  rw [e1] at f1; subst f1; simp only at f2
  rw [e2] at f2; subst f2; simp only at f3
  rw [e3] at f3; subst f3; simp only at f4
  rw [e4] at f4; subst f4; simp only at f5
  rw [e5] at f5; subst f5; simp only at f6
  rw [e6] at f6; subst f6; simp only at f7
  rw [e7] at f7; subst f7; simp only at f8
  rw [e8] at f8; subst f8; simp only at f9
  rw [e9] at f9; subst f9
  have a := hb.r; have b := hb.s; have c1 := hb.bal; have d := hb.vb; have e := hb.st; have f := hb.seq
  obtain ⟨⟨cr, cs⟩, cb, cv, ct, cc, cq, cd, cm⟩ := c
  simp only at a b c1 d e f
  exact ⟨by simp only [Idd.mk.injEq]; omega, by simp only; omega, by simp only; omega, by simp only; omega, by simp only; omega, rfl, rfl, rfl, by simp, by simp, by simp⟩
theorem InJ.step {s : ByteArray} {r sl bal vb st sq : Nat} {sm t : ByteArray} {m : Nat} {ds : List Idd} {x : Sc} (h : InJ s r sl bal vb st sq sm t m ds x) (hm : ds.length < m) : InJ s r sl bal vb st sq sm t m (ds ++ [⟨(numF x).1, (numF (numF x).2).1⟩]) (numF (numF x).2).2 := by
  intro c hc hs
  obtain ⟨h1, h2, h3, h4, h5, h6, h7, h8, h9, h10, h11⟩ := h c hc hs
  have hk : ds.length < c.deps.length := by omega
  have hd := (insOk_bd hc).dep _ hk
  rw [h11, depL_drop hk, numF_var (by omega), numF_var (by omega)]
  refine ⟨h1, h2, h3, h4, h5, h6, h7, h8, ?_, by rw [List.length_append]; simp only [List.length_cons, List.length_nil]; omega, by rw [List.length_append]; rfl⟩
  rw [List.length_append, List.length_singleton, List.take_succ_eq_append_getElem hk, ← h9]
  have e := iddAt_get hk
  rw [← e]
  congr 2
  generalize iddAt c.deps ds.length = y at hd ⊢
  obtain ⟨yr, ys⟩ := y
  simp only at hd ⊢
  rw [Idd.mk.injEq]; omega
def isOne (s : ByteArray) : Bool := decide (s = ⟨#[1]⟩)
theorem isOne_sameT (b : Bool) : isOne (sameT b) = b := by cases b <;> decide
theorem InJ.end_ {s : ByteArray} {r sl bal vb st sq : Nat} {sm t : ByteArray} {m : Nat} {ds : List Idd} {x : Sc} (h : InJ s r sl bal vb st sq sm t m ds x) (hm : m ≤ ds.length) : ∀ c, insOkB c = true → insText c = s → c = ⟨⟨r, sl⟩, bal - 1, vb - 1, st, rdCm t, sq, ds, isOne sm⟩ ∧ x.2 = false := by
  intro c hc hs
  obtain ⟨h1, h2, h3, h4, h5, h6, h7, h8, h9, h10, h11⟩ := h c hc hs
  have hl : ds.length = c.deps.length := by omega
  rw [hl, List.take_length] at h9
  refine ⟨?_, by rw [h11]⟩
  have e1 := (rdCm_yes (insOk_bd hc).cmd h7).1
  rw [← h1, ← h2, ← h3, ← h4, ← h5, ← h6, isOne_sameT, e1, h9]
open Classical in
noncomputable def rdIn (s : ByteArray) : Ins := if h : ∃ c, insOkB c = true ∧ insText c = s then Classical.choose h else insNil
open Classical in
noncomputable def rdInB (s : ByteArray) : Bool := if ∃ c, insOkB c = true ∧ insText c = s then true else false
theorem insText_inj {c c' : Ins} (h : insOkB c = true) (h' : insOkB c' = true) (e : insText c = insText c') : c = c' := by
  have key : ∀ k, k ≤ c.deps.length → ∃ ds x, ds.length = k ∧ InJ (insText c) (numF (insText c, false)).1 (numF (numF (insText c, false)).2).1 (numF (numF (numF (insText c, false)).2).2).1 (numF (numF (numF (numF (insText c, false)).2).2).2).1 (numF (numF (numF (numF (numF (insText c, false)).2).2).2).2).1 (numF (numF (numF (numF (numF (numF (insText c, false)).2).2).2).2).2).1 (cutF (numF (numF (numF (numF (numF (numF (insText c, false)).2).2).2).2).2).2 1).1 (textF (cutF (numF (numF (numF (numF (numF (numF (insText c, false)).2).2).2).2).2).2 1).2).1 (manyF (textF (cutF (numF (numF (numF (numF (numF (numF (insText c, false)).2).2).2).2).2).2 1).2).2 18).1 ds x := by
    intro k
    induction k with
    | zero => intro _; exact ⟨[], _, rfl, InJ.start rfl rfl rfl rfl rfl rfl rfl rfl rfl⟩
    | succ k ih =>
      intro hk
      obtain ⟨ds, x, hl, hj⟩ := ih (by omega)
      obtain ⟨_, _, _, _, _, _, _, h8, _⟩ := hj c h rfl
      exact ⟨_, _, by rw [List.length_append, hl]; rfl, hj.step (by omega)⟩
  obtain ⟨ds, x, hl, hj⟩ := key _ (Nat.le_refl _)
  obtain ⟨_, _, _, _, _, _, _, h8, _⟩ := hj c h rfl
  have e1 := (hj.end_ (by omega) c h rfl).1
  have e2 := (hj.end_ (by omega) c' h' e.symm).1
  rw [e1, e2]
theorem rdIn_yes {s : ByteArray} {c : Ins} (h1 : insOkB c = true) (h2 : insText c = s) : rdIn s = c ∧ rdInB s = true := by
  have h : ∃ c, insOkB c = true ∧ insText c = s := ⟨c, h1, h2⟩
  refine ⟨?_, by unfold rdInB; rw [if_pos h]⟩
  unfold rdIn
  rw [dif_pos h]
  have hc := Classical.choose_spec h
  exact insText_inj hc.1 h1 (hc.2.trans h2.symm)
theorem rdIn_no {s : ByteArray} (h : ∀ c, insOkB c = true → insText c = s → False) : rdIn s = insNil ∧ rdInB s = false := by
  have h' : ¬ ∃ c, insOkB c = true ∧ insText c = s := fun ⟨c, h1, h2⟩ => h c h1 h2
  exact ⟨by unfold rdIn; rw [dif_neg h'], by unfold rdInB; rw [if_neg h']⟩
end Go.Proofs.Ytdphdnllhmnelaa
/- Contracts of ShowInst (both sides): the text of an instance. -/
namespace Go.Proofs.Ytdphdnllhmnelaa
open Go.RowKit
attribute [local go_sem] Grow.cell Grow.frozen
def hdTo (L : List Int) : Nat → ByteArray
  | 0 => ByteArray.empty
  | k + 1 => hdTo L k ++ varS (L.getD k 0).toNat
theorem hdTo_size {L : List Int} (h : ∀ j, 0 ≤ L.getD j 0 ∧ L.getD j 0 ≤ 601) : ∀ k, (hdTo L k).size ≤ k * 602
  | 0 => by simp [hdTo]
  | k + 1 => by
    have h1 := hdTo_size h k
    have h2 := h k
    have h3 := varS_size (L.getD k 0).toNat
    unfold hdTo
    rw [ByteArray.size_append]; omega
theorem insHd_hd (x : Ins) : insTo x 0 = hdTo [x.id.r, x.id.s, x.bal + 1, x.vb + 1, x.st, x.seq] 6 ++ sameT x.same ++ (varS (cmText x.cmd).size ++ cmText x.cmd) ++ varS x.deps.length := by
  unfold insTo insHd
  simp [hdTo]
attribute [local irreducible] StrsAt StrR RowR varS insOkB cmText
set_option maxRecDepth 8000 in
set_option maxHeartbeats 4000000 in
theorem showInst_impl (x : Ins) (A1 : Option Addr) (n1 c1 : Nat) (A2 : Option Addr) (n2 c2 : Nat) (w : World) (h1 : StrR w A1 n1 c1 x.cmd.ch) (h2 : RowR iddR 2 w A2 n2 c2 x.deps) (hb1 : cmB x.cmd) (hb2 : iddsB x.deps) :
    Calls Try.prog 26 #[insV x (.slice A1 n1 c1) (.slice A2 n2 c2)] w fun e w' => e = .returned (.string (insText x)) ∧ Below w.heap.size w w' := by
  have HN := Lib.hid h2.len
  have al := (Below.refl w.heap.size w).alloc (Nat.le_refl _) (.cells #[.int .i64 x.id.r, .int .i64 x.id.s, .int .i64 x.bal, .int .i64 x.vb, .int .i64 x.st, .int .i64 x.cmd.kd, .int .i64 x.cmd.cl, .int .i64 x.cmd.no, .string x.cmd.s, .string x.cmd.nm, .string x.cmd.tg, .int .i64 x.cmd.n, .slice A1 n1 c1, .int .i64 x.seq, .slice A2 n2 c2, .bool x.same] 50)
  obtain ⟨q, hq⟩ : ∃ q, insOkB x = q := ⟨_, rfl⟩
  have HQ := Lib.hid hq
  cases q
  · have HT := Lib.hid (insText_no hq)
    clear hq
    rw [HT.out]
    unfold insV
    go_enter Try.func26, Try.ntmps26
    go_wp2_with fail
    refine (instOk_impl x _ _ _ _ _ _ _ (h1.keep al) (h2.keep iddK al) hb1 hb2).mono ?_
    rintro e w1 ⟨rfl, hc1⟩
    rw [HQ.out]
    go_wp2
    go_returns
    exact ⟨rfl, bthen al hc1⟩
  · have HT := Lib.hid (insText_yes hq)
    have hd := insOk_bd hq
    have HTS := Lib.hid (insTo_size hd)
    have hcs := cmText_size x.cmd
    obtain ⟨a1, a2, a3, a4, a5, a6, a7, a8, a9⟩ := hd
    have A9 := Lib.hid a9; clear a9 hq a6
    rw [HT.out]
    unfold insV
    go_enter Try.func26, Try.ntmps26
    go_wp2_with fail
    refine (instOk_impl x _ _ _ _ _ _ _ (h1.keep al) (h2.keep iddK al) hb1 hb2).mono ?_
    rintro e w1 ⟨rfl, hc1⟩
    rw [HQ.out]
    have hB1 := bthen al hc1
    have hz1 := hc1.size
    simp at hz1
    have hz1' : w.heap.size < w1.heap.size := by omega
    have e0 : w1.cell? ⟨w.heap.size, 0, none⟩ = some (.int .i64 x.id.r) := keep_cell hc1 (by simp [go_sem])
    have e1 : w1.cell? ⟨w.heap.size, 1, none⟩ = some (.int .i64 x.id.s) := keep_cell hc1 (by simp [go_sem])
    have e2 : w1.cell? ⟨w.heap.size, 2, none⟩ = some (.int .i64 x.bal) := keep_cell hc1 (by simp [go_sem])
    have e3 : w1.cell? ⟨w.heap.size, 3, none⟩ = some (.int .i64 x.vb) := keep_cell hc1 (by simp [go_sem])
    have e4 : w1.cell? ⟨w.heap.size, 4, none⟩ = some (.int .i64 x.st) := keep_cell hc1 (by simp [go_sem])
    have e5 : w1.cell? ⟨w.heap.size, 5, none⟩ = some (.int .i64 x.cmd.kd) := keep_cell hc1 (by simp [go_sem])
    have e6 : w1.cell? ⟨w.heap.size, 6, none⟩ = some (.int .i64 x.cmd.cl) := keep_cell hc1 (by simp [go_sem])
    have e7 : w1.cell? ⟨w.heap.size, 7, none⟩ = some (.int .i64 x.cmd.no) := keep_cell hc1 (by simp [go_sem])
    have e8 : w1.cell? ⟨w.heap.size, 8, none⟩ = some (.string x.cmd.s) := keep_cell hc1 (by simp [go_sem])
    have e9 : w1.cell? ⟨w.heap.size, 9, none⟩ = some (.string x.cmd.nm) := keep_cell hc1 (by simp [go_sem])
    have e10 : w1.cell? ⟨w.heap.size, 10, none⟩ = some (.string x.cmd.tg) := keep_cell hc1 (by simp [go_sem])
    have e11 : w1.cell? ⟨w.heap.size, 11, none⟩ = some (.int .i64 x.cmd.n) := keep_cell hc1 (by simp [go_sem])
    have e12 : w1.cell? ⟨w.heap.size, 12, none⟩ = some (.slice A1 n1 c1) := keep_cell hc1 (by simp [go_sem])
    have e13 : w1.cell? ⟨w.heap.size, 13, none⟩ = some (.int .i64 x.seq) := keep_cell hc1 (by simp [go_sem])
    have e14 : w1.cell? ⟨w.heap.size, 14, none⟩ = some (.slice A2 n2 c2) := keep_cell hc1 (by simp [go_sem])
    have e15 : w1.cell? ⟨w.heap.size, 15, none⟩ = some (.bool x.same) := keep_cell hc1 (by simp [go_sem])
    have v0 := varS_size (x.id.r.toNat)
    have v1 := varS_size (x.id.s.toNat)
    have v2 := varS_size ((x.bal + 1).toNat)
    have v3 := varS_size ((x.vb + 1).toNat)
    have v4 := varS_size (x.st.toNat)
    have v5 := varS_size (x.seq.toNat)
    have v6 := varS_size ((cmText x.cmd).size)
    have v7 := varS_size (n2)
    have hn2 : n2 ≤ 18 := by have := HN.out; omega
    go_wp2_with fail
    have al1 := (Below.refl w1.heap.size w1).alloc (Nat.le_refl _) (.cells #[.int .i64 x.id.r, .int .i64 x.id.s, .int .i64 (x.bal + 1), .int .i64 (x.vb + 1), .int .i64 x.st, .int .i64 x.seq] 3)
    obtain ⟨W, hW⟩ : ∃ W, W = w1.alloc (.cells #[.int .i64 x.id.r, .int .i64 x.id.s, .int .i64 (x.bal + 1), .int .i64 (x.vb + 1), .int .i64 x.st, .int .i64 x.seq] 3) := ⟨_, rfl⟩
    obtain ⟨L, hL⟩ : ∃ L, L = [x.id.r, x.id.s, x.bal + 1, x.vb + 1, x.st, x.seq] := ⟨_, rfl⟩
    have HC := Lib.hid (show ∀ k, k < 6 → W.cell? ⟨w1.heap.size, k, none⟩ = some (.int .i64 (L.getD k 0)) from fun k hk => by
      rw [hW, hL]
      rcases (show k = 0 ∨ k = 1 ∨ k = 2 ∨ k = 3 ∨ k = 4 ∨ k = 5 by omega) with rfl | rfl | rfl | rfl | rfl | rfl <;> simp [go_sem])
    have HL := Lib.hid (show ∀ k, 0 ≤ L.getD k 0 ∧ L.getD k 0 ≤ 601 from fun k => by
      rw [hL]
      rcases (show k = 0 ∨ k = 1 ∨ k = 2 ∨ k = 3 ∨ k = 4 ∨ k = 5 ∨ 6 ≤ k by omega) with rfl | rfl | rfl | rfl | rfl | rfl | h6 <;> first | (simp; omega) | (rw [List.getD_eq_getElem?_getD, List.getElem?_eq_none (by simpa using h6)]; simp))
    have HH := Lib.hid (insHd_hd x)
    rw [← hL] at HH
    have hBW := bthen hB1 al1
    rw [← hW] at hBW al1 ⊢
    have e0' := keep_cell al1 e0; clear e0; have e0 := e0'; clear e0'
    have e1' := keep_cell al1 e1; clear e1; have e1 := e1'; clear e1'
    have e2' := keep_cell al1 e2; clear e2; have e2 := e2'; clear e2'
    have e3' := keep_cell al1 e3; clear e3; have e3 := e3'; clear e3'
    have e4' := keep_cell al1 e4; clear e4; have e4 := e4'; clear e4'
    have e5' := keep_cell al1 e5; clear e5; have e5 := e5'; clear e5'
    have e6' := keep_cell al1 e6; clear e6; have e6 := e6'; clear e6'
    have e7' := keep_cell al1 e7; clear e7; have e7 := e7'; clear e7'
    have e8' := keep_cell al1 e8; clear e8; have e8 := e8'; clear e8'
    have e9' := keep_cell al1 e9; clear e9; have e9 := e9'; clear e9'
    have e10' := keep_cell al1 e10; clear e10; have e10 := e10'; clear e10'
    have e11' := keep_cell al1 e11; clear e11; have e11 := e11'; clear e11'
    have e12' := keep_cell al1 e12; clear e12; have e12 := e12'; clear e12'
    have e13' := keep_cell al1 e13; clear e13; have e13 := e13'; clear e13'
    have e14' := keep_cell al1 e14; clear e14; have e14 := e14'; clear e14'
    have e15' := keep_cell al1 e15; clear e15; have e15 := e15'; clear e15'
    have hWs : w1.heap.size < W.heap.size := by rw [hW]; simp [go_sem]
    clear hW hL al1
    go_loopw [3, 30] (fun o i wr => ∃ k : Nat, k ≤ 6 ∧ i = .int .i64 k ∧ o = .string (hdTo L k) ∧ Below W.heap.size W wr) (fun _ i _ => 6 - (intOf i).toNat)
    case atStart => exact ⟨0, Nat.zero_le _, rfl, rfl, Below.refl _ _⟩
    case round =>
      obtain ⟨k, hk, rfl, rfl, hbr⟩ := hrel
      have hts := hdTo_size HL.out k
      by_cases hlt : k < 6
      · have HS := Lib.hid (show hdTo L (k + 1) = hdTo L k ++ varS (L.getD k 0).toNat from rfl)
        obtain ⟨z, hz⟩ : ∃ z, L.getD k 0 = z := ⟨_, rfl⟩
        have hzb := HL.out k
        have ck := keep_cell hbr (HC.out k hlt)
        rw [hz] at hzb ck HS
        clear hz
        have hvz := varS_size z.toNat
        go_wp2_with fail
        refine (var_implZ z _ (by omega) (by omega)).mono ?_
        rintro e w9 ⟨rfl, hb9⟩
        go_wp2
        exact ⟨⟨k + 1, by omega, by go_num, by rw [HS.out], bthen hbr hb9⟩, by simp [intOf]; omega⟩
      · obtain rfl : k = 6 := by omega
        have f4 := keep_cell hbr e4
        have f5 := keep_cell hbr e5
        have f6 := keep_cell hbr e6
        have f7 := keep_cell hbr e7
        have f8 := keep_cell hbr e8
        have f9 := keep_cell hbr e9
        have f10 := keep_cell hbr e10
        have f11 := keep_cell hbr e11
        have f12 := keep_cell hbr e12
        have f13 := keep_cell hbr e13
        have f14 := keep_cell hbr e14
        have f15 := keep_cell hbr e15
        have hBr := bthen hBW hbr
        have hzr := hbr.size
        have hgr : w.heap.size < wr.heap.size := by omega
        obtain ⟨b, hsm⟩ : ∃ b, x.same = b := ⟨_, rfl⟩
        rw [hsm] at f15 HH
        obtain ⟨t6, ht6⟩ : ∃ t, hdTo L 6 = t := ⟨_, rfl⟩
        rw [ht6] at hts HH ⊢
        clear ht6 hsm
        have u3 := sameT_size b
        obtain ⟨wd, hwd⟩ : ∃ W, W = wr := ⟨_, rfl⟩
        rw [← hwd] at hBr hgr f5 f6 f7 f8 f9 f10 f11 f12 f14 f15 ⊢
        clear hbr hwd hzr f4 f13 e0 e1 e2 e3 e4 e5 e6 e7 e8 e9 e10 e11 e12 e13 e14 e15
        cases b
        · rw [show sameT false = ⟨#[0]⟩ from rfl] at u3 HH
          go_wp2
          refine wp_region_grow (by kernel_rfl) (by kernel_rfl) ?_
          repeat (first | go_big_quiet_step (first | (go_at_call 78; exact grow_of (showCmd_impl x.cmd _ _ _ _ ((h1.keep hBr).keep (Grow.below _)) hb1)) | (go_at_call 77; exact grow_of (sized_impl _ _ (by omega))) | (go_at_call 76; exact grow_of (var_impl _ _ (by omega)))))
          refine wpQuiet_nil ?_
          intro _ hw'
          obtain ⟨⟨w4, hb4⟩, hw''⟩ := hw'
          change _ = w4 at hw''
          subst hw''
          rename_i w4
          have hB4 := bthen hBr hb4
          have e14 := keep_cell hb4 f14
          have hz4 := hb4.size
          have HH0 := Lib.hid HH.out
          rw [← HN.out] at HH0
          have hg4 : w.heap.size < w4.heap.size := by omega
          go_wp2
          have hBw := hB4.size
          have hgw : w.heap.size < w4.heap.size := by omega
          go_loopw [3, 57] (fun o i wr => ∃ k : Nat, k ≤ n2 ∧ i = .int .i64 k ∧ o = .string (insTo x k) ∧ Below w4.heap.size w4 wr) (fun _ i _ => n2 - (intOf i).toNat)
          case atStart => exact ⟨0, Nat.zero_le _, rfl, by rw [HH0.out], by first | exact Below.refl _ _ | exact (Below.refl _ _).drew⟩
          case round =>
            obtain ⟨k, hk, rfl, rfl, hbr⟩ := hrel
            have HS := Lib.hid (show insTo x (k + 1) = insTo x k ++ varS (iddAt x.deps k).r.toNat ++ varS (iddAt x.deps k).s.toNat from rfl)
            have ht := HTS.out k (by have := HN.out; omega)
            have hz9 := hbr.size
            by_cases hlt : k < n2
            · obtain ⟨d1, d2, d3⟩ := A9.out k (by have := HN.out; omega)
              have h2r := (h2.keep iddK hB4).keep iddK hbr
              obtain ⟨b, off, rfl⟩ := h2r.head (by omega)
              obtain ⟨bl, y, cs, hy, hR, hcell⟩ := h2r.elem_at hlt
              obtain ⟨y0, y1⟩ := iddR_cells hR hcell
              have hax : iddAt x.deps k = y := iddAt_of hy
              rw [hax] at HS d1 d2 d3
              clear hcell hR hy h2r hax
              have u1 := varS_size y.r.toNat
              have u2 := varS_size y.s.toNat
              have al := (Below.refl wr.heap.size wr).alloc (Nat.le_refl _) (.cells #[.int .i64 y.r, .int .i64 y.s] 46)
              go_wp2_with fail
              obtain ⟨W, hW⟩ : ∃ W, W = wr.alloc (.cells #[.int .i64 y.r, .int .i64 y.s] 46) := ⟨_, rfl⟩
              obtain ⟨g, hg⟩ : ∃ g, wr.heap.size = g := ⟨_, rfl⟩
              have z0 : W.cell? ⟨g, 0, none⟩ = some (.int .i64 y.r) := by rw [hW, ← hg]; simp [go_sem]
              have z1 : W.cell? ⟨g, 1, none⟩ = some (.int .i64 y.s) := by rw [hW, ← hg]; simp [go_sem]
              have hbW := bthen hbr al
              rw [← hW] at hbW ⊢
              have hgW := cell_lt z0
              rw [hg] at ⊢
              clear hW al y0 y1
              refine wp_region_grow (by kernel_rfl) (by kernel_rfl) ?_
              repeat (first | go_big_quiet_step ((go_at_call 76; exact grow_of (var_implZ _ _ (by omega) (by omega)))))
              refine wpQuiet_nil ?_
              intro _ hw'
              obtain ⟨⟨w5, hb5⟩, hw''⟩ := hw'
              change _ = w5 at hw''
              subst hw''
              go_wp2
              exact ⟨⟨k + 1, by omega, by go_num, by rw [HS.out], bthen hbW hb5⟩, by simp [intOf]; omega⟩
            · go_wp2
              go_returns
              have hkn : k = x.deps.length := by have := HN.out; omega
              exact ⟨by rw [hkn]; rfl, bthen hB4 hbr⟩
        · rw [show sameT true = ⟨#[1]⟩ from rfl] at u3 HH
          go_wp2
          refine wp_region_grow (by kernel_rfl) (by kernel_rfl) ?_
          repeat (first | go_big_quiet_step (first | (go_at_call 78; exact grow_of (showCmd_impl x.cmd _ _ _ _ ((h1.keep hBr).keep (Grow.below _)) hb1)) | (go_at_call 77; exact grow_of (sized_impl _ _ (by omega))) | (go_at_call 76; exact grow_of (var_impl _ _ (by omega)))))
          refine wpQuiet_nil ?_
          intro _ hw'
          obtain ⟨⟨w4, hb4⟩, hw''⟩ := hw'
          change _ = w4 at hw''
          subst hw''
          rename_i w4
          have hB4 := bthen hBr hb4
          have e14 := keep_cell hb4 f14
          have hz4 := hb4.size
          have HH0 := Lib.hid HH.out
          rw [← HN.out] at HH0
          have hg4 : w.heap.size < w4.heap.size := by omega
          go_wp2
          have hBw := hB4.size
          have hgw : w.heap.size < w4.heap.size := by omega
          go_loopw [3, 57] (fun o i wr => ∃ k : Nat, k ≤ n2 ∧ i = .int .i64 k ∧ o = .string (insTo x k) ∧ Below w4.heap.size w4 wr) (fun _ i _ => n2 - (intOf i).toNat)
          case atStart => exact ⟨0, Nat.zero_le _, rfl, by rw [HH0.out], by first | exact Below.refl _ _ | exact (Below.refl _ _).drew⟩
          case round =>
            obtain ⟨k, hk, rfl, rfl, hbr⟩ := hrel
            have HS := Lib.hid (show insTo x (k + 1) = insTo x k ++ varS (iddAt x.deps k).r.toNat ++ varS (iddAt x.deps k).s.toNat from rfl)
            have ht := HTS.out k (by have := HN.out; omega)
            have hz9 := hbr.size
            by_cases hlt : k < n2
            · obtain ⟨d1, d2, d3⟩ := A9.out k (by have := HN.out; omega)
              have h2r := (h2.keep iddK hB4).keep iddK hbr
              obtain ⟨b, off, rfl⟩ := h2r.head (by omega)
              obtain ⟨bl, y, cs, hy, hR, hcell⟩ := h2r.elem_at hlt
              obtain ⟨y0, y1⟩ := iddR_cells hR hcell
              have hax : iddAt x.deps k = y := iddAt_of hy
              rw [hax] at HS d1 d2 d3
              clear hcell hR hy h2r hax
              have u1 := varS_size y.r.toNat
              have u2 := varS_size y.s.toNat
              have al := (Below.refl wr.heap.size wr).alloc (Nat.le_refl _) (.cells #[.int .i64 y.r, .int .i64 y.s] 46)
              go_wp2_with fail
              obtain ⟨W, hW⟩ : ∃ W, W = wr.alloc (.cells #[.int .i64 y.r, .int .i64 y.s] 46) := ⟨_, rfl⟩
              obtain ⟨g, hg⟩ : ∃ g, wr.heap.size = g := ⟨_, rfl⟩
              have z0 : W.cell? ⟨g, 0, none⟩ = some (.int .i64 y.r) := by rw [hW, ← hg]; simp [go_sem]
              have z1 : W.cell? ⟨g, 1, none⟩ = some (.int .i64 y.s) := by rw [hW, ← hg]; simp [go_sem]
              have hbW := bthen hbr al
              rw [← hW] at hbW ⊢
              have hgW := cell_lt z0
              rw [hg] at ⊢
              clear hW al y0 y1
              refine wp_region_grow (by kernel_rfl) (by kernel_rfl) ?_
              repeat (first | go_big_quiet_step ((go_at_call 76; exact grow_of (var_implZ _ _ (by omega) (by omega)))))
              refine wpQuiet_nil ?_
              intro _ hw'
              obtain ⟨⟨w5, hb5⟩, hw''⟩ := hw'
              change _ = w5 at hw''
              subst hw''
              go_wp2
              exact ⟨⟨k + 1, by omega, by go_num, by rw [HS.out], bthen hbW hb5⟩, by simp [intOf]; omega⟩
            · go_wp2
              go_returns
              have hkn : k = x.deps.length := by have := HN.out; omega
              exact ⟨by rw [hkn]; rfl, bthen hB4 hbr⟩
end Go.Proofs.Ytdphdnllhmnelaa
/- Contract of the reference's ShowInst. -/
namespace Go.Proofs.Ytdphdnllhmnelaa
open Go.RowKit
attribute [local go_sem] Grow.cell Grow.frozen
attribute [local irreducible] StrsAt StrR RowR varS insOkB cmText
set_option maxRecDepth 8000 in
set_option maxHeartbeats 4000000 in
theorem showInst_spec (x : Ins) (A1 : Option Addr) (n1 c1 : Nat) (A2 : Option Addr) (n2 c2 : Nat) (w : World) (h1 : StrR w A1 n1 c1 x.cmd.ch) (h2 : RowR iddR 2 w A2 n2 c2 x.deps) (hb1 : cmB x.cmd) (hb2 : iddsB x.deps) :
    Calls Try.prog 24 #[insV x (.slice A1 n1 c1) (.slice A2 n2 c2)] w fun e w' => e = .returned (.string (insText x)) ∧ Below w.heap.size w w' := by
  have HN := Lib.hid h2.len
  have al := (Below.refl w.heap.size w).alloc (Nat.le_refl _) (.cells #[.int .i64 x.id.r, .int .i64 x.id.s, .int .i64 x.bal, .int .i64 x.vb, .int .i64 x.st, .int .i64 x.cmd.kd, .int .i64 x.cmd.cl, .int .i64 x.cmd.no, .string x.cmd.s, .string x.cmd.nm, .string x.cmd.tg, .int .i64 x.cmd.n, .slice A1 n1 c1, .int .i64 x.seq, .slice A2 n2 c2, .bool x.same] 50)
  obtain ⟨q, hq⟩ : ∃ q, insOkB x = q := ⟨_, rfl⟩
  have HQ := Lib.hid hq
  cases q
  · have HT := Lib.hid (insText_no hq)
    clear hq
    rw [HT.out]
    unfold insV
    go_enter Try.func24, Try.ntmps24
    go_wp2_with fail
    refine (instOk_spec x _ _ _ _ _ _ _ (h1.keep al) (h2.keep iddK al) hb1 hb2).mono ?_
    rintro e w1 ⟨rfl, hc1⟩
    rw [HQ.out]
    go_wp2
    go_returns
    exact ⟨rfl, bthen al hc1⟩
  · have HT := Lib.hid (insText_yes hq)
    have hd := insOk_bd hq
    have HTS := Lib.hid (insTo_size hd)
    have hcs := cmText_size x.cmd
    obtain ⟨a1, a2, a3, a4, a5, a6, a7, a8, a9⟩ := hd
    have A9 := Lib.hid a9; clear a9 hq a6
    rw [HT.out]
    unfold insV
    go_enter Try.func24, Try.ntmps24
    go_wp2_with fail
    refine (instOk_spec x _ _ _ _ _ _ _ (h1.keep al) (h2.keep iddK al) hb1 hb2).mono ?_
    rintro e w1 ⟨rfl, hc1⟩
    rw [HQ.out]
    have hB1 := bthen al hc1
    have hz1 := hc1.size
    simp at hz1
    have hz1' : w.heap.size < w1.heap.size := by omega
    have e0 : w1.cell? ⟨w.heap.size, 0, none⟩ = some (.int .i64 x.id.r) := keep_cell hc1 (by simp [go_sem])
    have e1 : w1.cell? ⟨w.heap.size, 1, none⟩ = some (.int .i64 x.id.s) := keep_cell hc1 (by simp [go_sem])
    have e2 : w1.cell? ⟨w.heap.size, 2, none⟩ = some (.int .i64 x.bal) := keep_cell hc1 (by simp [go_sem])
    have e3 : w1.cell? ⟨w.heap.size, 3, none⟩ = some (.int .i64 x.vb) := keep_cell hc1 (by simp [go_sem])
    have e4 : w1.cell? ⟨w.heap.size, 4, none⟩ = some (.int .i64 x.st) := keep_cell hc1 (by simp [go_sem])
    have e5 : w1.cell? ⟨w.heap.size, 5, none⟩ = some (.int .i64 x.cmd.kd) := keep_cell hc1 (by simp [go_sem])
    have e6 : w1.cell? ⟨w.heap.size, 6, none⟩ = some (.int .i64 x.cmd.cl) := keep_cell hc1 (by simp [go_sem])
    have e7 : w1.cell? ⟨w.heap.size, 7, none⟩ = some (.int .i64 x.cmd.no) := keep_cell hc1 (by simp [go_sem])
    have e8 : w1.cell? ⟨w.heap.size, 8, none⟩ = some (.string x.cmd.s) := keep_cell hc1 (by simp [go_sem])
    have e9 : w1.cell? ⟨w.heap.size, 9, none⟩ = some (.string x.cmd.nm) := keep_cell hc1 (by simp [go_sem])
    have e10 : w1.cell? ⟨w.heap.size, 10, none⟩ = some (.string x.cmd.tg) := keep_cell hc1 (by simp [go_sem])
    have e11 : w1.cell? ⟨w.heap.size, 11, none⟩ = some (.int .i64 x.cmd.n) := keep_cell hc1 (by simp [go_sem])
    have e12 : w1.cell? ⟨w.heap.size, 12, none⟩ = some (.slice A1 n1 c1) := keep_cell hc1 (by simp [go_sem])
    have e13 : w1.cell? ⟨w.heap.size, 13, none⟩ = some (.int .i64 x.seq) := keep_cell hc1 (by simp [go_sem])
    have e14 : w1.cell? ⟨w.heap.size, 14, none⟩ = some (.slice A2 n2 c2) := keep_cell hc1 (by simp [go_sem])
    have e15 : w1.cell? ⟨w.heap.size, 15, none⟩ = some (.bool x.same) := keep_cell hc1 (by simp [go_sem])
    have v0 := varS_size (x.id.r.toNat)
    have v1 := varS_size (x.id.s.toNat)
    have v2 := varS_size ((x.bal + 1).toNat)
    have v3 := varS_size ((x.vb + 1).toNat)
    have v4 := varS_size (x.st.toNat)
    have v5 := varS_size (x.seq.toNat)
    have v6 := varS_size ((cmText x.cmd).size)
    have v7 := varS_size (n2)
    have hn2 : n2 ≤ 18 := by have := HN.out; omega
    have HH := Lib.hid (insHd_hd x)
    have HX := Lib.hid (show hdTo [x.id.r, x.id.s, x.bal + 1, x.vb + 1, x.st, x.seq] 6 = varS x.id.r.toNat ++ varS x.id.s.toNat ++ varS (x.bal + 1).toNat ++ varS (x.vb + 1).toNat ++ varS x.st.toNat ++ varS x.seq.toNat by simp [hdTo])
    rw [HX.out] at HH
    obtain ⟨b, hsm⟩ : ∃ b, x.same = b := ⟨_, rfl⟩
    rw [hsm] at e15 HH
    clear hsm
    have u3 := sameT_size b
    cases b
    · rw [show sameT false = ⟨#[0]⟩ from rfl] at u3 HH
      go_wp2
      refine wp_region_grow (by kernel_rfl) (by kernel_rfl) ?_
      repeat (first | go_big_quiet_step (first | (go_at_call 72; exact grow_of (showCmd_spec x.cmd _ _ _ _ ((h1.keep hB1).keep (Grow.below _)) hb1)) | (go_at_call 71; exact grow_of (l4Piece_spec _ _ (by omega))) | (go_at_call 70; exact grow_of (var_specZ _ _ (by omega) (by omega)))))
      refine wpQuiet_nil ?_
      intro _ hw'
      obtain ⟨⟨w4, hb4⟩, hw''⟩ := hw'
      change _ = w4 at hw''
      subst hw''
      rename_i w4
      have hB4 := bthen hB1 hb4
      have e14' := keep_cell hb4 e14; clear e14; have e14 := e14'; clear e14'
      have hz4 := hb4.size
      have HH0 := Lib.hid HH.out
      rw [← HN.out] at HH0
      clear e0 e1 e2 e3 e4 e5 e6 e7 e8 e9 e10 e11 e12 e13 e15
      go_wp2
      have hBw := hB4.size
      have hgw : w.heap.size < w4.heap.size := by omega
      go_loopw [4, 5] (fun o i wr => ∃ k : Nat, k ≤ n2 ∧ i = .int .i64 k ∧ o = .string (insTo x k) ∧ Below w4.heap.size w4 wr) (fun _ i _ => n2 - (intOf i).toNat)
      case atStart => exact ⟨0, Nat.zero_le _, rfl, by rw [HH0.out], by first | exact Below.refl _ _ | exact (Below.refl _ _).drew⟩
      case round =>
        obtain ⟨k, hk, rfl, rfl, hbr⟩ := hrel
        have HS := Lib.hid (show insTo x (k + 1) = insTo x k ++ varS (iddAt x.deps k).r.toNat ++ varS (iddAt x.deps k).s.toNat from rfl)
        have ht := HTS.out k (by have := HN.out; omega)
        have hz9 := hbr.size
        have c14 := keep_cell hbr e14
        by_cases hlt : k < n2
        · obtain ⟨d1, d2, d3⟩ := A9.out k (by have := HN.out; omega)
          have h2r := (h2.keep iddK hB4).keep iddK hbr
          obtain ⟨b, off, rfl⟩ := h2r.head (by omega)
          obtain ⟨bl, y, cs, hy, hR, hcell⟩ := h2r.elem_at hlt
          obtain ⟨y0, y1⟩ := iddR_cells hR hcell
          have hax : iddAt x.deps k = y := iddAt_of hy
          rw [hax] at HS d1 d2 d3
          clear hcell hR hy h2r hax
          have u1 := varS_size y.r.toNat
          have u2 := varS_size y.s.toNat
          have hbW := hbr
          have hgb : w.heap.size < wr.heap.size := by omega
          go_wp2_with fail
          refine wp_region_grow (by kernel_rfl) (by kernel_rfl) ?_
          repeat (first | go_big_quiet_step ((go_at_call 70; exact grow_of (var_specZ _ _ (by omega) (by omega)))))
          refine wpQuiet_nil ?_
          intro _ hw'
          obtain ⟨⟨w5, hb5⟩, hw''⟩ := hw'
          change _ = w5 at hw''
          subst hw''
          go_wp2
          exact ⟨⟨k + 1, by omega, by go_num, by rw [HS.out], bthen hbW hb5⟩, by simp [intOf]; omega⟩
        · go_wp2
          go_returns
          have hkn : k = x.deps.length := by have := HN.out; omega
          exact ⟨by rw [hkn]; rfl, bthen hB4 hbr⟩
    · rw [show sameT true = ⟨#[1]⟩ from rfl] at u3 HH
      go_wp2
      refine wp_region_grow (by kernel_rfl) (by kernel_rfl) ?_
      repeat (first | go_big_quiet_step (first | (go_at_call 72; exact grow_of (showCmd_spec x.cmd _ _ _ _ ((h1.keep hB1).keep (Grow.below _)) hb1)) | (go_at_call 71; exact grow_of (l4Piece_spec _ _ (by omega))) | (go_at_call 70; exact grow_of (var_specZ _ _ (by omega) (by omega)))))
      refine wpQuiet_nil ?_
      intro _ hw'
      obtain ⟨⟨w4, hb4⟩, hw''⟩ := hw'
      change _ = w4 at hw''
      subst hw''
      rename_i w4
      have hB4 := bthen hB1 hb4
      have e14' := keep_cell hb4 e14; clear e14; have e14 := e14'; clear e14'
      have hz4 := hb4.size
      have HH0 := Lib.hid HH.out
      rw [← HN.out] at HH0
      clear e0 e1 e2 e3 e4 e5 e6 e7 e8 e9 e10 e11 e12 e13 e15
      go_wp2
      have hBw := hB4.size
      have hgw : w.heap.size < w4.heap.size := by omega
      go_loopw [4, 5] (fun o i wr => ∃ k : Nat, k ≤ n2 ∧ i = .int .i64 k ∧ o = .string (insTo x k) ∧ Below w4.heap.size w4 wr) (fun _ i _ => n2 - (intOf i).toNat)
      case atStart => exact ⟨0, Nat.zero_le _, rfl, by rw [HH0.out], by first | exact Below.refl _ _ | exact (Below.refl _ _).drew⟩
      case round =>
        obtain ⟨k, hk, rfl, rfl, hbr⟩ := hrel
        have HS := Lib.hid (show insTo x (k + 1) = insTo x k ++ varS (iddAt x.deps k).r.toNat ++ varS (iddAt x.deps k).s.toNat from rfl)
        have ht := HTS.out k (by have := HN.out; omega)
        have hz9 := hbr.size
        have c14 := keep_cell hbr e14
        by_cases hlt : k < n2
        · obtain ⟨d1, d2, d3⟩ := A9.out k (by have := HN.out; omega)
          have h2r := (h2.keep iddK hB4).keep iddK hbr
          obtain ⟨b, off, rfl⟩ := h2r.head (by omega)
          obtain ⟨bl, y, cs, hy, hR, hcell⟩ := h2r.elem_at hlt
          obtain ⟨y0, y1⟩ := iddR_cells hR hcell
          have hax : iddAt x.deps k = y := iddAt_of hy
          rw [hax] at HS d1 d2 d3
          clear hcell hR hy h2r hax
          have u1 := varS_size y.r.toNat
          have u2 := varS_size y.s.toNat
          have hbW := hbr
          have hgb : w.heap.size < wr.heap.size := by omega
          go_wp2_with fail
          refine wp_region_grow (by kernel_rfl) (by kernel_rfl) ?_
          repeat (first | go_big_quiet_step ((go_at_call 70; exact grow_of (var_specZ _ _ (by omega) (by omega)))))
          refine wpQuiet_nil ?_
          intro _ hw'
          obtain ⟨⟨w5, hb5⟩, hw''⟩ := hw'
          change _ = w5 at hw''
          subst hw''
          go_wp2
          exact ⟨⟨k + 1, by omega, by go_num, by rw [HS.out], bthen hbW hb5⟩, by simp [intOf]; omega⟩
        · go_wp2
          go_returns
          have hkn : k = x.deps.length := by have := HN.out; omega
          exact ⟨by rw [hkn]; rfl, bthen hB4 hbr⟩
end Go.Proofs.Ytdphdnllhmnelaa
/- What grew by an append. -/
namespace Go.Proofs.Ytdphdnllhmnelaa
open Go.RowKit
theorem Ch.of_grow {w w' : World} {o : Option Nat} (h : w.grownBy w' o) : Ch (fun k => o = some k) w w' := ⟨h.os, h.tape, h.output, h.size, fun k hk hn => h.block k hk (fun e => hn e.symm)⟩
end Go.Proofs.Ytdphdnllhmnelaa
/- Rows that are owned: appending an element, changing an element. -/
namespace Go.Proofs.Ytdphdnllhmnelaa
open Go.RowKit
/-- the walk stands still here -/
def Stop (p : Prop) : Prop := p
theorem stop_of {p : Prop} (h : Stop p) : p := h
theorem IntO.mk' {w : World} {A : Option Addr} {n c : Nat} {l : List Int} (h : w.ownsRow 0 3 1 (.slice A n c) n (l.map (Value.int .i64))) : IntO (blkL A) w A n c l := ⟨rfl, h⟩
theorem IntO.own {fp : List Nat} {w : World} {A : Option Addr} {n c : Nat} {l : List Int} (h : IntO fp w A n c l) : fp = blkL A ∧ w.ownsRow 0 3 1 (.slice A n c) n (l.map (Value.int .i64)) := h
theorem IntR.at_r {w : World} {A : Option Addr} {n c : Nat} {l : List Int} (h : IntR w A n c l) : IntsAt w A n l := h.1
theorem StrO.mk' {w : World} {A : Option Addr} {n c : Nat} {l : List ByteArray} (h : w.ownsRow 0 9 1 (.slice A n c) n (l.map Value.string)) : StrO (blkL A) w A n c l := ⟨rfl, h⟩
theorem StrO.own {fp : List Nat} {w : World} {A : Option Addr} {n c : Nat} {l : List ByteArray} (h : StrO fp w A n c l) : fp = blkL A ∧ w.ownsRow 0 9 1 (.slice A n c) n (l.map Value.string) := h
section
variable {α : Type} {R : World → List Value → α → Prop} {F : List Nat → World → List Value → α → Prop} {e sz n c c' m : Nat} {w w' : World} {fps : List (List Nat)} {css : List (List Value)} {A A' : Option Addr} {l : List α} {cs : List Value} {f : List Nat} {x : α}
/-- one element more behind an append -/
theorem app_els (K : KindOk R F sz) (hE : Els F w css fps l) (hx : F f w cs x) (hN : (blkL A ++ (fps ++ [f]).flatten).Nodup) (hg : w.grownBy w' (Value.slice A n c).ownBlock)
    (hob : (Value.slice A' (n + 1) c').ownBlock = (Value.slice A n c).ownBlock ∨ (Value.slice A' (n + 1) c').ownBlock = some m) (hm : w.heap.size ≤ m) :
    Els F w' (css ++ [cs]) (fps ++ [f]) (l ++ [x]) ∧ (blkL A' ++ (fps ++ [f]).flatten).Nodup ∧ ∀ b ∈ blkL A', b ∈ blkL A ∨ b = m := by
  have hE2 := hE.app (Els.one hx)
  have hN2 := List.nodup_append.1 hN
  have hblk : ∀ b ∈ blkL A', b ∈ blkL A ∨ b = m := fun b hb => by
    have h1 := blk_own (n := n + 1) (c := c') (mem_blkL.1 hb)
    rcases hob with h2 | h2
    · exact .inl (mem_blkL.2 (blk_of (h2.symm.trans h1)))
    · exact .inr (Option.some.inj (h1.symm.trans h2))
  refine ⟨hE2.ch K (Ch.of_grow hg) (fun b hb e => hN2.2.2 b (mem_blkL.2 (blk_of e)) b hb rfl), ?_, hblk⟩
  refine List.nodup_append.2 ⟨by cases A' <;> simp [blkL], hN2.2.1, fun a ha b hb e => ?_⟩
  subst e
  rcases hblk a ha with h1 | h1
  · exact hN2.2.2 a h1 a hb rfl
  · have := hE2.lt K a hb; omega
/-- an element and what it leads to are changed -/
theorem upd_els {c1 c2 : List (List Value)} {f1 f2 : List (List Nat)} {l1 l2 : List α} {g : Nat} {cs' : List Value} {f' : List Nat} {x' : α} {w7 w8 : World} (K : KindOk R F sz)
    (ho : w.ownsRow 0 e sz (.slice (some ⟨g, 0, none⟩) n c) n (c1.flatten ++ (cs ++ c2.flatten))) (hE1 : Els F w c1 f1 l1) (hE2 : Els F w c2 f2 l2) (hcs : cs.length = sz) (hn : n = l1.length + 1 + l2.length)
    (hN : (g :: (f1.flatten ++ (f ++ f2.flatten))).Nodup) (hC : Ch (fun b => b ∈ f) w w7) (hx : F f' w7 cs' x') (hf' : ∀ b ∈ f', b ∈ f ∨ w.heap.size ≤ b) (hf'N : f'.Nodup) (hw8 : w8 = setsW w7 g (l1.length * sz) cs') :
    RowO F e sz (blkL (some ⟨g, 0, none⟩) ++ (f1 ++ f' :: f2).flatten) w8 (some ⟨g, 0, none⟩) n c (l1 ++ x' :: l2) ∧ (g :: (f1.flatten ++ (f' ++ f2.flatten))).Nodup ∧ Ch (fun b => b = g ∨ b ∈ f) w w8 := by
  have hgw : g < w.heap.size := (own_lo ho g (by simp [blkL])).2
  have lt1 := hE1.lt K
  have lt2 := hE2.lt K
  simp only [List.nodup_cons, List.nodup_append, List.mem_append, not_or] at hN
  have hgf : ¬ g ∈ f := by grind
  have d1 : ∀ b ∈ f1.flatten, ¬ b ∈ f := fun b h1 h2 => by grind
  have d2 : ∀ b ∈ f2.flatten, ¬ b ∈ f := fun b h1 h2 => by grind
  have e1 : ∀ b ∈ f1.flatten, ¬ b = g := fun b h1 h2 => by subst h2; grind
  have e2 : ∀ b ∈ f2.flatten, ¬ b = g := fun b h1 h2 => by subst h2; grind
  have e3 : ∀ b ∈ f', ¬ b = g := fun b h1 h2 => by
    subst h2
    rcases hf' b h1 with h | h
    · exact hgf h
    · omega
  have hC8 : Ch (fun b => b = g) w7 w8 := by rw [hw8]; exact ch_setsW _ _ _
  have o7 := own_ch ho hC (fun b hb h2 => hgf (by
    have : b = g := by simpa [Value.ownBlock, eq_comm] using hb
    rw [← this]; exact h2))
  have o8 := own_setsW cs' (l1.length * sz) w7 _ o7
  rw [setsL_at (hE1.flat K) (by rw [hcs, K.rlen (K.fr hx)]), ← hw8] at o8
  have E1 := (hE1.ch K hC d1).ch K hC8 e1
  have E2 := (hE2.ch K hC d2).ch K hC8 e2
  have X := K.fch hx hC8 e3
  refine ⟨RowO.intro (css := c1 ++ cs' :: c2) (by simpa using o8) (by simp; omega) (E1.app ⟨X, E2⟩), ?_, (hC.mono (fun b hb => .inr hb)).trans (hC8.mono (fun b hb => .inl hb))⟩
  simp only [List.nodup_cons, List.nodup_append, List.mem_append, not_or]
  refine ⟨⟨by grind, fun h => e3 g h rfl, by grind⟩, by grind, ⟨hf'N, by grind, fun a ha b hb hab => ?_⟩, fun a ha b hb hab => ?_⟩
  · subst hab
    rcases hf' a ha with h | h
    · exact d2 a hb h
    · have := lt2 a hb; omega
  · subst hab
    rcases hb with hb | hb
    · rcases hf' a hb with h | h
      · exact d1 a ha h
      · have := lt1 a ha; omega
    · grind
end
end Go.Proofs.Ytdphdnllhmnelaa
