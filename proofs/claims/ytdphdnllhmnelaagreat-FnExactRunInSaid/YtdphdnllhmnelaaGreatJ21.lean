/- Contracts and lemmas: CmText. -/
import Derived.Test.YtdphdnllhmnelaaGreatJ15
import Derived.Test.YtdphdnllhmnelaaGreatJ7
/- Plain laws: the text of a command, and its being read back. -/
namespace Go.Proofs.YtdphdnllhmnelaaGreat
open Go.RowKit

theorem inB_le {x lo hi : Int} (h : inB x lo hi = true) : lo ≤ x ∧ x ≤ hi := by simpa [inB] using h
theorem wordB_size {s : ByteArray} (h : wordB s = true) : s.size ≤ 8 := by
  unfold wordB at h
  rw [Bool.and_eq_true] at h
  have := inB_le h.1
  omega
theorem wifB_size {s : ByteArray} {b : Bool} (h : wifB s b = true) : s.size ≤ 8 := by
  unfold wifB at h
  split at h
  · exact wordB_size h
  · have : s = ByteArray.empty := by simpa using h
    subst this; exact Nat.zero_le _
theorem ok8_at {l : List ByteArray} (h : ok8 l = true) {j : Nat} (hj : j < l.length) : (sAt l j).size = 8 := by
  unfold ok8 at h
  rw [List.all_eq_true] at h
  simpa using h j (List.mem_range.2 hj)
/-- the bounds of a right command -/
structure CmBd (x : Cm) : Prop where
  kd : 0 ≤ x.kd ∧ x.kd ≤ 7
  cl : 0 ≤ x.cl ∧ x.cl ≤ 9
  no : 0 ≤ x.no ∧ x.no ≤ 1000
  n : 0 ≤ x.n ∧ x.n ≤ 9
  s : x.s.size ≤ 8
  nm : x.nm.size ≤ 8
  tg : x.tg.size ≤ 8
  ch : x.ch.length ≤ 4
  c8 : ∀ j, j < x.ch.length → (sAt x.ch j).size = 8
theorem cmOk_bd {x : Cm} (h : cmOkB x = true) : CmBd x := by
  unfold cmOkB at h
  split at h
  · unfold sameB cmNil eqS at h
    simp only [Bool.and_eq_true, decide_eq_true_eq] at h
    obtain ⟨⟨⟨⟨⟨⟨⟨h1, h2⟩, h3⟩, h4⟩, h5⟩, h6⟩, h7⟩, h8⟩ := h
    refine ⟨by omega, by omega, by omega, by omega, by rw [h4]; exact Nat.zero_le _, by rw [h5]; exact Nat.zero_le _, by rw [h6]; exact Nat.zero_le _, by rw [h8]; exact Nat.zero_le _, fun j hj => ?_⟩
    rw [h8] at hj; cases hj
  · simp only [Bool.and_eq_true] at h
    obtain ⟨⟨⟨⟨⟨⟨⟨h1, h2⟩, h3⟩, h4⟩, h5⟩, h6⟩, h7⟩, h8⟩ := h
    have k1 := inB_le h1
    have k2 := inB_le h2
    have k3 := inB_le h3
    have hn : 0 ≤ x.n ∧ x.n ≤ 9 := by
      rw [Bool.or_eq_true] at h7
      rcases h7 with h7 | h7
      · have : x.n = 0 := by simpa using h7
        omega
      · rw [Bool.and_eq_true] at h7; exact inB_le h7.2
    split at h8
    · rw [Bool.and_eq_true] at h8
      have k8 := inB_le h8.1
      exact ⟨by omega, by omega, by omega, hn, wifB_size h4, wifB_size h5, wifB_size h6, by omega, fun j hj => ok8_at h8.2 hj⟩
    · have k8 : x.ch.length = 0 := by simpa using h8
      exact ⟨by omega, by omega, by omega, hn, wifB_size h4, wifB_size h5, wifB_size h6, by omega, fun j hj => by omega⟩
theorem cmBd_cmB {x : Cm} (h : CmBd x) : cmB x := by
  refine ⟨by have := h.s; omega, by have := h.nm; omega, by have := h.tg; omega, by have := h.ch; omega, fun y hy => ?_⟩
  obtain ⟨j, hj, rfl⟩ := List.getElem_of_mem hy
  have := h.c8 j hj
  rw [sAt_get hj] at this
  omega

def cmHd (x : Cm) : ByteArray := varS x.kd.toNat ++ varS x.cl.toNat ++ varS x.no.toNat ++ varS x.n.toNat ++ (varS x.s.size ++ x.s) ++ (varS x.nm.size ++ x.nm) ++ (varS x.tg.size ++ x.tg) ++ varS x.ch.length
def cmTo (x : Cm) : Nat → ByteArray
  | 0 => cmHd x
  | k + 1 => cmTo x k ++ sAt x.ch k
/-- a command as text -/
def cmText (x : Cm) : ByteArray := if cmOkB x = true then cmTo x x.ch.length else ByteArray.empty
theorem cmText_yes {x : Cm} (h : cmOkB x = true) : cmText x = cmTo x x.ch.length := by unfold cmText; rw [if_pos h]
theorem cmText_no {x : Cm} (h : cmOkB x = false) : cmText x = ByteArray.empty := by unfold cmText; rw [if_neg (by rw [h]; simp)]
theorem cmTo_chL (x : Cm) : ∀ k, k ≤ x.ch.length → cmTo x k = cmHd x ++ chL (x.ch.take k)
  | 0, _ => by simp [cmTo, chL]
  | k + 1, h => by
    have e : sAt x.ch k = x.ch[k]'(by omega) := by simp [sAt, show k < x.ch.length by omega]
    rw [List.take_succ_eq_append_getElem (by omega), chL_app, cmTo, cmTo_chL x k (by omega), e]
    simp [chL, ByteArray.append_assoc]
theorem cmText_chL {x : Cm} (h : cmOkB x = true) : cmText x = varS x.kd.toNat ++ (varS x.cl.toNat ++ (varS x.no.toNat ++ (varS x.n.toNat ++ (varS x.s.size ++ (x.s ++ (varS x.nm.size ++ (x.nm ++ (varS x.tg.size ++ (x.tg ++ (varS x.ch.length ++ chL x.ch)))))))))) := by
  rw [cmText_yes h, cmTo_chL x _ (Nat.le_refl _), List.take_length]
  unfold cmHd
  simp only [ByteArray.append_assoc]
theorem cmHd_size {x : Cm} (h : CmBd x) : (cmHd x).size ≤ 1100 := by
  obtain ⟨a, b, c, d, e, f, g, i, j⟩ := h
  have v1 := varS_size x.kd.toNat
  have v2 := varS_size x.cl.toNat
  have v3 := varS_size x.no.toNat
  have v4 := varS_size x.n.toNat
  have v5 := varS_size x.s.size
  have v6 := varS_size x.nm.size
  have v7 := varS_size x.tg.size
  have v8 := varS_size x.ch.length
  unfold cmHd
  simp only [ByteArray.size_append]
  omega
theorem cmTo_size {x : Cm} (h : CmBd x) : ∀ k, k ≤ x.ch.length → (cmTo x k).size ≤ 1100 + 8 * k
  | 0, _ => by have := cmHd_size h; unfold cmTo; omega
  | k + 1, hk => by
    have h1 := cmTo_size h k (by omega)
    have h2 := h.c8 k (by omega)
    unfold cmTo
    rw [ByteArray.size_append]; omega
theorem cmText_size (x : Cm) : (cmText x).size ≤ 1132 := by
  cases h : cmOkB x
  · rw [cmText_no h]; exact Nat.zero_le _
  · have h1 := cmOk_bd h
    have h2 := cmTo_size h1 _ (Nat.le_refl _)
    have h3 := h1.ch
    rw [cmText_yes h]; omega
theorem cmText_ne {x : Cm} (h : cmOkB x = true) : cmText x ≠ ByteArray.empty := by
  intro e
  have h1 := congrArg ByteArray.size e
  rw [cmText_chL h, ByteArray.size_append] at h1
  have h2 := varS_pos x.kd.toNat
  have h3 : ByteArray.empty.size = 0 := rfl
  omega
/-- what the reader's steps give on the text of a right command -/
theorem cm_parse {x : Cm} (h : cmOkB x = true) : ∃ r1 r2 r3 r4 r5 r6 r7, numF (cmText x, false) = (x.kd.toNat, (r1, false)) ∧ numF (r1, false) = (x.cl.toNat, (r2, false)) ∧ numF (r2, false) = (x.no.toNat, (r3, false)) ∧ numF (r3, false) = (x.n.toNat, (r4, false)) ∧
    textF (r4, false) = (x.s, (r5, false)) ∧ textF (r5, false) = (x.nm, (r6, false)) ∧ textF (r6, false) = (x.tg, (r7, false)) ∧ numF (r7, false) = (x.ch.length, (chL x.ch, false)) := by
  have hb := cmOk_bd h
  have a := hb.kd; have b := hb.cl; have c := hb.no; have d := hb.n; have e := hb.s; have f := hb.nm; have g := hb.tg; have i := hb.ch
  rw [cmText_chL h]
  exact ⟨_, _, _, _, _, _, _, numF_var (by omega) _, numF_var (by omega) _, numF_var (by omega) _, numF_var (by omega) _, textF_app (by omega) _, textF_app (by omega) _, textF_app (by omega) _, numF_var (by omega) _⟩
theorem chL_cut {l : List ByteArray} {k : Nat} (hk : k < l.length) (h8 : (sAt l k).size = 8) : cutF (chL (l.drop k), false) 8 = (sAt l k, (chL (l.drop (k + 1)), false)) := by
  rw [chL_drop hk]; exact cutF_app _ _ h8
/-- what is read so far agrees with whatever command the text is the text of: the numbers and texts -/
def CmJ (s : ByteArray) (kd cl no n : Nat) (a b t : ByteArray) (m : Nat) (cs : List ByteArray) (x : Sc) : Prop :=
  ∀ c, cmOkB c = true → cmText c = s → c.kd = kd ∧ c.cl = cl ∧ c.no = no ∧ c.n = n ∧ c.s = a ∧ c.nm = b ∧ c.tg = t ∧ m = c.ch.length ∧ cs = c.ch.take cs.length ∧ cs.length ≤ c.ch.length ∧ x = (chL (c.ch.drop cs.length), false)
theorem CmJ.start {s : ByteArray} {x1 x2 x3 x4 x8 : Nat × Sc} {x5 x6 x7 : ByteArray × Sc} (f1 : numF (s, false) = x1) (f2 : numF x1.2 = x2) (f3 : numF x2.2 = x3) (f4 : numF x3.2 = x4) (f5 : textF x4.2 = x5) (f6 : textF x5.2 = x6) (f7 : textF x6.2 = x7) (f8 : numF x7.2 = x8) :
    CmJ s x1.1 x2.1 x3.1 x4.1 x5.1 x6.1 x7.1 x8.1 [] x8.2 := by
  intro c hc hs
  obtain ⟨r1, r2, r3, r4, r5, r6, r7, e1, e2, e3, e4, e5, e6, e7, e8⟩ := cm_parse hc
  rw [hs] at e1
  have hb := cmOk_bd hc
  rw [e1] at f1; subst f1; simp only at f2
  rw [e2] at f2; subst f2; simp only at f3
  rw [e3] at f3; subst f3; simp only at f4
  rw [e4] at f4; subst f4; simp only at f5
  rw [e5] at f5; subst f5; simp only at f6
  rw [e6] at f6; subst f6; simp only at f7
  rw [e7] at f7; subst f7; simp only at f8
  rw [e8] at f8; subst f8
  have a := hb.kd; have b := hb.cl; have c1 := hb.no; have d := hb.n
  exact ⟨by simp only; omega, by simp only; omega, by simp only; omega, by simp only; omega, rfl, rfl, rfl, rfl, by simp, by simp, by simp⟩
theorem CmJ.step {s : ByteArray} {kd cl no n : Nat} {a b t : ByteArray} {m : Nat} {cs : List ByteArray} {x : Sc} (h : CmJ s kd cl no n a b t m cs x) (hm : cs.length < m) : CmJ s kd cl no n a b t m (cs ++ [(cutF x 8).1]) (cutF x 8).2 := by
  intro c hc hs
  obtain ⟨h1, h2, h3, h4, h5, h6, h7, h8, h9, h10, h11⟩ := h c hc hs
  have hk : cs.length < c.ch.length := by omega
  have e := chL_cut hk ((cmOk_bd hc).c8 _ hk)
  rw [h11, e]
  refine ⟨h1, h2, h3, h4, h5, h6, h7, h8, ?_, by rw [List.length_append]; simp only [List.length_cons, List.length_nil]; omega, by rw [List.length_append]; rfl⟩
  rw [List.length_append, List.length_singleton, List.take_succ_eq_append_getElem hk, ← h9, sAt_get hk]
theorem CmJ.end_ {s : ByteArray} {kd cl no n : Nat} {a b t : ByteArray} {m : Nat} {cs : List ByteArray} {x : Sc} (h : CmJ s kd cl no n a b t m cs x) (hm : m ≤ cs.length ∨ 4 < m) : ∀ c, cmOkB c = true → cmText c = s → c = ⟨kd, cl, no, a, b, t, n, cs⟩ ∧ x.2 = false := by
  intro c hc hs
  obtain ⟨h1, h2, h3, h4, h5, h6, h7, h8, h9, h10, h11⟩ := h c hc hs
  have hb := (cmOk_bd hc).ch
  have hl : cs.length = c.ch.length := by omega
  rw [hl, List.take_length] at h9
  refine ⟨?_, by rw [h11]⟩
  rw [← h1, ← h2, ← h3, ← h4, ← h5, ← h6, ← h7, h9]

open Classical in
noncomputable def rdCm (s : ByteArray) : Cm := if h : ∃ c, cmOkB c = true ∧ cmText c = s then Classical.choose h else cmNil
open Classical in
noncomputable def rdCmB (s : ByteArray) : Bool := if ∃ c, cmOkB c = true ∧ cmText c = s then true else false
theorem cmText_inj {c c' : Cm} (h : cmOkB c = true) (h' : cmOkB c' = true) (e : cmText c = cmText c') : c = c' := by
  have key : ∀ d : Cm, cmOkB d = true → cmText d = cmText c → ∀ k, k ≤ d.ch.length → ∃ cs x, cs.length = k ∧ CmJ (cmText c) (numF (cmText c, false)).1 (numF (numF (cmText c, false)).2).1 (numF (numF (numF (cmText c, false)).2).2).1 (numF (numF (numF (numF (cmText c, false)).2).2).2).1 (textF (numF (numF (numF (numF (cmText c, false)).2).2).2).2).1 (textF (textF (numF (numF (numF (numF (cmText c, false)).2).2).2).2).2).1 (textF (textF (textF (numF (numF (numF (numF (cmText c, false)).2).2).2).2).2).2).1 (numF (textF (textF (textF (numF (numF (numF (numF (cmText c, false)).2).2).2).2).2).2).2).1 cs x := by
    intro d hd hs k
    induction k with
    | zero => intro _; exact ⟨[], _, rfl, CmJ.start rfl rfl rfl rfl rfl rfl rfl rfl⟩
    | succ k ih =>
      intro hk
      obtain ⟨cs, x, hl, hj⟩ := ih (by omega)
      obtain ⟨_, _, _, _, _, _, _, h8, _⟩ := hj d hd hs
      exact ⟨_, _, by rw [List.length_append, hl]; rfl, hj.step (by omega)⟩
  obtain ⟨cs, x, hl, hj⟩ := key c h rfl _ (Nat.le_refl _)
  obtain ⟨_, _, _, _, _, _, _, h8, _⟩ := hj c h rfl
  have e1 := (hj.end_ (.inl (by omega)) c h rfl).1
  have e2 := (hj.end_ (.inl (by omega)) c' h' e.symm).1
  rw [e1, e2]
theorem rdCm_yes {s : ByteArray} {c : Cm} (h1 : cmOkB c = true) (h2 : cmText c = s) : rdCm s = c ∧ rdCmB s = true := by
  have h : ∃ c, cmOkB c = true ∧ cmText c = s := ⟨c, h1, h2⟩
  refine ⟨?_, by unfold rdCmB; rw [if_pos h]⟩
  unfold rdCm
  rw [dif_pos h]
  have hc := Classical.choose_spec h
  exact cmText_inj hc.1 h1 (hc.2.trans h2.symm)
theorem rdCm_no {s : ByteArray} (h : ∀ c, cmOkB c = true → cmText c = s → False) : rdCm s = cmNil ∧ rdCmB s = false := by
  have h' : ¬ ∃ c, cmOkB c = true ∧ cmText c = s := fun ⟨c, h1, h2⟩ => h c h1 h2
  exact ⟨by unfold rdCm; rw [dif_neg h'], by unfold rdCmB; rw [if_neg h']⟩
theorem cmNil_ok : cmOkB cmNil = true := by
  unfold cmOkB sameB eqS cmNil
  simp
theorem rdCm_ok (s : ByteArray) : cmOkB (rdCm s) = true := by
  by_cases h : ∃ c, cmOkB c = true ∧ cmText c = s
  · obtain ⟨c, h1, h2⟩ := h
    rw [(rdCm_yes h1 h2).1]; exact h1
  · rw [(rdCm_no (fun c h1 h2 => h ⟨c, h1, h2⟩)).1]; exact cmNil_ok
end Go.Proofs.YtdphdnllhmnelaaGreat
