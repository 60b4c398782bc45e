/- Contracts and lemmas: LoadL, LoadNodeP, ReadInst, Dag, DagB. -/
import Derived.Test.YtdphdnllhmnelaaJ10
import Derived.Test.YtdphdnllhmnelaaJ12
import Derived.Test.YtdphdnllhmnelaaJ8
import Derived.Test.YtdphdnllhmnelaaJ0
import Derived.OrdersHeld
import Derived.Deep.RegionHeld3
/- Plain laws: a node is read back from its text, and from no other. -/
namespace Go.Proofs.Ytdphdnllhmnelaa
open Go.RowKit

/-- a right node without leads whose text is s -/
def ldOk (x : Nod) (s : ByteArray) : Prop := x.leads = [] ∧ nodOkB x = true ∧ fitB x = true ∧ savT x = s
open Classical in
/-- the node that a text is the text of -/
noncomputable def ldN (s : ByteArray) : Nod := if h : ∃ x, ldOk x s then Classical.choose h else nodNil
open Classical in
noncomputable def ldNB (s : ByteArray) : Bool := if ∃ x, ldOk x s then true else false
def frPos (us : List ByteArray) (k : Nat) : Nat := (chL ((us.take k).map frameT)).size
theorem frs_all {s : ByteArray} {us : List ByteArray} {b : Nat} (h : frs s us b) : frPos us us.length = b := by
  unfold frPos
  rw [List.take_length, ← h.2.1, ByteArray.size_extract]
  have := h.1
  omega
theorem frs_at {s : ByteArray} {us : List ByteArray} {b k : Nat} (h : frs s us b) (hk : k < us.length) : isFr s (frPos us k) (sAt us k) := by
  obtain ⟨h1, h2, h3, _⟩ := h
  have e0 : us = us.take k ++ (sAt us k :: us.drop (k + 1)) := by
    have hs : sAt us k = us[k] := by simp [sAt, hk]
    rw [hs, ← List.drop_eq_getElem_cons hk, List.take_append_drop]
  have h4 : s.extract 0 s.size = chL ((us.take k).map frameT) ++ (frameT (sAt us k) ++ (chL ((us.drop (k + 1)).map frameT) ++ s.extract b s.size)) := by
    rw [ext_split s (Nat.zero_le b) h1, h2]
    conv => lhs; rw [e0]
    rw [List.map_append, chL_app, List.map_cons]
    simp only [chL, ByteArray.append_assoc]
  obtain ⟨h5, h6, _⟩ := ext_cut (Nat.zero_le _) h4
  rw [Nat.zero_add] at h5 h6
  obtain ⟨h7, _, h8⟩ := ext_cut h5 h6
  have hs : sAt us k = us[k] := by simp [sAt, hk]
  exact ⟨h3 _ (by rw [hs]; exact List.getElem_mem hk), h7, h8⟩
theorem frs_same {s : ByteArray} {ts us : List ByteArray} {a b : Nat} (h : frs s ts a) (h' : frs s us b) : ∀ k, k ≤ ts.length → k ≤ us.length → ts.take k = us.take k
  | 0, _, _ => by simp
  | k + 1, h1, h2 => by
    have ih := frs_same h h' k (by omega) (by omega)
    have e1 := frs_at h (k := k) (by omega)
    have e2 := frs_at h' (k := k) (by omega)
    have ep : frPos ts k = frPos us k := by unfold frPos; rw [ih]
    rw [ep] at e1
    have e3 := e1.same e2
    have k1 : k < ts.length := by omega
    have k2 : k < us.length := by omega
    rw [List.take_succ_eq_append_getElem k1, List.take_succ_eq_append_getElem k2, ih]
    have s1 : sAt ts k = ts[k] := by simp [sAt, k1]
    have s2 : sAt us k = us[k] := by simp [sAt, k2]
    rw [s1, s2] at e3
    rw [e3]
theorem unfr_all {s : ByteArray} {ts us : List ByteArray} {a : Nat} (h : unfr s ts a) (h' : frs s us s.size) : ts = us ∧ a = s.size := by
  obtain ⟨hf, hn⟩ := h
  rcases Nat.lt_trichotomy ts.length us.length with hl | hl | hl
  · have e := frs_same hf h' ts.length (Nat.le_refl _) (by omega)
    have k := frs_at h' hl
    have hp : frPos us ts.length = a := by rw [← frs_all hf]; unfold frPos; rw [e]
    rw [hp] at k
    exact absurd k (hn _)
  · have e := frs_same hf h' ts.length (Nat.le_refl _) (by omega)
    rw [List.take_length, hl, List.take_length] at e
    subst e
    exact ⟨rfl, (frs_all hf).symm.trans (frs_all h')⟩
  · have e := frs_same hf h' us.length (by omega) (Nat.le_refl _)
    have k := frs_at hf hl
    have hp : frPos ts us.length = s.size := by rw [← frs_all h']; unfold frPos; rw [e]
    rw [hp] at k
    have h5 := frameT_five k.1
    have := k.2.1
    omega
def nodTs (x : Nod) : List ByteArray := hdT x :: x.insts.map insText
theorem savTo_chL (x : Nod) : ∀ k, k ≤ x.insts.length → savTo x k = chL ((hdT x :: (x.insts.map insText).take k).map frameT)
  | 0, _ => by unfold savTo; simp [chL]
  | k + 1, hk => by
    have hk' : k < (x.insts.map insText).length := by rw [List.length_map]; omega
    rw [savTo_succ, savTo_chL x k (by omega), List.take_succ_eq_append_getElem hk', ← List.cons_append, List.map_append, chL_app]
    congr 1
    rw [List.getElem_map, ← insAt_get (by omega)]
    simp [chL]
theorem hdT_size {x : Nod} (h : nodOkB x = true) : (hdT x).size ≤ 11 := by
  obtain ⟨⟨h1, h2⟩, ⟨h3, h4⟩, _⟩ := nodOk_bd h
  have v1 := varS_size x.me.toNat
  have v2 := varS_size x.next.toNat
  unfold hdT
  rw [ByteArray.size_append]
  omega
theorem fitB_at {x : Nod} (h : fitB x = true) {j : Nat} (hj : j < x.insts.length) : (insText (insAt x.insts j)).size ≤ 200 := by
  unfold fitB at h
  rw [List.all_eq_true] at h
  have := h j (List.mem_range.2 hj)
  simpa using this
theorem chL_five : ∀ {l : List ByteArray}, (∀ t ∈ l, t.size ≤ 200) → 5 * l.length ≤ (chL (l.map frameT)).size
  | [], _ => by simp
  | t :: l, h => by
    have h1 := chL_five (l := l) (fun u hu => h u (List.mem_cons_of_mem _ hu))
    have h2 := frameT_five (h t (List.mem_cons_self ..))
    simp only [List.map_cons, chL, ByteArray.size_append, List.length_cons]
    omega
theorem ld_frs {x : Nod} {s : ByteArray} (h : ldOk x s) : frs s (nodTs x) s.size := by
  obtain ⟨_, h1, h2, h3⟩ := h
  have h4 : s = chL ((nodTs x).map frameT) := by
    rw [← h3, savT_yes h1 h2, savTo_chL x _ (Nat.le_refl _), List.take_of_length_le (by simp)]
    rfl
  have h5 : ∀ t ∈ nodTs x, t.size ≤ 200 := by
    intro t ht
    unfold nodTs at ht
    rcases List.mem_cons.1 ht with rfl | ht
    · have := hdT_size h1; omega
    · obtain ⟨y, hy, rfl⟩ := List.mem_map.1 ht
      obtain ⟨i, hi, rfl⟩ := List.mem_iff_getElem.1 hy
      have := fitB_at h2 hi
      rwa [insAt_get hi] at this
  refine ⟨Nat.le_refl _, (ext_all s).trans h4, h5, ?_⟩
  have := chL_five h5
  rw [← h4] at this
  exact this
theorem ld_ts {x : Nod} {s : ByteArray} {ts : List ByteArray} {a : Nat} (h : ldOk x s) (hu : unfr s ts a) : ts = nodTs x ∧ a = s.size := unfr_all hu (ld_frs h)
theorem ld_unfr {x : Nod} {s : ByteArray} (h : ldOk x s) : unfr s (nodTs x) s.size := ⟨ld_frs h, fun t ht => by have := ht.2.1; have := frameT_five ht.1; omega⟩
theorem hdT_num {x : Nod} (h : nodOkB x = true) : numF (hdT x, false) = (x.me.toNat, (varS x.next.toNat, false)) ∧ numF (varS x.next.toNat, false) = (x.next.toNat, (ByteArray.empty, false)) := by
  obtain ⟨⟨h1, h2⟩, ⟨h3, h4⟩, _⟩ := nodOk_bd h
  refine ⟨numF_var (by omega) _, ?_⟩
  have := numF_var (n := x.next.toNat) (by omega) ByteArray.empty
  rwa [ByteArray.append_empty] at this
theorem hdT_vs {x : Nod} (h : nodOkB x = true) : ∃ e : Nat, vsF (hdT x) 2 ([], 0) = ([x.me.toNat, x.next.toNat], (e : Int)) := by
  obtain ⟨⟨h1, h2⟩, ⟨h3, h4⟩, _⟩ := nodOk_bd h
  have h0 : (hdT x).extract 0 (hdT x).size = varS x.me.toNat ++ varS x.next.toNat := ext_all _
  obtain ⟨p1, q1, k1⟩ := vs_step (Nat.zero_le _) h0 (by omega) 1 []
  have k2 : (hdT x).extract (0 + (varS x.me.toNat).size) (hdT x).size = varS x.next.toNat ++ ByteArray.empty := by rw [ByteArray.append_empty]; exact k1
  obtain ⟨p2, q2, _⟩ := vs_step q1 k2 (by omega) 0 ([] ++ [x.me.toNat])
  rw [vs_end] at p2
  exact ⟨_, p1.trans p2⟩
theorem nod_ext {x y : Nod} (h1 : x.me = y.me) (h2 : x.next = y.next) (h3 : x.insts = y.insts) (h4 : x.leads = y.leads) : x = y := by
  cases x; cases y; simp only at h1 h2 h3 h4; subst h1 h2 h3 h4; rfl
theorem ld_rd {x : Nod} {s : ByteArray} (h : ldOk x s) : ∀ l, l = x.insts → (∀ y ∈ l, insOkB y = true) → (l.map insText).map rdIn = l := by
  intro l hl
  clear hl h
  intro hy
  induction l with
  | nil => rfl
  | cons y l ih =>
    simp only [List.map_cons]
    rw [(rdIn_yes (hy y (List.mem_cons_self ..)) rfl).1, ih (fun z hz => hy z (List.mem_cons_of_mem _ hz))]
theorem inssOk_mem {l : List Ins} (h : inssOkB l = true) : ∀ y ∈ l, insOkB y = true := by
  intro y hy
  obtain ⟨i, hi, rfl⟩ := List.mem_iff_getElem.1 hy
  have := (inssOk_at h hi).1
  rwa [insAt_get hi] at this
/-- what the reader has made of the texts is the node itself -/
theorem ld_is {x : Nod} {s : ByteArray} {ts : List ByteArray} {a v1 v2 : Nat} (h : ldOk x s) (hu : unfr s ts a) (h1 : v1 = x.me.toNat) (h2 : v2 = x.next.toNat) : x = ⟨(v1 : Int), (v2 : Int), (ts.drop 1).map rdIn, []⟩ := by
  obtain ⟨e, _⟩ := ld_ts h hu
  obtain ⟨⟨k1, k2⟩, ⟨k3, k4⟩, k5⟩ := nodOk_bd h.2.1
  have hr := ld_rd h x.insts rfl (inssOk_mem k5)
  refine nod_ext (by simp only; omega) (by simp only; omega) ?_ h.1
  simp only
  rw [e]
  unfold nodTs
  rw [List.drop_succ_cons, List.drop_zero]
  exact hr.symm
theorem ld_uniq {x y : Nod} {s : ByteArray} (h : ldOk x s) (h' : ldOk y s) : x = y := by
  have hu := ld_unfr h
  obtain ⟨e, _⟩ := ld_ts h' hu
  have e0 : hdT x = hdT y := (List.cons.inj e).1
  have n1 := (hdT_num h.2.1).1
  have n2 := (hdT_num h'.2.1).1
  have m1 := (hdT_num h.2.1).2
  have m2 := (hdT_num h'.2.1).2
  rw [e0, n2] at n1
  simp only [Prod.mk.injEq] at n1
  obtain ⟨a1, a2, _⟩ := n1
  rw [← a2, m2] at m1
  simp only [Prod.mk.injEq] at m1
  rw [ld_is h hu rfl rfl, ld_is h' hu a1.symm m1.1.symm]
theorem ld_yes {x : Nod} {s : ByteArray} (h : ldOk x s) : ldN s = x ∧ ldNB s = true := by
  have h0 : ∃ x, ldOk x s := ⟨x, h⟩
  refine ⟨?_, by unfold ldNB; rw [if_pos h0]⟩
  unfold ldN
  rw [dif_pos h0]
  exact ld_uniq (Classical.choose_spec h0) h
theorem ld_no {s : ByteArray} (h : ∀ x, ldOk x s → False) : ldN s = nodNil ∧ ldNB s = false := by
  have h' : ¬ ∃ x, ldOk x s := fun ⟨x, h1⟩ => h x h1
  exact ⟨by unfold ldN; rw [dif_neg h'], by unfold ldNB; rw [if_neg h']⟩
theorem ld_ne {x : Nod} {s : ByteArray} (h : ldOk x s) : s ≠ ByteArray.empty := fun e => by
  have h1 := (ld_frs h).2.2.2
  have h2 : s.size = 0 := by rw [e]; rfl
  unfold nodTs at h1
  simp only [List.length_cons] at h1
  omega
theorem ld_end {n : Nod} {s : ByteArray} (hl : n.leads = []) (hne : s ≠ ByteArray.empty) (HE : ∀ x, ldOk x s → x = n) : (savT n = s ∧ ldN s = n ∧ ldNB s = true) ∨ (savT n ≠ s ∧ ldN s = nodNil ∧ ldNB s = false) := by
  by_cases h : savT n = s
  · have h1 : nodOkB n = true ∧ fitB n = true := by
      rcases Bool.eq_false_or_eq_true (nodOkB n) with h1 | h1
      · rcases Bool.eq_false_or_eq_true (fitB n) with h2 | h2
        · exact ⟨h1, h2⟩
        · exact absurd (h.symm.trans (savT_no (.inr h2))) hne
      · exact absurd (h.symm.trans (savT_no (.inl h1))) hne
    exact .inl ⟨h, ld_yes ⟨hl, h1.1, h1.2, h⟩⟩
  · exact .inr ⟨h, ld_no (fun x hx => h (by rw [← HE x hx]; exact hx.2.2.2))⟩
/-- a text that the node's text holds behind the first is an instance's -/
theorem ld_ins {x : Nod} {s : ByteArray} {ts : List ByteArray} {a : Nat} (h : ldOk x s) (hu : unfr s ts a) {k : Nat} (hk : k + 1 < ts.length) : rdInB (sAt ts (k + 1)) = true := by
  obtain ⟨e, _⟩ := ld_ts h hu
  subst e
  have hk' : k < x.insts.length := by simpa [nodTs] using hk
  have e1 : sAt (nodTs x) (k + 1) = insText (insAt x.insts k) := by
    simp [sAt, nodTs, hk', insAt_get hk']
  obtain ⟨_, _, k5⟩ := nodOk_bd h.2.1
  rw [e1]
  exact (rdIn_yes (inssOk_at k5 hk').1 rfl).2
theorem ld_hd {x : Nod} {s : ByteArray} {ts : List ByteArray} {a : Nat} (h : ldOk x s) (hu : unfr s ts a) : sAt ts 0 = hdT x ∧ 0 < ts.length ∧ a = s.size := by
  obtain ⟨e, e2⟩ := ld_ts h hu
  subst e
  exact ⟨by simp [sAt, nodTs], by simp [nodTs], e2⟩
theorem rdIn_ok {t : ByteArray} (h : rdInB t = true) : insOkB (rdIn t) = true := by
  by_cases hx : ∃ c, insOkB c = true ∧ insText c = t
  · obtain ⟨c, h1, h2⟩ := hx
    rw [(rdIn_yes h1 h2).1]; exact h1
  · rw [(rdIn_no (fun c h1 h2 => hx ⟨c, h1, h2⟩)).2] at h; cases h
end Go.Proofs.Ytdphdnllhmnelaa
/- What both LoadNodes need. -/
namespace Go.Proofs.Ytdphdnllhmnelaa
open Go.RowKit
theorem zOne4 : (#[.int .i64 0, .int .i64 0, .slice none 0 0, .slice none 0 0] : Array Value).all (·.oneCell') = true := all_oneCell_toArray (cs := [.int .i64 0, .int .i64 0, .slice none 0 0, .slice none 0 0]) (by simp [Value.oneCell'])
theorem sizeNode : (Try.prog.info? 67).map (·.size) = some 4 := by kernel_rfl
theorem sizeInst3 : (Try.prog.info? 50).map (·.size) = some 16 := by kernel_rfl
theorem own_at1 {w : World} {base e n c b o : Nat} {xs : List Value} (h : w.ownsRow base e 1 (.slice (some ⟨b, o, none⟩) n c) n xs) {j : Nat} {u : Value} (hj : xs[j]? = some u) : w.cell? ⟨b, o + j, none⟩ = some u := by
  obtain ⟨h1, h2⟩ := own_cells h
  have hl := (List.getElem?_eq_some_iff.1 hj).1
  obtain ⟨b', o', e, hc⟩ := h2 (by omega)
  cases e
  exact hc j u hj
theorem sAt_get? {ts : List ByteArray} {j : Nat} (hj : j < ts.length) : (ts.map Value.string)[j]? = some (.string (sAt ts j)) := by
  simp [sAt, hj]
/-- the instances that the first texts behind the head spell -/
noncomputable def insTo_ (ts : List ByteArray) (k : Nat) : List Ins := ((ts.drop 1).take k).map rdIn
theorem insTo_zero (ts : List ByteArray) : insTo_ ts 0 = [] := by simp [insTo_]
theorem insTo_succ {ts : List ByteArray} {k : Nat} (hk : k + 1 < ts.length) : insTo_ ts (k + 1) = insTo_ ts k ++ [rdIn (sAt ts (k + 1))] := by
  have h1 : k < (ts.drop 1).length := by rw [List.length_drop]; omega
  unfold insTo_
  rw [List.take_succ_eq_append_getElem h1, List.map_append, List.getElem_drop]
  simp [sAt, hk, Nat.add_comm]
theorem insTo_len {ts : List ByteArray} {k : Nat} (hk : k + 1 ≤ ts.length) : (insTo_ ts k).length = k := by
  unfold insTo_; rw [List.length_map, List.length_take, List.length_drop]; omega
theorem insTo_all {ts : List ByteArray} {k : Nat} (hk : ts.length = k + 1) : insTo_ ts k = (ts.drop 1).map rdIn := by
  unfold insTo_; rw [List.take_of_length_le (by rw [List.length_drop]; omega)]
theorem insOk_B {x : Ins} (h : insOkB x = true) : insB x := by
  have hb := insOk_bd h
  exact ⟨cmBd_cmB (cmOk_bd hb.cmd), by have := hb.len; unfold iddsB; omega⟩
theorem insTo_B {ts : List ByteArray} {k : Nat} (hk : k + 1 ≤ ts.length) (hl : ts.length ≤ 1048576) (h : ∀ j, j < k → rdInB (sAt ts (j + 1)) = true) : inssB (insTo_ ts k) := by
  refine ⟨by rw [insTo_len hk]; omega, fun y hy => ?_⟩
  unfold insTo_ at hy
  obtain ⟨t, ht, rfl⟩ := List.mem_map.1 hy
  obtain ⟨i, hi, rfl⟩ := List.mem_iff_getElem.1 ht
  rw [List.length_take, List.length_drop] at hi
  have e : ((ts.drop 1).take k)[i]'(by rw [List.length_take, List.length_drop]; exact hi) = sAt ts (i + 1) := by
    have : i + 1 < ts.length := by omega
    simp [sAt, this, Nat.add_comm]
  rw [e]
  exact insOk_B (rdIn_ok (h i (by omega)))
theorem ts200 {s : ByteArray} {ts : List ByteArray} {a : Nat} (h : frs s ts a) (j : Nat) : (sAt ts j).size ≤ 200 := by
  by_cases hj : j < ts.length
  · have e : sAt ts j = ts[j] := by simp [sAt, hj]
    rw [e]; exact h.2.2.1 _ (List.getElem_mem hj)
  · have e : sAt ts j = ByteArray.empty := by simp [sAt, hj]
    rw [e]; simp
end Go.Proofs.Ytdphdnllhmnelaa
/- Contract of the program's ReadInst. -/
namespace Go.Proofs.Ytdphdnllhmnelaa
open Go.RowKit
/-- the instance read so far; where the text is no instance's: whatever was read -/
theorem rdi_end {s : ByteArray} {X : Ins} {bad : Bool} (HE : ∀ c, insOkB c = true → insText c = s → c = X ∧ bad = false) :
    (bad = false ∧ s ≠ ByteArray.empty ∧ insText X = s ∧ rdIn s = X ∧ rdInB s = true) ∨ ((bad = true ∨ s = ByteArray.empty ∨ insText X ≠ s) ∧ rdIn s = insNil ∧ rdInB s = false) := by
  by_cases h1 : bad = false
  · by_cases h2 : s = ByteArray.empty
    · exact .inr ⟨.inr (.inl h2), rdIn_no (fun c hc hs => insText_ne hc (hs.trans h2))⟩
    · by_cases h3 : insText X = s
      · have hok : insOkB X = true := by
          cases hx : insOkB X
          · rw [insText_no hx] at h3; exact absurd h3.symm h2
          · rfl
        exact .inl ⟨h1, h2, h3, rdIn_yes hok h3⟩
      · exact .inr ⟨.inr (.inr h3), rdIn_no (fun c hc hs => h3 (by rw [← (HE c hc hs).1]; exact hs))⟩
  · exact .inr ⟨.inl (by simpa using h1), rdIn_no (fun c hc hs => h1 (HE c hc hs).2)⟩
theorem idd_els (w : World) : ∀ l : List Idd, Els iddF w (l.map iddL) (l.map fun _ => []) l
  | [] => trivial
  | x :: l => ⟨⟨rfl, rfl⟩, idd_els w l⟩
theorem nil_flat : ∀ l : List Idd, (l.map fun _ => ([] : List Nat)).flatten = []
  | [] => rfl
  | _ :: l => by simp
theorem idd_row {w : World} {A : Option Addr} {n c : Nat} {l : List Idd} (h : w.ownsRow 0 46 2 (.slice A n c) n (l.map iddL).flatten) (hn : n = l.length) : RowO iddF 46 2 (blkL A) w A n c l :=
  ⟨l.map iddL, l.map fun _ => [], by rw [nil_flat, List.append_nil], h, hn, idd_els w l⟩
theorem infoIdV : (Try.prog.info? 46).map (fun i => (i.zero, i.size, i.bytes)) = some (some (.agg #[.int .i64 0, .int .i64 0]), 2, 16) := by kernel_rfl
theorem sizeInst : (Try.prog.info? 50).map (·.size) = some 16 := by kernel_rfl
theorem ins_noBd (s : ByteArray) : cmB (rdCm s) := cmBd_cmB (cmOk_bd (rdCm_ok s))
theorem is_one (s : ByteArray) : (s.toList == [1]) = isOne s := by
  have h : (⟨#[1]⟩ : ByteArray).toList = [1] := by rw [Lib.toList_data]
  have := str_beq s ⟨#[1]⟩
  rwa [h] at this
attribute [local irreducible] StrsAt StrR StrO RowR RowO varS insOkB insText numF textF cutF manyF rdCm rdCmB rdIn rdInB InJ isOne
set_option maxRecDepth 8000 in
set_option maxHeartbeats 8000000 in
theorem readInst_impl (s : ByteArray) (w : World) (hs : s.size ≤ 1048576) :
    Calls Try.prog 29 #[.string s] w fun e w' => (∃ A1 n1 c1 A2 n2 c2 f1 f2, e = .returned (.tuple #[insV (rdIn s) (.slice A1 n1 c1) (.slice A2 n2 c2), .bool (rdInB s)]) ∧ StrO f1 w' A1 n1 c1 (rdIn s).cmd.ch ∧ RowO iddF 46 2 f2 w' A2 n2 c2 (rdIn s).deps ∧ (f1 ++ f2).Nodup ∧ ∀ b ∈ f1 ++ f2, w.heap.size ≤ b ∧ b < w'.heap.size) ∧ Below w.heap.size w w' := by
  go_enter Try.func29, Try.ntmps29
  go_wp2_with fail
  obtain ⟨W0, hW0⟩ : ∃ W, W = ((w.alloc (.cells #[.int .i64 0, .int .i64 0, .int .i64 0, .int .i64 0, .int .i64 0, .int .i64 0, .int .i64 0, .int .i64 0, .string ⟨#[]⟩, .string ⟨#[]⟩, .string ⟨#[]⟩, .int .i64 0, .slice none 0 0, .int .i64 0, .slice none 0 0, .bool false] 50)).alloc (.cells #[.string s, .bool false] 119)).alloc (.cells #[.int .i64 0, .int .i64 0, .int .i64 0, .int .i64 0, .int .i64 0, .int .i64 0, .int .i64 0, .int .i64 0, .string ⟨#[]⟩, .string ⟨#[]⟩, .string ⟨#[]⟩, .int .i64 0, .slice none 0 0, .int .i64 0, .slice none 0 0, .bool false] 50) := ⟨_, rfl⟩
  have al1 := (Below.refl w.heap.size w).alloc (Nat.le_refl _) (.cells #[.int .i64 0, .int .i64 0, .int .i64 0, .int .i64 0, .int .i64 0, .int .i64 0, .int .i64 0, .int .i64 0, .string ⟨#[]⟩, .string ⟨#[]⟩, .string ⟨#[]⟩, .int .i64 0, .slice none 0 0, .int .i64 0, .slice none 0 0, .bool false] 50)
  obtain ⟨Wa, hWa⟩ : ∃ W, W = w.alloc (.cells #[.int .i64 0, .int .i64 0, .int .i64 0, .int .i64 0, .int .i64 0, .int .i64 0, .int .i64 0, .int .i64 0, .string ⟨#[]⟩, .string ⟨#[]⟩, .string ⟨#[]⟩, .int .i64 0, .slice none 0 0, .int .i64 0, .slice none 0 0, .bool false] 50) := ⟨_, rfl⟩
  rw [← hWa] at al1 hW0
  have R : BoxL Wa w.heap.size [.int .i64 0, .int .i64 0, .int .i64 0, .int .i64 0, .int .i64 0, .int .i64 0, .int .i64 0, .int .i64 0, .string ⟨#[]⟩, .string ⟨#[]⟩, .string ⟨#[]⟩, .int .i64 0, .slice none 0 0, .int .i64 0, .slice none 0 0, .bool false] := by rw [hWa]; exact BoxL.new w _ _
  have za : Wa.heap.size = w.heap.size + 1 := by rw [hWa]; simp [go_sem]
  have al2 := (Below.refl Wa.heap.size Wa).alloc (Nat.le_refl _) (.cells #[.string s, .bool false] 119)
  obtain ⟨Wb, hWb⟩ : ∃ W, W = Wa.alloc (.cells #[.string s, .bool false] 119) := ⟨_, rfl⟩
  rw [← hWb] at al2 hW0
  have S : Scn Wb (w.heap.size + 1) (s, false) := by rw [hWb, ← za]; exact ⟨by simp [go_sem], by simp [go_sem], by simp [go_sem], by simp [go_sem], by simp only; omega⟩
  have zb : Wb.heap.size = w.heap.size + 2 := by rw [hWb]; simp [go_sem]; omega
  have al3 := (Below.refl Wb.heap.size Wb).alloc (Nat.le_refl _) (.cells #[.int .i64 0, .int .i64 0, .int .i64 0, .int .i64 0, .int .i64 0, .int .i64 0, .int .i64 0, .int .i64 0, .string ⟨#[]⟩, .string ⟨#[]⟩, .string ⟨#[]⟩, .int .i64 0, .slice none 0 0, .int .i64 0, .slice none 0 0, .bool false] 50)
  rw [← hW0] at al3
  have C : BoxL W0 (w.heap.size + 1 + 1) [.int .i64 0, .int .i64 0, .int .i64 0, .int .i64 0, .int .i64 0, .int .i64 0, .int .i64 0, .int .i64 0, .string ⟨#[]⟩, .string ⟨#[]⟩, .string ⟨#[]⟩, .int .i64 0, .slice none 0 0, .int .i64 0, .slice none 0 0, .bool false] := by rw [hW0, ← zb]; exact BoxL.new Wb _ _
  have R' := (R.keep al2).keep al3; clear R; have R := R'; clear R'
  have S' := S.keep al3; clear S; have S := S'; clear S'
  have B : Below w.heap.size w W0 := bthen (bthen al1 al2) al3
  have z : w.heap.size + 1 + 1 < W0.heap.size := C.lt
  rw [hWb, hWa] at hW0
  rw [← hW0]; clear hW0 al1 al2 al3 hWa hWb za zb Wa Wb
  have hx0 : ((s, false) : Sc).1.size ≤ 1048576 := hs
  refine (num_impl _ _ _ S).mono ?_
  rintro e w1 ⟨rfl, S', c1⟩
  clear S; have S := S'; clear S'
  have R' := R.ch c1 (ne_blk (by omega)); clear R; have R := R'; clear R'
  have C' := C.ch c1 (ne_blk (by omega)); clear C; have C := C'; clear C'
  have B' := c1.belowB B (by omega) (fun k hk => by have hk : k = _ := hk; omega); clear B; have B := B'; clear B'
  have z' := Nat.lt_of_lt_of_le z c1.size; clear z; have z := z'; clear z'
  have q1 := numF_le (s, false)
  obtain ⟨⟨v1, x1⟩, f1⟩ : ∃ r, numF (s, false) = r := ⟨_, rfl⟩
  rw [f1] at S q1 ⊢
  simp only at S q1
  have hx1 : x1.1.size ≤ 1048576 := by omega
  have F1 := Lib.hid f1; clear f1 c1
  have e0 := C.cell 0 _ rfl
  have y0 := C.fz 0 (by simp)
  have eL := C.lt
  go_wp2_with fail
  clear e0 y0 eL
  obtain ⟨W1, hW⟩ : ∃ W, W = (w1.setCell ⟨w.heap.size + 1 + 1, 0, none⟩ (.int .i64 (v1 : Int))) := ⟨_, rfl⟩
  rw [← hW]
  have d : Ch (fun k => k = w.heap.size + 1 + 1) w1 W1 := by rw [hW]; exact Ch.set
  have C' : BoxL W1 (w.heap.size + 1 + 1) [.int .i64 (v1 : Int), .int .i64 0, .int .i64 0, .int .i64 0, .int .i64 0, .int .i64 0, .int .i64 0, .int .i64 0, .string ⟨#[]⟩, .string ⟨#[]⟩, .string ⟨#[]⟩, .int .i64 0, .slice none 0 0, .int .i64 0, .slice none 0 0, .bool false] := by rw [hW]; exact (C.set (j := 0) (v := .int .i64 (v1 : Int)) (by simp))
  have R' := R.ch d (ne_blk (by omega)); clear R; have R := R'; clear R'
  have S' := S.ch d (ne_blk (by omega)); clear S; have S := S'; clear S'
  have B' := d.belowB B (by omega) (fun k hk => by have hk : k = _ := hk; omega); clear B; have B := B'; clear B'
  have z' := Nat.lt_of_lt_of_le z d.size; clear z; have z := z'; clear z'
  clear C hW d; have C := C'; clear C'
  refine (num_impl _ _ _ S).mono ?_
  rintro e w2 ⟨rfl, S', c2⟩
  clear S; have S := S'; clear S'
  have R' := R.ch c2 (ne_blk (by omega)); clear R; have R := R'; clear R'
  have C' := C.ch c2 (ne_blk (by omega)); clear C; have C := C'; clear C'
  have B' := c2.belowB B (by omega) (fun k hk => by have hk : k = _ := hk; omega); clear B; have B := B'; clear B'
  have z' := Nat.lt_of_lt_of_le z c2.size; clear z; have z := z'; clear z'
  have q2 := numF_le x1
  obtain ⟨⟨v2, x2⟩, f2⟩ : ∃ r, numF x1 = r := ⟨_, rfl⟩
  rw [f2] at S q2 ⊢
  simp only at S q2
  have hx2 : x2.1.size ≤ 1048576 := by omega
  have F2 := Lib.hid f2; clear f2 c2
  have e1 := C.cell 1 _ rfl
  have y1 := C.fz 1 (by simp)
  have eL := C.lt
  go_wp2_with fail
  clear e1 y1 eL
  obtain ⟨W2, hW⟩ : ∃ W, W = (w2.setCell ⟨w.heap.size + 1 + 1, 1, none⟩ (.int .i64 (v2 : Int))) := ⟨_, rfl⟩
  rw [← hW]
  have d : Ch (fun k => k = w.heap.size + 1 + 1) w2 W2 := by rw [hW]; exact Ch.set
  have C' : BoxL W2 (w.heap.size + 1 + 1) [.int .i64 (v1 : Int), .int .i64 (v2 : Int), .int .i64 0, .int .i64 0, .int .i64 0, .int .i64 0, .int .i64 0, .int .i64 0, .string ⟨#[]⟩, .string ⟨#[]⟩, .string ⟨#[]⟩, .int .i64 0, .slice none 0 0, .int .i64 0, .slice none 0 0, .bool false] := by rw [hW]; exact (C.set (j := 1) (v := .int .i64 (v2 : Int)) (by simp))
  have R' := R.ch d (ne_blk (by omega)); clear R; have R := R'; clear R'
  have S' := S.ch d (ne_blk (by omega)); clear S; have S := S'; clear S'
  have B' := d.belowB B (by omega) (fun k hk => by have hk : k = _ := hk; omega); clear B; have B := B'; clear B'
  have z' := Nat.lt_of_lt_of_le z d.size; clear z; have z := z'; clear z'
  clear C hW d; have C := C'; clear C'
  refine (num_impl _ _ _ S).mono ?_
  rintro e w3 ⟨rfl, S', c3⟩
  clear S; have S := S'; clear S'
  have R' := R.ch c3 (ne_blk (by omega)); clear R; have R := R'; clear R'
  have C' := C.ch c3 (ne_blk (by omega)); clear C; have C := C'; clear C'
  have B' := c3.belowB B (by omega) (fun k hk => by have hk : k = _ := hk; omega); clear B; have B := B'; clear B'
  have z' := Nat.lt_of_lt_of_le z c3.size; clear z; have z := z'; clear z'
  have q3 := numF_le x2
  obtain ⟨⟨v3, x3⟩, f3⟩ : ∃ r, numF x2 = r := ⟨_, rfl⟩
  rw [f3] at S q3 ⊢
  simp only at S q3
  have hx3 : x3.1.size ≤ 1048576 := by omega
  have F3 := Lib.hid f3; clear f3 c3
  go_wp2_with fail
  refine (num_impl _ _ _ S).mono ?_
  rintro e w4 ⟨rfl, S', c4⟩
  clear S; have S := S'; clear S'
  have R' := R.ch c4 (ne_blk (by omega)); clear R; have R := R'; clear R'
  have C' := C.ch c4 (ne_blk (by omega)); clear C; have C := C'; clear C'
  have B' := c4.belowB B (by omega) (fun k hk => by have hk : k = _ := hk; omega); clear B; have B := B'; clear B'
  have z' := Nat.lt_of_lt_of_le z c4.size; clear z; have z := z'; clear z'
  have q4 := numF_le x3
  obtain ⟨⟨v4, x4⟩, f4⟩ : ∃ r, numF x3 = r := ⟨_, rfl⟩
  rw [f4] at S q4 ⊢
  simp only at S q4
  have hx4 : x4.1.size ≤ 1048576 := by omega
  have F4 := Lib.hid f4; clear f4 c4
  have e2 := C.cell 2 _ rfl
  have y2 := C.fz 2 (by simp)
  have e3 := C.cell 3 _ rfl
  have y3 := C.fz 3 (by simp)
  have eL := C.lt
  go_wp2_with fail
  clear e2 y2 e3 y3 eL
  obtain ⟨W4, hW⟩ : ∃ W, W = ((w4.setCell ⟨w.heap.size + 1 + 1, 2, none⟩ (.int .i64 ((v3 : Int) - 1))).setCell ⟨w.heap.size + 1 + 1, 3, none⟩ (.int .i64 ((v4 : Int) - 1))) := ⟨_, rfl⟩
  rw [← hW]
  have d : Ch (fun k => k = w.heap.size + 1 + 1) w4 W4 := by rw [hW]; exact (Ch.set).trans Ch.set
  have C' : BoxL W4 (w.heap.size + 1 + 1) [.int .i64 (v1 : Int), .int .i64 (v2 : Int), .int .i64 ((v3 : Int) - 1), .int .i64 ((v4 : Int) - 1), .int .i64 0, .int .i64 0, .int .i64 0, .int .i64 0, .string ⟨#[]⟩, .string ⟨#[]⟩, .string ⟨#[]⟩, .int .i64 0, .slice none 0 0, .int .i64 0, .slice none 0 0, .bool false] := by rw [hW]; exact ((C.set (j := 2) (v := .int .i64 ((v3 : Int) - 1)) (by simp)).set (j := 3) (v := .int .i64 ((v4 : Int) - 1)) (by simp))
  have R' := R.ch d (ne_blk (by omega)); clear R; have R := R'; clear R'
  have S' := S.ch d (ne_blk (by omega)); clear S; have S := S'; clear S'
  have B' := d.belowB B (by omega) (fun k hk => by have hk : k = _ := hk; omega); clear B; have B := B'; clear B'
  have z' := Nat.lt_of_lt_of_le z d.size; clear z; have z := z'; clear z'
  clear C hW d; have C := C'; clear C'
  refine (num_impl _ _ _ S).mono ?_
  rintro e w5 ⟨rfl, S', c5⟩
  clear S; have S := S'; clear S'
  have R' := R.ch c5 (ne_blk (by omega)); clear R; have R := R'; clear R'
  have C' := C.ch c5 (ne_blk (by omega)); clear C; have C := C'; clear C'
  have B' := c5.belowB B (by omega) (fun k hk => by have hk : k = _ := hk; omega); clear B; have B := B'; clear B'
  have z' := Nat.lt_of_lt_of_le z c5.size; clear z; have z := z'; clear z'
  have q5 := numF_le x4
  obtain ⟨⟨v5, x5⟩, f5⟩ : ∃ r, numF x4 = r := ⟨_, rfl⟩
  rw [f5] at S q5 ⊢
  simp only at S q5
  have hx5 : x5.1.size ≤ 1048576 := by omega
  have F5 := Lib.hid f5; clear f5 c5
  have e4 := C.cell 4 _ rfl
  have y4 := C.fz 4 (by simp)
  have eL := C.lt
  go_wp2_with fail
  clear e4 y4 eL
  obtain ⟨W5, hW⟩ : ∃ W, W = (w5.setCell ⟨w.heap.size + 1 + 1, 4, none⟩ (.int .i64 (v5 : Int))) := ⟨_, rfl⟩
  rw [← hW]
  have d : Ch (fun k => k = w.heap.size + 1 + 1) w5 W5 := by rw [hW]; exact Ch.set
  have C' : BoxL W5 (w.heap.size + 1 + 1) [.int .i64 (v1 : Int), .int .i64 (v2 : Int), .int .i64 ((v3 : Int) - 1), .int .i64 ((v4 : Int) - 1), .int .i64 (v5 : Int), .int .i64 0, .int .i64 0, .int .i64 0, .string ⟨#[]⟩, .string ⟨#[]⟩, .string ⟨#[]⟩, .int .i64 0, .slice none 0 0, .int .i64 0, .slice none 0 0, .bool false] := by rw [hW]; exact (C.set (j := 4) (v := .int .i64 (v5 : Int)) (by simp))
  have R' := R.ch d (ne_blk (by omega)); clear R; have R := R'; clear R'
  have S' := S.ch d (ne_blk (by omega)); clear S; have S := S'; clear S'
  have B' := d.belowB B (by omega) (fun k hk => by have hk : k = _ := hk; omega); clear B; have B := B'; clear B'
  have z' := Nat.lt_of_lt_of_le z d.size; clear z; have z := z'; clear z'
  clear C hW d; have C := C'; clear C'
  refine (num_impl _ _ _ S).mono ?_
  rintro e w6 ⟨rfl, S', c6⟩
  clear S; have S := S'; clear S'
  have R' := R.ch c6 (ne_blk (by omega)); clear R; have R := R'; clear R'
  have C' := C.ch c6 (ne_blk (by omega)); clear C; have C := C'; clear C'
  have B' := c6.belowB B (by omega) (fun k hk => by have hk : k = _ := hk; omega); clear B; have B := B'; clear B'
  have z' := Nat.lt_of_lt_of_le z c6.size; clear z; have z := z'; clear z'
  have q6 := numF_le x5
  obtain ⟨⟨v6, x6⟩, f6⟩ : ∃ r, numF x5 = r := ⟨_, rfl⟩
  rw [f6] at S q6 ⊢
  simp only at S q6
  have hx6 : x6.1.size ≤ 1048576 := by omega
  have F6 := Lib.hid f6; clear f6 c6
  have e13 := C.cell 13 _ rfl
  have y13 := C.fz 13 (by simp)
  have eL := C.lt
  go_wp2_with fail
  clear e13 y13 eL
  obtain ⟨W6, hW⟩ : ∃ W, W = (w6.setCell ⟨w.heap.size + 1 + 1, 13, none⟩ (.int .i64 (v6 : Int))) := ⟨_, rfl⟩
  rw [← hW]
  have d : Ch (fun k => k = w.heap.size + 1 + 1) w6 W6 := by rw [hW]; exact Ch.set
  have C' : BoxL W6 (w.heap.size + 1 + 1) [.int .i64 (v1 : Int), .int .i64 (v2 : Int), .int .i64 ((v3 : Int) - 1), .int .i64 ((v4 : Int) - 1), .int .i64 (v5 : Int), .int .i64 0, .int .i64 0, .int .i64 0, .string ⟨#[]⟩, .string ⟨#[]⟩, .string ⟨#[]⟩, .int .i64 0, .slice none 0 0, .int .i64 (v6 : Int), .slice none 0 0, .bool false] := by rw [hW]; exact (C.set (j := 13) (v := .int .i64 (v6 : Int)) (by simp))
  have R' := R.ch d (ne_blk (by omega)); clear R; have R := R'; clear R'
  have S' := S.ch d (ne_blk (by omega)); clear S; have S := S'; clear S'
  have B' := d.belowB B (by omega) (fun k hk => by have hk : k = _ := hk; omega); clear B; have B := B'; clear B'
  have z' := Nat.lt_of_lt_of_le z d.size; clear z; have z := z'; clear z'
  clear C hW d; have C := C'; clear C'
  refine (cut_impl _ 1 _ _ S (by omega)).mono ?_
  rintro e w7 ⟨rfl, S', c7⟩
  clear S; have S := S'; clear S'
  have R' := R.ch c7 (ne_blk (by omega)); clear R; have R := R'; clear R'
  have C' := C.ch c7 (ne_blk (by omega)); clear C; have C := C'; clear C'
  have B' := c7.belowB B (by omega) (fun k hk => by have hk : k = _ := hk; omega); clear B; have B := B'; clear B'
  have z' := Nat.lt_of_lt_of_le z c7.size; clear z; have z := z'; clear z'
  have q7 := cutF_cost x6 1
  obtain ⟨⟨v7, x7⟩, f7⟩ : ∃ r, cutF x6 1 = r := ⟨_, rfl⟩
  rw [f7] at S q7 ⊢
  simp only at S q7
  have hx7 : x7.1.size ≤ 1048576 := by omega
  have F7 := Lib.hid f7; clear f7 c7
  have e15 := C.cell 15 _ rfl
  have y15 := C.fz 15 (by simp)
  have eL := C.lt
  have hone : (v7.toList == [1]) = isOne v7 := is_one v7
  go_wp2_with fail
  clear e15 y15 eL
  clear hone
  obtain ⟨W7, hW⟩ : ∃ W, W = (w7.setCell ⟨w.heap.size + 1 + 1, 15, none⟩ (.bool (isOne v7))) := ⟨_, rfl⟩
  rw [← hW]
  have d : Ch (fun k => k = w.heap.size + 1 + 1) w7 W7 := by rw [hW]; exact Ch.set
  have C' : BoxL W7 (w.heap.size + 1 + 1) [.int .i64 (v1 : Int), .int .i64 (v2 : Int), .int .i64 ((v3 : Int) - 1), .int .i64 ((v4 : Int) - 1), .int .i64 (v5 : Int), .int .i64 0, .int .i64 0, .int .i64 0, .string ⟨#[]⟩, .string ⟨#[]⟩, .string ⟨#[]⟩, .int .i64 0, .slice none 0 0, .int .i64 (v6 : Int), .slice none 0 0, .bool (isOne v7)] := by rw [hW]; exact (C.set (j := 15) (v := .bool (isOne v7)) (by simp))
  have R' := R.ch d (ne_blk (by omega)); clear R; have R := R'; clear R'
  have S' := S.ch d (ne_blk (by omega)); clear S; have S := S'; clear S'
  have B' := d.belowB B (by omega) (fun k hk => by have hk : k = _ := hk; omega); clear B; have B := B'; clear B'
  have z' := Nat.lt_of_lt_of_le z d.size; clear z; have z := z'; clear z'
  clear C hW d; have C := C'; clear C'
  refine (text_impl _ _ _ S).mono ?_
  rintro e w8 ⟨rfl, S', c8⟩
  clear S; have S := S'; clear S'
  have R' := R.ch c8 (ne_blk (by omega)); clear R; have R := R'; clear R'
  have C' := C.ch c8 (ne_blk (by omega)); clear C; have C := C'; clear C'
  have B' := c8.belowB B (by omega) (fun k hk => by have hk : k = _ := hk; omega); clear B; have B := B'; clear B'
  have z' := Nat.lt_of_lt_of_le z c8.size; clear z; have z := z'; clear z'
  have q8 := textF_cost x7
  obtain ⟨⟨v8, x8⟩, f8⟩ : ∃ r, textF x7 = r := ⟨_, rfl⟩
  rw [f8] at S q8 ⊢
  simp only at S q8
  have hx8 : x8.1.size ≤ 1048576 := by omega
  have F8 := Lib.hid f8; clear f8 c8
  go_wp2_with fail
  refine (readCmd_impl v8 _ (by omega)).mono ?_
  rintro e w9 ⟨⟨A1, n1, c1, f1, rfl, O, hN1, hO1⟩, hb9⟩
  have hOb : ∀ b ∈ f1, w8.heap.size ≤ b ∧ b < w9.heap.size := hO1; clear hO1
  have hz89 := hb9.size
  have R' := R.ch (Ch.of_below (S := fun _ => False) hb9) (fun h => h); clear R; have R := R'; clear R'
  have C' := C.ch (Ch.of_below (S := fun _ => False) hb9) (fun h => h); clear C; have C := C'; clear C'
  have S' := S.keep hb9; clear S; have S := S'; clear S'
  have B' := bthen B hb9; clear B; have B := B'; clear B'
  have z8 := z
  have z' := Nat.lt_of_lt_of_le z hb9.size; clear z; have z := z'; clear z'
  have hcB := ins_noBd v8
  obtain ⟨xc, hxc⟩ : ∃ x, rdCm v8 = x := ⟨_, rfl⟩
  obtain ⟨bc, hbc⟩ : ∃ x, rdCmB v8 = x := ⟨_, rfl⟩
  rw [hxc] at O hcB ⊢
  rw [hbc]
  have HXC := Lib.hid hxc; clear hxc hbc
  unfold cmV
  have e5 := C.cell 5 _ rfl
  have y5 := C.fz 5 (by simp)
  have e6 := C.cell 6 _ rfl
  have y6 := C.fz 6 (by simp)
  have e7 := C.cell 7 _ rfl
  have y7 := C.fz 7 (by simp)
  have e8 := C.cell 8 _ rfl
  have y8 := C.fz 8 (by simp)
  have e9 := C.cell 9 _ rfl
  have y9 := C.fz 9 (by simp)
  have e10 := C.cell 10 _ rfl
  have y10 := C.fz 10 (by simp)
  have e11 := C.cell 11 _ rfl
  have y11 := C.fz 11 (by simp)
  have e12 := C.cell 12 _ rfl
  have y12 := C.fz 12 (by simp)
  have eL := C.lt
  go_wp2_with fail
  clear e5 y5 e6 y6 e7 y7 e8 y8 e9 y9 e10 y10 e11 y11 e12 y12 eL
  obtain ⟨W9, hW⟩ : ∃ W, W = ((((((((w9.setCell ⟨w.heap.size + 1 + 1, 5, none⟩ (.int .i64 xc.kd)).setCell ⟨w.heap.size + 1 + 1, 6, none⟩ (.int .i64 xc.cl)).setCell ⟨w.heap.size + 1 + 1, 7, none⟩ (.int .i64 xc.no)).setCell ⟨w.heap.size + 1 + 1, 8, none⟩ (.string xc.s)).setCell ⟨w.heap.size + 1 + 1, 9, none⟩ (.string xc.nm)).setCell ⟨w.heap.size + 1 + 1, 10, none⟩ (.string xc.tg)).setCell ⟨w.heap.size + 1 + 1, 11, none⟩ (.int .i64 xc.n)).setCell ⟨w.heap.size + 1 + 1, 12, none⟩ (.slice A1 n1 c1)) := ⟨_, rfl⟩
  rw [← hW]
  have d : Ch (fun k => k = w.heap.size + 1 + 1) w9 W9 := by rw [hW]; exact (((((((Ch.set).trans Ch.set).trans Ch.set).trans Ch.set).trans Ch.set).trans Ch.set).trans Ch.set).trans Ch.set
  have C' : BoxL W9 (w.heap.size + 1 + 1) [.int .i64 (v1 : Int), .int .i64 (v2 : Int), .int .i64 ((v3 : Int) - 1), .int .i64 ((v4 : Int) - 1), .int .i64 (v5 : Int), .int .i64 xc.kd, .int .i64 xc.cl, .int .i64 xc.no, .string xc.s, .string xc.nm, .string xc.tg, .int .i64 xc.n, .slice A1 n1 c1, .int .i64 (v6 : Int), .slice none 0 0, .bool (isOne v7)] := by rw [hW]; exact ((((((((C.set (j := 5) (v := .int .i64 xc.kd) (by simp)).set (j := 6) (v := .int .i64 xc.cl) (by simp)).set (j := 7) (v := .int .i64 xc.no) (by simp)).set (j := 8) (v := .string xc.s) (by simp)).set (j := 9) (v := .string xc.nm) (by simp)).set (j := 10) (v := .string xc.tg) (by simp)).set (j := 11) (v := .int .i64 xc.n) (by simp)).set (j := 12) (v := .slice A1 n1 c1) (by simp))
  have R' := R.ch d (ne_blk (by omega)); clear R; have R := R'; clear R'
  have O' := O.ch d (fun b hb h2 => by have h2 : b = w.heap.size + 1 + 1 := h2; have := hOb b hb; omega); clear O; have O := O'; clear O'
  have S' := S.ch d (ne_blk (by omega)); clear S; have S := S'; clear S'
  have B' := d.belowB B (by omega) (fun k hk => by have hk : k = _ := hk; omega); clear B; have B := B'; clear B'
  have z' := Nat.lt_of_lt_of_le z d.size; clear z; have z := z'; clear z'
  clear C hW d; have C := C'; clear C'
  refine (many_impl _ 18 _ _ S (by omega)).mono ?_
  rintro e w10 ⟨rfl, S', c10⟩
  clear S; have S := S'; clear S'
  have R' := R.ch c10 (ne_blk (by omega)); clear R; have R := R'; clear R'
  have O' := O.ch c10 (fun b hb h2 => by have h2 : b = w.heap.size + 1 := h2; have := hOb b hb; omega); clear O; have O := O'; clear O'
  have C' := C.ch c10 (ne_blk (by omega)); clear C; have C := C'; clear C'
  have B' := c10.belowB B (by omega) (fun k hk => by have hk : k = _ := hk; omega); clear B; have B := B'; clear B'
  have z' := Nat.lt_of_lt_of_le z c10.size; clear z; have z := z'; clear z'
  have q10 := manyF_le x8 18
  obtain ⟨⟨v10, x10⟩, f10⟩ : ∃ r, manyF x8 18 = r := ⟨_, rfl⟩
  rw [f10] at S q10 ⊢
  simp only at S q10
  have hx10 : x10.1.size ≤ 1048576 := by omega
  have F10 := Lib.hid f10; clear f10 c10
  have J0 := Lib.hid (InJ.start F1.out F2.out F3.out F4.out F5.out F6.out F7.out F8.out F10.out)
  simp only at J0
  clear F1 F2 F3 F4 F5 F6 F7 F8 F10
  go_wp2
  have hOw := O.lt
  go_loopw [56] (fun i wr => ∃ (ds : List Idd) (x : Sc) (A2 : Option Addr) (cap : Nat), i = .int .i64 (ds.length : Nat) ∧ ds.length ≤ v10 ∧ InJ s v1 v2 v3 v4 v5 v6 v7 v8 v10 ds x ∧ BoxL wr w.heap.size [.int .i64 0, .int .i64 0, .int .i64 0, .int .i64 0, .int .i64 0, .int .i64 0, .int .i64 0, .int .i64 0, .string ⟨#[]⟩, .string ⟨#[]⟩, .string ⟨#[]⟩, .int .i64 0, .slice none 0 0, .int .i64 0, .slice none 0 0, .bool false] ∧ Scn wr (w.heap.size + 1) x ∧ BoxL wr (w.heap.size + 1 + 1) [.int .i64 (v1 : Int), .int .i64 (v2 : Int), .int .i64 ((v3 : Int) - 1), .int .i64 ((v4 : Int) - 1), .int .i64 (v5 : Int), .int .i64 xc.kd, .int .i64 xc.cl, .int .i64 xc.no, .string xc.s, .string xc.nm, .string xc.tg, .int .i64 xc.n, .slice A1 n1 c1, .int .i64 (v6 : Int), .slice A2 ds.length cap, .bool (isOne v7)] ∧ StrO f1 wr A1 n1 c1 xc.ch ∧ wr.ownsRow w10.heap.size 46 2 (.slice A2 ds.length cap) ds.length (ds.map iddL).flatten ∧ x.1.size ≤ 1048576 ∧ Below w.heap.size w wr ∧ w10.heap.size ≤ wr.heap.size) (fun i _ => v10 - (intOf i).toNat)
  case atStart => exact ⟨[], x10, none, 0, by simp, Nat.zero_le _, J0.out, R, S, C, O, by simpa using World.ownsRow_nil _ _ _ _, hx10, B, Nat.le_refl _⟩
  case round =>
    have z10 := z
    clear R S C O B z J0
    obtain ⟨ds, x, A2, cap, rfl, hl, hj, R, S, C, O, own, hxz, B, hzL⟩ := hrel
    have z : w.heap.size + 1 + 1 < wr.heap.size := C.lt
    have HJ := Lib.hid hj; clear hj
    by_cases hlt : ds.length < v10
    · skip
      have ilt : (ds.length : Int) < (v10 : Int) := by omega
      have J2 := Lib.hid (InJ.step HJ.out hlt)
      go_wp2_with fail
      refine (num_impl _ _ _ S).mono ?_
      rintro e wa ⟨rfl, S', cx⟩
      clear S; have S := S'; clear S'
      have R' := R.ch cx (ne_blk (by omega)); clear R; have R := R'; clear R'
      have C' := C.ch cx (ne_blk (by omega)); clear C; have C := C'; clear C'
      have O' := O.ch cx (fun b hb h2 => by have h2 : b = w.heap.size + 1 := h2; have := hOb b hb; omega); clear O; have O := O'; clear O'
      have own' := own_chL own cx (fun b hb h2 => by have h2 : b = w.heap.size + 1 := h2; have := (own_lo own b hb).1; omega); clear own; have own := own'; clear own'
      have B' := cx.belowB B (by omega) (fun k hk => by have hk : k = _ := hk; omega); clear B; have B := B'; clear B'
      have z' := Nat.lt_of_lt_of_le z cx.size; clear z; have z := z'; clear z'
      have hzL' := Nat.le_trans hzL cx.size; clear hzL; have hzL := hzL'; clear hzL'
      have qa := numF_le x
      obtain ⟨⟨va, xa⟩, fa⟩ : ∃ r, numF x = r := ⟨_, rfl⟩
      rw [fa] at S qa J2 ⊢
      simp only at S qa J2
      have hxa : xa.1.size ≤ 1048576 := by omega
      clear fa cx
      go_wp2_with fail
      have hod0 : ∀ b ∈ blkL A2, b < wa.heap.size := fun b hb => (own_lo own b hb).2
      obtain ⟨d, hd⟩ : ∃ d, wa.heap.size = d := ⟨_, rfl⟩
      have hdL : w10.heap.size ≤ d := by omega
      have al := (Below.refl wa.heap.size wa).alloc (Nat.le_refl _) (.cells #[.int .i64 (va : Int), .int .i64 0] 46)
      obtain ⟨Wd, hWd⟩ : ∃ W, W = wa.alloc (.cells #[.int .i64 (va : Int), .int .i64 0] 46) := ⟨_, rfl⟩
      have D : BoxL Wd d [.int .i64 (va : Int), .int .i64 0] := by rw [hWd, ← hd]; exact BoxL.new wa _ _
      rw [← hWd] at al ⊢
      have R' := R.ch (Ch.of_below (S := fun _ => False) al) (fun h => h); clear R; have R := R'; clear R'
      have C' := C.ch (Ch.of_below (S := fun _ => False) al) (fun h => h); clear C; have C := C'; clear C'
      have O' := O.ch (Ch.of_below (S := fun _ => False) al) (fun _ _ h => h); clear O; have O := O'; clear O'
      have own' := own_chL own (Ch.of_below (S := fun _ => False) al) (fun _ _ h => h); clear own; have own := own'; clear own'
      have S' := S.keep al; clear S; have S := S'; clear S'
      have B' := bthen B al; clear B; have B := B'; clear B'
      have hzd := al.size
      have hgd : w.heap.size + 1 + 1 < d := by omega
      have z' := Nat.lt_of_lt_of_le z al.size; clear z; have z := z'; clear z'
      have hzL' := Nat.le_trans hzL al.size; clear hzL; have hzL := hzL'; clear hzL'
      simp only [hd]; clear hWd al
      have hod : ∀ b ∈ blkL A2, b < d := fun b hb => by have := hod0 b hb; omega
      clear hod0
      refine (num_impl _ _ _ S).mono ?_
      rintro e wb ⟨rfl, S', cx⟩
      clear S; have S := S'; clear S'
      have R' := R.ch cx (ne_blk (by omega)); clear R; have R := R'; clear R'
      have C' := C.ch cx (ne_blk (by omega)); clear C; have C := C'; clear C'
      have O' := O.ch cx (fun b hb h2 => by have h2 : b = w.heap.size + 1 := h2; have := hOb b hb; omega); clear O; have O := O'; clear O'
      have own' := own_chL own cx (fun b hb h2 => by have h2 : b = w.heap.size + 1 := h2; have := (own_lo own b hb).1; omega); clear own; have own := own'; clear own'
      have D' := D.ch cx (ne_blk (by omega)); clear D; have D := D'; clear D'
      have B' := cx.belowB B (by omega) (fun k hk => by have hk : k = _ := hk; omega); clear B; have B := B'; clear B'
      have z' := Nat.lt_of_lt_of_le z cx.size; clear z; have z := z'; clear z'
      have hzL' := Nat.le_trans hzL cx.size; clear hzL; have hzL := hzL'; clear hzL'
      have qb := numF_le xa
      obtain ⟨⟨vb, xb⟩, fb⟩ : ∃ r, numF xa = r := ⟨_, rfl⟩
      rw [fb] at S qb J2 ⊢
      simp only at S qb J2
      have hxb : xb.1.size ≤ 1048576 := by omega
      clear fb cx
      have D0 := D.cell 0 _ rfl
      have D1 := D.cell 1 _ rfl
      have Dy := D.fz 1 (by simp)
      have DL := D.lt
      have CL := C.lt
      have e14 := C.cell 14 _ rfl
      have dd : Ch (fun k => k = d) wb (wb.setCell ⟨d, 1, none⟩ (.int .i64 (vb : Int))) := Ch.set
      have D2 := D.set (j := 1) (v := .int .i64 (vb : Int)) (by simp)
      have own1 := own_chL own dd (fun b hb h2 => by have h2 : b = d := h2; have := hod b hb; omega)
      have hz1 := Nat.le_trans hzL dd.size
      go_wp2_with (first | (at_builtin; refine wpList_app1g (P := Try.prog) (wb.setCell ⟨d, 1, none⟩ (.int .i64 (vb : Int))) rfl (.tmp 65) (.tmp 67) 48 rfl w10.heap.size 46 _ 2 16 Try.underlying48 infoIdV rfl (by omega) (.slice A2 _ cap) _ _ rfl own1 #[.int .i64 (va : Int), .int .i64 (vb : Int)] _ rfl (by simp) rfl (by simp [Value.oneCell']) (by unfold maxLen; omega) (by omega) hz1 ?_; intro A' c' wd own2 hgr hbg hob; refine stop_of ?_) | fail)
      have hcd : Ch (fun b => b ∈ blkL A2) (wb.setCell ⟨d, 1, none⟩ (.int .i64 (vb : Int))) wd := (Ch.of_grow hgr).mono (fun b hb => mem_blkL.2 (blk_of hb))
      have hbl : ∀ b ∈ blkL A2, w10.heap.size ≤ b := fun b hb => (own_lo own1 b hb).1
      clear D D0 D1 Dy D2 own own1 e14
      skip
      have R' := R.ch dd (ne_blk (by omega)); clear R; have R := R'; clear R'
      have C' := C.ch dd (ne_blk (by omega)); clear C; have C := C'; clear C'
      have O' := O.ch dd (fun b hb h2 => by have h2 : b = d := h2; have := hOw b hb; omega); clear O; have O := O'; clear O'
      have S' := S.ch dd (ne_blk (by omega)); clear S; have S := S'; clear S'
      have B' := dd.belowB B (by omega) (fun k hk => by have hk : k = _ := hk; omega); clear B; have B := B'; clear B'
      have z' := Nat.lt_of_lt_of_le z dd.size; clear z; have z := z'; clear z'
      have R' := R.ch hcd (fun hb => by have := hbl _ hb; omega); clear R; have R := R'; clear R'
      have C' := C.ch hcd (fun hb => by have := hbl _ hb; omega); clear C; have C := C'; clear C'
      have O' := O.ch hcd (fun b hb h2 => by have h1 := hbl _ h2; have := hOw b hb; omega); clear O; have O := O'; clear O'
      have S' := S.ch hcd (fun hb => by have := hbl _ hb; omega); clear S; have S := S'; clear S'
      have B' := hcd.belowB B (by omega) (fun k hk => by have := hbl _ hk; omega); clear B; have B := B'; clear B'
      have z' := Nat.lt_of_lt_of_le z hcd.size; clear z; have z := z'; clear z'
      have hzd2 := hcd.size
      have e14 := C.cell 14 _ rfl
      have y14 := C.fz 14 (by simp)
      have CL2 := C.lt
      clear hcd dd
      unfold Stop
      go_wp2
      have d3 : Ch (fun k => k = w.heap.size + 1 + 1) wd (wd.setCell ⟨w.heap.size + 1 + 1, 14, none⟩ (.slice A' (ds.length + 1) c')) := Ch.set
      have C3 := C.set (j := 14) (v := .slice A' (ds.length + 1) c') (by simp)
      have own3 := own_chL own2 d3 (fun b hb h2 => by have h2 : b = w.heap.size + 1 + 1 := h2; have := (own_lo own2 b hb).1; omega)
      clear C e14 y14
      have R' := R.ch d3 (ne_blk (by omega)); clear R; have R := R'; clear R'
      have O' := O.ch d3 (fun b hb h2 => by have h2 : b = w.heap.size + 1 + 1 := h2; have := hOb b hb; omega); clear O; have O := O'; clear O'
      have S' := S.ch d3 (ne_blk (by omega)); clear S; have S := S'; clear S'
      have B' := d3.belowB B (by omega) (fun k hk => by have hk : k = _ := hk; omega); clear B; have B := B'; clear B'
      have z' := Nat.lt_of_lt_of_le z d3.size; clear z; have z := z'; clear z'
      have hz3 := d3.size
      refine ⟨⟨ds ++ [⟨va, vb⟩], xb, A', c', by simp, by simp; omega, J2.out, R, S, by simpa using C3, O, by simpa [iddL] using own3, hxb, B, by omega⟩, by simp [intOf]; omega⟩
    · skip
      have HE := InJ.end_ HJ.out (show v10 ≤ ds.length by omega)
      rw [HXC.out] at HE
      obtain ⟨t, bad⟩ := x
      simp only at HE
      have HR := rdi_end HE
      clear HE HJ
      obtain ⟨X, hX⟩ : ∃ X : Ins, X = ⟨⟨v1, v2⟩, (v3 : Int) - 1, (v4 : Int) - 1, v5, xc, v6, ds, isOne v7⟩ := ⟨_, rfl⟩
      rw [← hX] at HR
      have hXc : X.cmd = xc := by rw [hX]
      have hXd : X.deps = ds := by rw [hX]
      have hcB1 : cmB X.cmd := by rw [hXc]; exact hcB
      have hcB2 : iddsB X.deps := by rw [hXd]; unfold iddsB; omega
      have hq10 : v10 ≤ 18 := by omega
      have h1r : StrR wr A1 n1 c1 X.cmd.ch := by rw [hXc]; exact O.at_
      have h2r : RowR iddR 2 wr A2 ds.length cap X.deps := by rw [hXd]; exact (idd_row (own_up own (Nat.zero_le _)) rfl).at_ iddK (by omega)
      have k1 := S.c1
      simp only at k1
      have hgs : w.heap.size < wr.heap.size := R.lt
      have hgl := S.lt
      have hhl := C.lt
      have hte := isEmpty_str s
      have g2 : ¬ ((ds.length : Int) < (v10 : Int)) := by omega
      have hShow : Calls Try.prog 26 #[.agg #[.int .i64 (v1 : Int), .int .i64 (v2 : Int), .int .i64 ((v3 : Int) - 1), .int .i64 ((v4 : Int) - 1), .int .i64 (v5 : Int), .int .i64 xc.kd, .int .i64 xc.cl, .int .i64 xc.no, .string xc.s, .string xc.nm, .string xc.tg, .int .i64 xc.n, .slice A1 n1 c1, .int .i64 (v6 : Int), .slice A2 ds.length cap, .bool (isOne v7)]] wr fun e w' => e = .returned (.string (insText X)) ∧ Below wr.heap.size wr w' := by
        have hcV : insV X (.slice A1 n1 c1) (.slice A2 ds.length cap) = .agg #[.int .i64 (v1 : Int), .int .i64 (v2 : Int), .int .i64 ((v3 : Int) - 1), .int .i64 ((v4 : Int) - 1), .int .i64 (v5 : Int), .int .i64 xc.kd, .int .i64 xc.cl, .int .i64 xc.no, .string xc.s, .string xc.nm, .string xc.tg, .int .i64 xc.n, .slice A1 n1 c1, .int .i64 (v6 : Int), .slice A2 ds.length cap, .bool (isOne v7)] := by rw [hX]; rfl
        rw [← hcV]; exact showInst_impl X _ _ _ _ _ _ _ h1r h2r hcB1 hcB2
      clear hcB1 hcB2 h1r h2r
      rcases HR with ⟨rfl, hne, htx, hr, hrb⟩ | ⟨hbad, hr, hrb⟩
      · skip
        rw [decide_eq_false hne] at hte
        have g1 : ((insText X).toList == s.toList) = true := by rw [htx]; simp
        have HRR := Lib.hid hr; have HRB := Lib.hid hrb
        clear htx hr hrb hne
        have hCr := C.range
        go_wp2_with (first | (refine wpList_load_g rfl 50 (.tmp 5) rfl (w.heap.size + 1 + 1) 0 rfl [.int .i64 (v1 : Int), .int .i64 (v2 : Int), .int .i64 ((v3 : Int) - 1), .int .i64 ((v4 : Int) - 1), .int .i64 (v5 : Int), .int .i64 xc.kd, .int .i64 xc.cl, .int .i64 xc.no, .string xc.s, .string xc.nm, .string xc.tg, .int .i64 xc.n, .slice A1 n1 c1, .int .i64 (v6 : Int), .slice A2 ds.length cap, .bool (isOne v7)] _ hCr Try.underlying50 rfl sizeInst ?_) | fail)
        have HX := Lib.hid hX; clear hX hXc hXd
        refine (hShow).mono ?_
        rintro e w99 ⟨rfl, hb99⟩
        clear hCr hShow
        have R' := R.keep hb99; clear R; have R := R'; clear R'
        have C' := C.keep hb99; clear C; have C := C'; clear C'
        have hz9 := hb99.size
        have hRt := R.there (n := 16) rfl
        obtain ⟨WF, hWF⟩ : ∃ W, W = w99.setCells w.heap.size 0 (#[.int .i64 (v1 : Int), .int .i64 (v2 : Int), .int .i64 ((v3 : Int) - 1), .int .i64 ((v4 : Int) - 1), .int .i64 (v5 : Int), .int .i64 xc.kd, .int .i64 xc.cl, .int .i64 xc.no, .string xc.s, .string xc.nm, .string xc.tg, .int .i64 xc.n, .slice A1 n1 c1, .int .i64 (v6 : Int), .slice A2 ds.length cap, .bool (isOne v7)] : Array Value).toList := ⟨_, rfl⟩
        have cF : Ch (fun b => b = w.heap.size) w99 WF := by rw [hWF]; exact ch_setCells _ _ _
        have RF : BoxL WF w.heap.size [.int .i64 (v1 : Int), .int .i64 (v2 : Int), .int .i64 ((v3 : Int) - 1), .int .i64 ((v4 : Int) - 1), .int .i64 (v5 : Int), .int .i64 xc.kd, .int .i64 xc.cl, .int .i64 xc.no, .string xc.s, .string xc.nm, .string xc.tg, .int .i64 xc.n, .slice A1 n1 c1, .int .i64 (v6 : Int), .slice A2 ds.length cap, .bool (isOne v7)] := by rw [hWF]; exact R.setCells rfl
        have hOne : (#[.int .i64 (v1 : Int), .int .i64 (v2 : Int), .int .i64 ((v3 : Int) - 1), .int .i64 ((v4 : Int) - 1), .int .i64 (v5 : Int), .int .i64 xc.kd, .int .i64 xc.cl, .int .i64 xc.no, .string xc.s, .string xc.nm, .string xc.tg, .int .i64 xc.n, .slice A1 n1 c1, .int .i64 (v6 : Int), .slice A2 ds.length cap, .bool (isOne v7)] : Array Value).all (·.oneCell') = true := all_oneCell_toArray (cs := [.int .i64 (v1 : Int), .int .i64 (v2 : Int), .int .i64 ((v3 : Int) - 1), .int .i64 ((v4 : Int) - 1), .int .i64 (v5 : Int), .int .i64 xc.kd, .int .i64 xc.cl, .int .i64 xc.no, .string xc.s, .string xc.nm, .string xc.tg, .int .i64 xc.n, .slice A1 n1 c1, .int .i64 (v6 : Int), .slice A2 ds.length cap, .bool (isOne v7)]) (fun v hv => by
          simp only [List.mem_cons, List.not_mem_nil, or_false] at hv
          rcases hv with rfl | rfl | rfl | rfl | rfl | rfl | rfl | rfl | rfl | rfl | rfl | rfl | rfl | rfl | rfl | rfl <;> rfl)
        have HWF := Lib.hid hWF; clear hWF
        have hWr := RF.range
        have hsz := cF.size
        have hBF : Below w.heap.size w WF := cF.belowB (bthen B hb99) (by omega) (fun k hk => by have hk : k = _ := hk; omega)
        have ho9 := own_chL own (Ch.of_below (S := fun _ => False) hb99) (fun _ _ h => h)
        have hoF := own_chL ho9 cF (fun b hb h2 => by have h2 : b = w.heap.size := h2; have := (own_lo ho9 b hb).1; omega)
        have OF := (O.keep hb99).ch cF (fun b hb h2 => by have h2 : b = w.heap.size := h2; have := hOb b hb; omega)
        have hlo := own_lo hoF
        have hCr := C.range
        clear ho9
        clear cF RF R own O C
        repeat (first | (refine wpList_load_g rfl 50 (.tmp 5) rfl (w.heap.size + 1 + 1) 0 rfl [.int .i64 (v1 : Int), .int .i64 (v2 : Int), .int .i64 ((v3 : Int) - 1), .int .i64 ((v4 : Int) - 1), .int .i64 (v5 : Int), .int .i64 xc.kd, .int .i64 xc.cl, .int .i64 xc.no, .string xc.s, .string xc.nm, .string xc.tg, .int .i64 xc.n, .slice A1 n1 c1, .int .i64 (v6 : Int), .slice A2 ds.length cap, .bool (isOne v7)] _ hCr Try.underlying50 rfl sizeInst ?_) | (refine wp_store_mid 50 (.tmp 2) (.tmp 86) rfl w.heap.size 0 #[.int .i64 (v1 : Int), .int .i64 (v2 : Int), .int .i64 ((v3 : Int) - 1), .int .i64 ((v4 : Int) - 1), .int .i64 (v5 : Int), .int .i64 xc.kd, .int .i64 xc.cl, .int .i64 xc.no, .string xc.s, .string xc.nm, .string xc.tg, .int .i64 xc.n, .slice A1 n1 c1, .int .i64 (v6 : Int), .slice A2 ds.length cap, .bool (isOne v7)] rfl rfl hRt sizeInst hOne ?_; rw [← HWF.out]) | go_values | go_skip | go_guarded | go_step | go_upon | (simp only []; go_at_K))
        refine bodyPost_ret (results_cell_tmp Try.results29 rfl hWr Try.underlying50 rfl sizeInst) rfl ?_
        rw [HRR.out, HRB.out, HX.out]
        refine ⟨⟨A1, n1, c1, A2, _, cap, f1, _, rfl, OF, idd_row (own_up hoF (Nat.zero_le _)) rfl, ?_, ?_⟩, hBF⟩
        · refine List.nodup_append.2 ⟨hN1, by cases A2 <;> simp [blkL], fun a ha b hb hab => ?_⟩
          have h1 := hOw a ha; have h2 := hlo b hb; omega
        · intro b hb
          rcases List.mem_append.1 hb with hb | hb
          · have h1 := hOb b hb; have h2 := hOw b hb; omega
          · have h2 := hlo b hb; omega
      · have HRR := Lib.hid hr; have HRB := Lib.hid hrb
        clear hr hrb
        have hk : bad = true ∨ (bad = false ∧ s.toList.isEmpty = true) ∨ (bad = false ∧ s.toList.isEmpty = false ∧ ((insText X).toList == s.toList) = false) := by
          cases bad
          · rw [hte]
            by_cases h0 : s = ByteArray.empty
            · exact .inr (.inl ⟨rfl, by simp [h0]⟩)
            · refine .inr (.inr ⟨rfl, by simp [h0], ?_⟩)
              rw [str_beq]
              rcases hbad with h | h | h
              · cases h
              · exact absurd h h0
              · simpa using h
          · exact .inl rfl
        clear hbad hte
        rcases hk with rfl | ⟨rfl, hte⟩ | ⟨rfl, hte, g1⟩
        · skip
          clear hX hXc hXd hShow
          have hRt := R.there (n := 16) rfl
          obtain ⟨WF, hWF⟩ : ∃ W, W = wr.setCells w.heap.size 0 (#[.int .i64 0, .int .i64 0, .int .i64 0, .int .i64 0, .int .i64 0, .int .i64 0, .int .i64 0, .int .i64 0, .string ⟨#[]⟩, .string ⟨#[]⟩, .string ⟨#[]⟩, .int .i64 0, .slice none 0 0, .int .i64 0, .slice none 0 0, .bool false] : Array Value).toList := ⟨_, rfl⟩
          have cF : Ch (fun b => b = w.heap.size) wr WF := by rw [hWF]; exact ch_setCells _ _ _
          have RF : BoxL WF w.heap.size [.int .i64 0, .int .i64 0, .int .i64 0, .int .i64 0, .int .i64 0, .int .i64 0, .int .i64 0, .int .i64 0, .string ⟨#[]⟩, .string ⟨#[]⟩, .string ⟨#[]⟩, .int .i64 0, .slice none 0 0, .int .i64 0, .slice none 0 0, .bool false] := by rw [hWF]; exact R.setCells rfl
          have hOne : (#[.int .i64 0, .int .i64 0, .int .i64 0, .int .i64 0, .int .i64 0, .int .i64 0, .int .i64 0, .int .i64 0, .string ⟨#[]⟩, .string ⟨#[]⟩, .string ⟨#[]⟩, .int .i64 0, .slice none 0 0, .int .i64 0, .slice none 0 0, .bool false] : Array Value).all (·.oneCell') = true := all_oneCell_toArray (cs := [.int .i64 0, .int .i64 0, .int .i64 0, .int .i64 0, .int .i64 0, .int .i64 0, .int .i64 0, .int .i64 0, .string ⟨#[]⟩, .string ⟨#[]⟩, .string ⟨#[]⟩, .int .i64 0, .slice none 0 0, .int .i64 0, .slice none 0 0, .bool false]) (fun v hv => by
            simp only [List.mem_cons, List.not_mem_nil, or_false] at hv
            rcases hv with rfl | rfl | rfl | rfl | rfl | rfl | rfl | rfl | rfl | rfl | rfl | rfl | rfl | rfl | rfl | rfl <;> rfl)
          have HWF := Lib.hid hWF; clear hWF
          have hWr := RF.range
          have hsz := cF.size
          have hBF : Below w.heap.size w WF := cF.belowB B (by omega) (fun k hk => by have hk : k = _ := hk; omega)
          clear cF RF R own O C
          repeat (first | (refine wp_store_mid 50 (.tmp 2) (.tmp 85) rfl w.heap.size 0 #[.int .i64 0, .int .i64 0, .int .i64 0, .int .i64 0, .int .i64 0, .int .i64 0, .int .i64 0, .int .i64 0, .string ⟨#[]⟩, .string ⟨#[]⟩, .string ⟨#[]⟩, .int .i64 0, .slice none 0 0, .int .i64 0, .slice none 0 0, .bool false] rfl rfl hRt sizeInst hOne ?_; rw [← HWF.out]) | go_values | go_skip | go_guarded | go_step | go_upon | (simp only []; go_at_K))
          refine bodyPost_ret (results_cell_tmp Try.results29 rfl hWr Try.underlying50 rfl sizeInst) rfl ?_
          rw [HRR.out, HRB.out]
          exact ⟨⟨none, 0, 0, none, 0, 0, [], [], rfl, StrO.nil, RowO.nil, List.nodup_nil, fun b hb => by cases hb⟩, hBF⟩
        · skip
          clear hX hXc hXd hShow
          have hRt := R.there (n := 16) rfl
          obtain ⟨WF, hWF⟩ : ∃ W, W = wr.setCells w.heap.size 0 (#[.int .i64 0, .int .i64 0, .int .i64 0, .int .i64 0, .int .i64 0, .int .i64 0, .int .i64 0, .int .i64 0, .string ⟨#[]⟩, .string ⟨#[]⟩, .string ⟨#[]⟩, .int .i64 0, .slice none 0 0, .int .i64 0, .slice none 0 0, .bool false] : Array Value).toList := ⟨_, rfl⟩
          have cF : Ch (fun b => b = w.heap.size) wr WF := by rw [hWF]; exact ch_setCells _ _ _
          have RF : BoxL WF w.heap.size [.int .i64 0, .int .i64 0, .int .i64 0, .int .i64 0, .int .i64 0, .int .i64 0, .int .i64 0, .int .i64 0, .string ⟨#[]⟩, .string ⟨#[]⟩, .string ⟨#[]⟩, .int .i64 0, .slice none 0 0, .int .i64 0, .slice none 0 0, .bool false] := by rw [hWF]; exact R.setCells rfl
          have hOne : (#[.int .i64 0, .int .i64 0, .int .i64 0, .int .i64 0, .int .i64 0, .int .i64 0, .int .i64 0, .int .i64 0, .string ⟨#[]⟩, .string ⟨#[]⟩, .string ⟨#[]⟩, .int .i64 0, .slice none 0 0, .int .i64 0, .slice none 0 0, .bool false] : Array Value).all (·.oneCell') = true := all_oneCell_toArray (cs := [.int .i64 0, .int .i64 0, .int .i64 0, .int .i64 0, .int .i64 0, .int .i64 0, .int .i64 0, .int .i64 0, .string ⟨#[]⟩, .string ⟨#[]⟩, .string ⟨#[]⟩, .int .i64 0, .slice none 0 0, .int .i64 0, .slice none 0 0, .bool false]) (fun v hv => by
            simp only [List.mem_cons, List.not_mem_nil, or_false] at hv
            rcases hv with rfl | rfl | rfl | rfl | rfl | rfl | rfl | rfl | rfl | rfl | rfl | rfl | rfl | rfl | rfl | rfl <;> rfl)
          have HWF := Lib.hid hWF; clear hWF
          have hWr := RF.range
          have hsz := cF.size
          have hBF : Below w.heap.size w WF := cF.belowB B (by omega) (fun k hk => by have hk : k = _ := hk; omega)
          clear cF RF R own O C
          repeat (first | (refine wp_store_mid 50 (.tmp 2) (.tmp 85) rfl w.heap.size 0 #[.int .i64 0, .int .i64 0, .int .i64 0, .int .i64 0, .int .i64 0, .int .i64 0, .int .i64 0, .int .i64 0, .string ⟨#[]⟩, .string ⟨#[]⟩, .string ⟨#[]⟩, .int .i64 0, .slice none 0 0, .int .i64 0, .slice none 0 0, .bool false] rfl rfl hRt sizeInst hOne ?_; rw [← HWF.out]) | go_values | go_skip | go_guarded | go_step | go_upon | (simp only []; go_at_K))
          refine bodyPost_ret (results_cell_tmp Try.results29 rfl hWr Try.underlying50 rfl sizeInst) rfl ?_
          rw [HRR.out, HRB.out]
          exact ⟨⟨none, 0, 0, none, 0, 0, [], [], rfl, StrO.nil, RowO.nil, List.nodup_nil, fun b hb => by cases hb⟩, hBF⟩
        · skip
          have hCr := C.range
          go_wp2_with (first | (refine wpList_load_g rfl 50 (.tmp 5) rfl (w.heap.size + 1 + 1) 0 rfl [.int .i64 (v1 : Int), .int .i64 (v2 : Int), .int .i64 ((v3 : Int) - 1), .int .i64 ((v4 : Int) - 1), .int .i64 (v5 : Int), .int .i64 xc.kd, .int .i64 xc.cl, .int .i64 xc.no, .string xc.s, .string xc.nm, .string xc.tg, .int .i64 xc.n, .slice A1 n1 c1, .int .i64 (v6 : Int), .slice A2 ds.length cap, .bool (isOne v7)] _ hCr Try.underlying50 rfl sizeInst ?_) | fail)
          have HX := Lib.hid hX; clear hX hXc hXd
          refine (hShow).mono ?_
          rintro e w99 ⟨rfl, hb99⟩
          clear hCr hShow
          have R' := R.keep hb99; clear R; have R := R'; clear R'
          have C' := C.keep hb99; clear C; have C := C'; clear C'
          have hz9 := hb99.size
          have hRt := R.there (n := 16) rfl
          obtain ⟨WF, hWF⟩ : ∃ W, W = w99.setCells w.heap.size 0 (#[.int .i64 0, .int .i64 0, .int .i64 0, .int .i64 0, .int .i64 0, .int .i64 0, .int .i64 0, .int .i64 0, .string ⟨#[]⟩, .string ⟨#[]⟩, .string ⟨#[]⟩, .int .i64 0, .slice none 0 0, .int .i64 0, .slice none 0 0, .bool false] : Array Value).toList := ⟨_, rfl⟩
          have cF : Ch (fun b => b = w.heap.size) w99 WF := by rw [hWF]; exact ch_setCells _ _ _
          have RF : BoxL WF w.heap.size [.int .i64 0, .int .i64 0, .int .i64 0, .int .i64 0, .int .i64 0, .int .i64 0, .int .i64 0, .int .i64 0, .string ⟨#[]⟩, .string ⟨#[]⟩, .string ⟨#[]⟩, .int .i64 0, .slice none 0 0, .int .i64 0, .slice none 0 0, .bool false] := by rw [hWF]; exact R.setCells rfl
          have hOne : (#[.int .i64 0, .int .i64 0, .int .i64 0, .int .i64 0, .int .i64 0, .int .i64 0, .int .i64 0, .int .i64 0, .string ⟨#[]⟩, .string ⟨#[]⟩, .string ⟨#[]⟩, .int .i64 0, .slice none 0 0, .int .i64 0, .slice none 0 0, .bool false] : Array Value).all (·.oneCell') = true := all_oneCell_toArray (cs := [.int .i64 0, .int .i64 0, .int .i64 0, .int .i64 0, .int .i64 0, .int .i64 0, .int .i64 0, .int .i64 0, .string ⟨#[]⟩, .string ⟨#[]⟩, .string ⟨#[]⟩, .int .i64 0, .slice none 0 0, .int .i64 0, .slice none 0 0, .bool false]) (fun v hv => by
            simp only [List.mem_cons, List.not_mem_nil, or_false] at hv
            rcases hv with rfl | rfl | rfl | rfl | rfl | rfl | rfl | rfl | rfl | rfl | rfl | rfl | rfl | rfl | rfl | rfl <;> rfl)
          have HWF := Lib.hid hWF; clear hWF
          have hWr := RF.range
          have hsz := cF.size
          have hBF : Below w.heap.size w WF := cF.belowB (bthen B hb99) (by omega) (fun k hk => by have hk : k = _ := hk; omega)
          clear cF RF R own O C
          repeat (first | (refine wp_store_mid 50 (.tmp 2) (.tmp 85) rfl w.heap.size 0 #[.int .i64 0, .int .i64 0, .int .i64 0, .int .i64 0, .int .i64 0, .int .i64 0, .int .i64 0, .int .i64 0, .string ⟨#[]⟩, .string ⟨#[]⟩, .string ⟨#[]⟩, .int .i64 0, .slice none 0 0, .int .i64 0, .slice none 0 0, .bool false] rfl rfl hRt sizeInst hOne ?_; rw [← HWF.out]) | go_values | go_skip | go_guarded | go_step | go_upon | (simp only []; go_at_K))
          refine bodyPost_ret (results_cell_tmp Try.results29 rfl hWr Try.underlying50 rfl sizeInst) rfl ?_
          rw [HRR.out, HRB.out]
          exact ⟨⟨none, 0, 0, none, 0, 0, [], [], rfl, StrO.nil, RowO.nil, List.nodup_nil, fun b hb => by cases hb⟩, hBF⟩
end Go.Proofs.Ytdphdnllhmnelaa
/- A region that draws its order, walked by an invariant over what has been done: no listing of orders. -/
namespace Go.Proofs.Ytdphdnllhmnelaa
section
variable {P : Program} {ops : Array Oper} {Q : Exit → Act → World → Prop}

/-- every edge leads to an operation ahead -/
def dagB (ops : Array Oper) : Bool := (List.range ops.size).all fun i => ((ops[i]?).map fun (o : Oper) => o.after.all fun e => decide (e.on < i) || !Region.binds .any e).getD true
/-- operation i waits for operation j -/
def depB (ops : Array Oper) (i j : Nat) : Bool := ((ops[i]?).map fun (o : Oper) => o.after.any fun e => Region.binds .any e && decide (e.on = j)).getD false

theorem getD_of {L : Array Bool} {i : Nat} (hi : i < L.size) (b : Bool) : L.getD i b = L[i] := by simp [Array.getD, hi]
theorem dag_none (hB : dagB ops = true) {L : Array Bool} (hL : L.size = ops.size) (h : Region.ready .any ops L = []) : ∀ i, i < ops.size → L.getD i false = true := by
  intro i
  induction i using Nat.strongRecOn with
  | _ i ih =>
    intro hi
    have hb := List.all_eq_true.1 hB i (List.mem_range.2 hi)
    have ho : ops[i]? = some ops[i] := Array.getElem?_eq_getElem hi
    rw [ho] at hb
    simp only [Option.map_some, Option.getD_some, Array.all_eq_true'] at hb
    cases hc : L.getD i false with
    | true => rfl
    | false =>
      have hm : i ∈ Region.ready .any ops L := by
        rw [mem_ready]
        refine ⟨by rw [getD_of (by omega)] at hc ⊢; exact hc, _, ho, fun e he hbi => ?_⟩
        have := hb e he
        simp only [hbi, Bool.not_true, Bool.or_false, decide_eq_true_eq] at this
        exact ih e.on this (by omega)
      rw [h] at hm; cases hm
theorem dag_set {L : Array Bool} {i : Nat} (hi : i < L.size) : (fun k => (L.setIfInBounds i true).getD k false) = fun k => k == i || L.getD k false := by
  funext k
  by_cases e : k = i
  · subst e; simp [Array.getD, hi]
  · have : (k == i) = false := by simp [e]
    rw [this, Bool.false_or]
    simp only [Array.getD, Array.size_setIfInBounds]
    split
    · rename_i hk
      rw [Array.getInternal_eq_getElem, Array.getInternal_eq_getElem, Array.getElem_setIfInBounds hk]; simp [Ne.symm e]
    · rfl
theorem dag_count {L : Array Bool} {i : Nat} (h : L.getD i true = false) : (L.setIfInBounds i true).toList.countP (!·) + 1 ≤ L.toList.countP (!·) := by
  have hi : i < L.size := by
    rcases Nat.lt_or_ge i L.size with h' | h'
    · exact h'
    · rw [Array.getD, dif_neg (by omega)] at h; cases h
  rw [getD_of hi] at h
  rw [Array.toList_setIfInBounds, List.countP_set (by simpa using hi)]
  have hp : 0 < L.toList.countP (!·) := List.countP_pos_iff.2 ⟨L[i], by simp, by simp [h]⟩
  have e1 : L.toList[i]'(by simpa using hi) = false := by simpa using h
  rw [e1]
  simp only [Bool.not_false, Bool.not_true, if_true, Bool.false_eq_true, if_false]
  omega
theorem dag_any (hB : dagB ops = true) (I : (Nat → Bool) → Act → World → Prop)
    (st : ∀ i D a w, i < ops.size → D i = false → (∀ j, depB ops i j = true → D j = true) → I D a w → wpOp P ops Q i (I (fun k => k == i || D k)) a w)
    (hend : ∀ D a w, (∀ i, i < ops.size → D i = true) → I D a w → Q .normal a w) :
    ∀ (fuel : Nat) (L : Array Bool) (a : Act) (w : World), L.size = ops.size → L.toList.countP (!·) ≤ fuel → I (fun k => L.getD k false) a w → wpAny P .any ops Q fuel L a w := by
  intro fuel
  induction fuel with
  | zero =>
    intro L a w hL hc hI
    have hr : Region.ready .any ops L = [] := by
      rw [List.eq_nil_iff_forall_not_mem]
      intro i hi
      have := dag_count (mem_ready.1 hi).1
      omega
    exact ⟨hr, hend _ a w (dag_none hB hL hr) hI⟩
  | succ fuel ih =>
    intro L a w hL hc hI
    refine ⟨fun hr => hend _ a w (dag_none hB hL hr) hI, fun i hi => ?_⟩
    obtain ⟨h0, o, ho, hall⟩ := mem_ready.1 hi
    have hin : i < ops.size := (Array.getElem?_eq_some_iff.1 ho).1
    have hci := dag_count h0
    refine wpOp_mono (fun a' w' h => ih _ a' w' (by simpa using hL) (by omega) (by rw [dag_set (by omega)]; exact h)) (st i _ a w hin ?_ ?_ hI)
    · rw [getD_of (by omega)] at h0 ⊢; exact h0
    · intro j hj
      unfold depB at hj
      rw [ho] at hj
      simp only [Option.map_some, Option.getD_some, Array.any_eq_true', Bool.and_eq_true, decide_eq_true_eq] at hj
      obtain ⟨e, he, hb, rfl⟩ := hj
      exact hall e he hb
theorem wp_region_dag {id : Nat} {a : Act} {w : World} (hm : P.follows .mixedOrders = true) (hB : dagB ops = true) (I : (Nat → Bool) → Act → World → Prop) (h0 : I (fun _ => false) a w.drew)
    (st : ∀ i D a w, i < ops.size → D i = false → (∀ j, depB ops i j = true → D j = true) → I D a w → wpOp P ops Q i (I (fun k => k == i || D k)) a w)
    (hend : ∀ D a w, (∀ i, i < ops.size → D i = true) → I D a w → Q .normal a w) : (Code.region id ops true).wp P Q a w := by
  refine wp_region_any hm (dag_any hB I st hend _ _ _ _ (by simp) ?_ ?_)
  · refine Nat.le_trans (List.countP_le_length) ?_
    simp
  · have : (fun k => (Array.replicate ops.size false).getD k false) = fun _ => false := by
      funext k
      simp only [Array.getD, Array.size_replicate]
      split
      · rw [Array.getInternal_eq_getElem, Array.getElem_replicate]
      · rfl
    rw [this]
    exact h0
end
end Go.Proofs.Ytdphdnllhmnelaa
/- A region that draws its order, walked by an invariant over what has been done; the slots that it writes are given by their numbers alone. -/
namespace Go.Proofs.Ytdphdnllhmnelaa
/-- slots set, one by one -/
def putAll (a : Act) : List Nat → List Value → Act
  | i :: is, v :: vs => putAll { a with tmps := a.tmps.setIfInBounds i v } is vs
  | _, _ => a
theorem putAll_self (a : Act) : ∀ ss : List Nat, putAll a ss (ss.map fun i => a.tmps.getD i undef) = a
  | [] => rfl
  | i :: is => by
    have h : ({ a with tmps := a.tmps.setIfInBounds i (a.tmps.getD i undef) } : Act) = a := by
      have : a.tmps.setIfInBounds i (a.tmps.getD i undef) = a.tmps := by
        apply Array.ext
        · simp
        · intro k h1 h2
          rw [Array.getElem_setIfInBounds]
          split
          · rename_i e; subst e; simp [Array.getD, h2]
          · rfl
      rw [this]
    show putAll { a with tmps := a.tmps.setIfInBounds i (a.tmps.getD i undef) } is (is.map fun i => a.tmps.getD i undef) = a
    rw [h]; exact putAll_self a is
section
variable {P : Program} {ops : Array Oper} {Q : Exit → Act → World → Prop}
theorem wp_region_dagb {id : Nat} {a : Act} {w : World} (ss : List Nat) (hm : P.follows .mixedOrders = true) (hB : dagB ops = true) (J : (Nat → Bool) → List Value → World → Prop)
    (h0 : J (fun _ => false) (ss.map fun i => a.tmps.getD i undef) w.drew)
    (st : ∀ i D vs w, i < ops.size → D i = false → (∀ j, depB ops i j = true → D j = true) → (∀ i j, D i = true → depB ops i j = true → D j = true) → J D vs w →
      wpOp P ops Q i (fun a' w' => ∃ vs', a' = putAll a ss vs' ∧ J (fun k => k == i || D k) vs' w') (putAll a ss vs) w)
    (hend : ∀ D vs w, (∀ i, i < ops.size → D i = true) → J D vs w → Q .normal (putAll a ss vs) w) : (Code.region id ops true).wp P Q a w :=
  wp_region_dag hm hB (fun D a' w' => (∀ i j, D i = true → depB ops i j = true → D j = true) ∧ ∃ vs', a' = putAll a ss vs' ∧ J D vs' w') ⟨(fun _ _ h => by cases h), _, (putAll_self a ss).symm, h0⟩
    (fun i D a' w' hi hD hdep hI => by
      obtain ⟨hcl, vs, rfl, hJ⟩ := hI
      refine wpOp_mono (fun a' w' h => ⟨fun k j hk hj => ?_, h⟩) (st i D vs w' hi hD hdep hcl hJ)
      simp only [Bool.or_eq_true] at hk ⊢
      rcases hk with hk | hk
      · have : k = i := by simpa using hk
        subst this; exact .inr (hdep j hj)
      · exact .inr (hcl k j hk hj))
    (fun D a' w' hD hI => by obtain ⟨_, vs, rfl, hJ⟩ := hI; exact hend D vs w' hD hJ)
end
end Go.Proofs.Ytdphdnllhmnelaa
