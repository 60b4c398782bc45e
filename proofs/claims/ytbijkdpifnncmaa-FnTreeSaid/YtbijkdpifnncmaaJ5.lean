/- Contracts and lemmas: TreePutS, Var, VarLaw, ReadVar, Scan, TreeText, ReadLaw. -/
import Derived.Test.YtbijkdpifnncmaaJ4
import Derived.Test.YtbijkdpifnncmaaJ0
import Derived.Laws.Bits128
import Derived.Test.YtbijkdpifnncmaaJ1
import Derived.BigQuiet
import Derived.Deep.QuietTactic
/- Contract of the reference's TreePut. -/
namespace Go.Proofs.Ytbijkdpifnncmaa
open Go.RowKit
attribute [local irreducible] StrsAt treeOkB

/-- the put on its way: is e put? what is out? -/
def spStep (e : Ent) (s : Bool × List Ent) (x : Ent) : Bool × List Ent :=
  let s1 := if s.1 = false ∧ ltS x.p e.p = false then (true, s.2 ++ [e]) else s
  if x.p = e.p then s1 else (s1.1, s1.2 ++ [x])
def spT (e : Ent) (l : List Ent) : Bool × List Ent := l.foldl (spStep e) (false, [])
def spEnd (e : Ent) (s : Bool × List Ent) : List Ent := if s.1 = true then s.2 else s.2 ++ [e]
theorem spT_snoc (e : Ent) (l : List Ent) (x : Ent) : spT e (l ++ [x]) = spStep e (spT e l) x := by simp [spT]
theorem sp_true (e : Ent) (l o : List Ent) : l.foldl (spStep e) (true, o) = (true, o ++ l.filter (fun x => !decide (x.p = e.p))) := by
  induction l generalizing o with
  | nil => simp
  | cons x l ih =>
    rw [List.foldl_cons]
    by_cases h : x.p = e.p
    · rw [show spStep e (true, o) x = (true, o) by simp [spStep, h], ih]; simp [h]
    · rw [show spStep e (true, o) x = (true, o ++ [x]) by simp [spStep, h], ih]; simp [h]
theorem sp_false (e : Ent) (l o : List Ent) : spEnd e (l.foldl (spStep e) (false, o)) = o ++ insL l e := by
  induction l generalizing o with
  | nil => simp [spEnd, insL]
  | cons x l ih =>
    rw [List.foldl_cons]
    cases h : ltS x.p e.p
    · unfold insL
      by_cases h2 : x.p = e.p
      · have h' : ltS e.p e.p = false := ltS_irr _
        rw [show spStep e (false, o) x = (true, o ++ [e]) by simp [spStep, h2, h'], sp_true]
        simp [spEnd, h2, h']
      · rw [show spStep e (false, o) x = (true, o ++ [e] ++ [x]) by simp [spStep, h, h2], sp_true]
        simp [spEnd, h, h2]
    · have h2 : ¬ x.p = e.p := fun hh => by rw [hh, ltS_irr] at h; cases h
      rw [show spStep e (false, o) x = (false, o ++ [x]) by simp [spStep, h, h2], ih]
      simp [insL, h]
theorem sp_end (e : Ent) (l : List Ent) : spEnd e (spT e l) = insL l e := by
  have := sp_false e l []
  simpa [spT] using this
theorem spT_len (e : Ent) (l : List Ent) : (spT e l).2.length ≤ l.length + 1 := by
  have : ∀ (l : List Ent) (s : Bool × List Ent), (l.foldl (spStep e) s).2.length + (if s.1 = true then 1 else 0) ≤ s.2.length + l.length + (if (l.foldl (spStep e) s).1 = true then 1 else 0) := by
    intro l
    induction l with
    | nil => intro s; simp only [List.foldl_nil, List.length_nil, Nat.add_zero]; exact Nat.le_refl _
    | cons y l ih =>
      intro s
      rw [List.foldl_cons]
      have h1 := ih (spStep e s y)
      have h2 : (spStep e s y).2.length + (if s.1 = true then 1 else 0) ≤ s.2.length + 1 + (if (spStep e s y).1 = true then 1 else 0) := by
        obtain ⟨q, o⟩ := s
        unfold spStep
        cases q <;> cases ltS y.p e.p <;> by_cases h : y.p = e.p <;> simp [h]
      rw [List.length_cons]; omega
  have := this l (false, [])
  unfold spT
  simp only [Bool.false_eq_true, if_false, List.length_nil] at this
  split at this <;> omega

set_option maxRecDepth 4000 in
set_option maxHeartbeats 1000000 in
theorem treePut_spec (A : Option Addr) (n c : Nat) (l : List Ent) (p : ByteArray) (Ae : Option Addr) (ne ce : Nat) (ch : List ByteArray) (w : World) (h : EntsAt w A n l) (hc : StrsAt w Ae ne ch) (hce : Ae = none → ce = 0) (hs : entsSz l + entSz ⟨p, ch⟩ ≤ 1048576) :
    Calls Try.prog 15 #[.slice A n c, .agg #[.string p, .slice Ae ne ce]] w (EntsBR (putL l ⟨p, ch⟩) (putOk l ⟨p, ch⟩) w) := by
  have HL := Lib.hid h.1
  have hsl : entsSz l ≤ 1048576 := by omega
  have hn := ents_n h hsl
  have al := fun o => (Below.refl w.heap.size w).alloc (Nat.le_refl _) o
  obtain ⟨t, ht⟩ : ∃ t, treeOkB l = t := ⟨_, rfl⟩
  have HQ := Lib.hid ht
  cases t
  · have HR := Lib.hid (show putL l ⟨p, ch⟩ = [] by simp [putL, ht])
    have HN := Lib.hid (show putOk l ⟨p, ch⟩ = false by simp [putOk, ht])
    clear ht
    rw [HR.out, HN.out]
    go_enter Try.func15, Try.ntmps15
    go_wp2_with fail
    refine (treeOk_spec _ _ _ l _ (h.keep (al _)) hsl).mono ?_
    rintro e w1 ⟨rfl, hb1⟩; rw [HQ.out]
    have hbw := bthen (al _) hb1
    have hown := RowIn.of_own (own_empty w1 33 2 (Nat.le_refl w1.heap.size))
    go_wp2
    go_returns
    exact ⟨_, 0, 0, rfl, ⟨[], hown.wide hbw.size (Nat.le_refl _), SubsIn.nil, (fun _ h => by cases h), rfl⟩, bthen hbw ((Below.refl _ _).alloc (Nat.le_refl _) _)⟩
  · have HR := Lib.hid (show putL l ⟨p, ch⟩ = if treeOkB (insL l ⟨p, ch⟩) = true then insL l ⟨p, ch⟩ else l by simp [putL, ht])
    have HN := Lib.hid (show putOk l ⟨p, ch⟩ = treeOkB (insL l ⟨p, ch⟩) by simp [putOk, ht])
    clear ht
    go_enter Try.func15, Try.ntmps15
    go_wp2_with fail
    refine (treeOk_spec _ _ _ l _ (h.keep (al _)) hsl).mono ?_
    rintro e w1 ⟨rfl, hb1⟩; rw [HQ.out]
    have hb1w := bthen (al _) hb1
    have hB1 := keep_cell hb1 (show (w.alloc (.cells #[.string p, .slice Ae ne ce] 33)).cell? ⟨w.heap.size, 0, none⟩ = some (.string p) by simp [go_sem])
    have hC1 := keep_cell hb1 (show (w.alloc (.cells #[.string p, .slice Ae ne ce] 33)).cell? ⟨w.heap.size, 1, none⟩ = some (.slice Ae ne ce) by simp [go_sem])
    have hlt := cell_lt hB1
    have hown1 := own_empty w1 33 2 (Nat.le_refl w1.heap.size)
    go_wp2
    go_loopw [6, 7, 8] (fun o q i wr => ∃ (k : Nat) (O : Option Addr) (cap : Nat) (xs : List Value) (sp : Bool) (so : List Ent), k ≤ n ∧ spT ⟨p, ch⟩ (l.take k) = (sp, so) ∧ i = .int .i64 k ∧ q = .bool sp ∧ o = .slice O so.length cap ∧
      wr.ownsRow w1.heap.size 33 2 (.slice O so.length cap) so.length xs ∧ EntCells w xs so ∧ Below w1.heap.size w1 wr) (fun _ _ i _ => n - (intOf i).toNat)
    case atStart => exact ⟨0, _, 0, [], false, [], Nat.zero_le _, by simp [spT], rfl, rfl, rfl, hown1, (fun i hi => by simp at hi), (Below.refl _ _).alloc (Nat.le_refl _) _⟩
    case round =>
      obtain ⟨k, O, cap, xs, sp, so, hk, hsp, rfl, rfl, rfl, hown, hcells, hb⟩ := hrel
      have hlen : so.length ≤ k + 1 := by have := spT_len ⟨p, ch⟩ (l.take k); rw [hsp, List.length_take] at this; simp only at this; omega
      have hBr := keep_cell hb hB1
      have hCr := keep_cell hb hC1
      have hbw := bthen hb1w hb
      have hz := hb.size
      by_cases hlk : k < n
      · obtain ⟨b, off, rfl, hbl, hcc⟩ := h.at_ (by omega)
        obtain ⟨hp0, A', n', c', hc0, hat, hcap⟩ := hcc k hlk
        have hpk := (hbw.cell (p := ⟨b, off + k * 2, none⟩) hbl).trans hp0
        have hck := (hbw.cell (p := ⟨b, off + k * 2 + 1, none⟩) hbl).trans hc0
        have hbw1 : b < w1.heap.size := Nat.lt_of_lt_of_le hbl hb1w.size
        clear hcc hc0 hp0
        have HST := Lib.hid (show spT ⟨p, ch⟩ (l.take (k + 1)) = spStep ⟨p, ch⟩ (sp, so) (enAt l k) by
          rw [take_snoc2 l k (by have := HL.out; omega), spT_snoc, hsp, enAt_get (by have := HL.out; omega)])
        clear hsp
        obtain ⟨q, hq⟩ : ∃ q, Op.bytesLess (enAt l k).p.toList p.toList = q := ⟨_, rfl⟩
        obtain ⟨q2, hq2⟩ : ∃ q, decide ((enAt l k).p = p) = q := ⟨_, rfl⟩
        have hd : ((enAt l k).p.toList == p.toList) = q2 := by rw [str_beq]; exact hq2
        have HXL := Lib.hid hown.1
        have HCE := Lib.hid (hcells.snoc (x := ⟨p, ch⟩) hown.1 hc hce)
        cases sp
        · cases q
          · have hq' : ltS (enAt l k).p p = false := hq
            cases q2
            · have hn2 := of_decide_eq_false hq2
              have HE := Lib.hid (show spStep ⟨p, ch⟩ (false, so) (enAt l k) = (true, so ++ [⟨p, ch⟩] ++ [enAt l k]) by simp [spStep, hq', hn2])
              clear hq2 hn2 hq'
              go_wp2
              go_quiet (fail)
              replace hown : (wr.drewN nq).ownsRow w1.heap.size 33 2 (.slice O so.length cap) so.length xs := hown
              replace hb := below_drewN hb nq
              replace hbw := below_drewN hbw nq
              replace hz := hb.size
              replace hpk : (wr.drewN nq).cell? ⟨b, off + k * 2, none⟩ = some (.string (enAt l k).p) := hpk
              replace hck : (wr.drewN nq).cell? ⟨b, off + k * 2 + 1, none⟩ = some (.slice A' n' c') := hck
              replace hBr : (wr.drewN nq).cell? ⟨w.heap.size, 0, none⟩ = some (.string p) := hBr
              replace hCr : (wr.drewN nq).cell? ⟨w.heap.size, 1, none⟩ = some (.slice Ae ne ce) := hCr
              generalize wr.drewN nq = wr at *
              go_wp2_with ((at_builtin; refine wpList_app1 (P := Try.prog) wr rfl (.tmp 32) (.tmp 34) 24 rfl w1.heap.size 33 _ 2 40 Try.underlying24 infoEntry rfl (by omega) (.slice O _ cap) _ _ rfl hown #[.string p, .slice Ae ne ce] rfl rfl (by simp [Value.oneCell']) (by unfold maxLen; omega) (by omega) hz ?_; intro O2 cap2 w3 hown3 hg3 hb3 _); clear hown; have hown : w3.ownsRow w1.heap.size 33 2 (.slice O2 (so.length + 1) cap2) (so.length + 1) (xs ++ [.string p, .slice Ae ne ce]) := hown3; clear hown3; replace hb := hb.trans hb3; replace hbw := hbw.trans (hb3.mono (Nat.le_of_lt hlt)); replace hz := hb.size; replace hpk := (hb3.cell (p := ⟨b, off + k * 2, none⟩) hbw1).trans hpk; replace hck := (hb3.cell (p := ⟨b, off + k * 2 + 1, none⟩) hbw1).trans hck; replace hBr := (hb3.cell (p := ⟨w.heap.size, 0, none⟩) hlt).trans hBr; replace hCr := (hb3.cell (p := ⟨w.heap.size, 1, none⟩) hlt).trans hCr; clear hb3 hg3)
              go_quiet (fail)
              replace hown : (w3.drewN nq).ownsRow w1.heap.size 33 2 (.slice O2 (so.length + 1) cap2) (so.length + 1) (xs ++ [.string p, .slice Ae ne ce]) := hown
              replace hb := below_drewN hb nq
              replace hbw := below_drewN hbw nq
              replace hz := hb.size
              replace hpk : (w3.drewN nq).cell? ⟨b, off + k * 2, none⟩ = some (.string (enAt l k).p) := hpk
              replace hck : (w3.drewN nq).cell? ⟨b, off + k * 2 + 1, none⟩ = some (.slice A' n' c') := hck
              replace hBr : (w3.drewN nq).cell? ⟨w.heap.size, 0, none⟩ = some (.string p) := hBr
              replace hCr : (w3.drewN nq).cell? ⟨w.heap.size, 1, none⟩ = some (.slice Ae ne ce) := hCr
              generalize w3.drewN nq = w3 at *
              go_wp2_with (at_builtin; refine wpList_app1 (P := Try.prog) w3 rfl (.tmp 44) (.tmp 49) 24 rfl w1.heap.size 33 _ 2 40 Try.underlying24 infoEntry rfl (by omega) (.slice O2 _ cap2) _ _ rfl hown #[.string (enAt l k).p, .slice A' n' c'] rfl rfl (by simp [Value.oneCell']) (by unfold maxLen; omega) (by omega) hz ?_; intro O4 cap4 w4 hown4 hg4 hb4 _)
              have HXM := Lib.hid hown.1
              refine ⟨⟨k + 1, O4, cap4, xs ++ [.string p, .slice Ae ne ce] ++ [.string (enAt l k).p, .slice A' n' c'], true, so ++ [⟨p, ch⟩] ++ [enAt l k], by omega, by rw [HST.out, HE.out], by go_num, rfl, by simp, by simpa using hown4, HCE.out.snoc (x := enAt l k) (by simpa using HXM.out) hat hcap, hb.trans hb4⟩, by simp [intOf]; omega⟩
            · have hn2 := of_decide_eq_true hq2
              have HE := Lib.hid (show spStep ⟨p, ch⟩ (false, so) (enAt l k) = (true, so ++ [⟨p, ch⟩]) by simp only [spStep]; rw [if_pos hn2, if_pos ⟨trivial, hq'⟩])
              clear hq2 hn2 hq'
              go_wp2
              go_quiet (fail)
              replace hown : (wr.drewN nq).ownsRow w1.heap.size 33 2 (.slice O so.length cap) so.length xs := hown
              replace hb := below_drewN hb nq
              replace hbw := below_drewN hbw nq
              replace hz := hb.size
              replace hpk : (wr.drewN nq).cell? ⟨b, off + k * 2, none⟩ = some (.string (enAt l k).p) := hpk
              replace hck : (wr.drewN nq).cell? ⟨b, off + k * 2 + 1, none⟩ = some (.slice A' n' c') := hck
              replace hBr : (wr.drewN nq).cell? ⟨w.heap.size, 0, none⟩ = some (.string p) := hBr
              replace hCr : (wr.drewN nq).cell? ⟨w.heap.size, 1, none⟩ = some (.slice Ae ne ce) := hCr
              generalize wr.drewN nq = wr at *
              go_wp2_with ((at_builtin; refine wpList_app1 (P := Try.prog) wr rfl (.tmp 32) (.tmp 34) 24 rfl w1.heap.size 33 _ 2 40 Try.underlying24 infoEntry rfl (by omega) (.slice O _ cap) _ _ rfl hown #[.string p, .slice Ae ne ce] rfl rfl (by simp [Value.oneCell']) (by unfold maxLen; omega) (by omega) hz ?_; intro O2 cap2 w3 hown3 hg3 hb3 _); clear hown; have hown : w3.ownsRow w1.heap.size 33 2 (.slice O2 (so.length + 1) cap2) (so.length + 1) (xs ++ [.string p, .slice Ae ne ce]) := hown3; clear hown3; replace hb := hb.trans hb3; replace hbw := hbw.trans (hb3.mono (Nat.le_of_lt hlt)); replace hz := hb.size; replace hpk := (hb3.cell (p := ⟨b, off + k * 2, none⟩) hbw1).trans hpk; replace hck := (hb3.cell (p := ⟨b, off + k * 2 + 1, none⟩) hbw1).trans hck; replace hBr := (hb3.cell (p := ⟨w.heap.size, 0, none⟩) hlt).trans hBr; replace hCr := (hb3.cell (p := ⟨w.heap.size, 1, none⟩) hlt).trans hCr; clear hb3 hg3)
              go_quiet (fail)
              replace hown : (w3.drewN nq).ownsRow w1.heap.size 33 2 (.slice O2 (so.length + 1) cap2) (so.length + 1) (xs ++ [.string p, .slice Ae ne ce]) := hown
              replace hb := below_drewN hb nq
              replace hbw := below_drewN hbw nq
              replace hz := hb.size
              replace hpk : (w3.drewN nq).cell? ⟨b, off + k * 2, none⟩ = some (.string (enAt l k).p) := hpk
              replace hck : (w3.drewN nq).cell? ⟨b, off + k * 2 + 1, none⟩ = some (.slice A' n' c') := hck
              replace hBr : (w3.drewN nq).cell? ⟨w.heap.size, 0, none⟩ = some (.string p) := hBr
              replace hCr : (w3.drewN nq).cell? ⟨w.heap.size, 1, none⟩ = some (.slice Ae ne ce) := hCr
              generalize w3.drewN nq = w3 at *
              go_wp2
              refine ⟨⟨k + 1, O2, cap2, xs ++ [.string p, .slice Ae ne ce], true, so ++ [⟨p, ch⟩], by omega, by rw [HST.out, HE.out], by go_num, rfl, by simp, by simpa using hown, HCE.out, hb⟩, by simp [intOf]; omega⟩
          · have H2 : q2 = false := by
              cases q2
              · rfl
              · have := of_decide_eq_true hq2; rw [this] at hq; have hi := ltS_irr p; unfold ltS at hi; rw [hi] at hq; cases hq
            subst H2
            have HE := Lib.hid (show spStep ⟨p, ch⟩ (false, so) (enAt l k) = (false, so ++ [enAt l k]) by
              have hq' : ltS (enAt l k).p p = true := hq
              have hn2 := of_decide_eq_false hq2
              simp [spStep, hq', hn2])
            clear hq2
            go_wp2
            go_quiet (fail)
            replace hown : (wr.drewN nq).ownsRow w1.heap.size 33 2 (.slice O so.length cap) so.length xs := hown
            replace hb := below_drewN hb nq
            replace hbw := below_drewN hbw nq
            replace hz := hb.size
            replace hpk : (wr.drewN nq).cell? ⟨b, off + k * 2, none⟩ = some (.string (enAt l k).p) := hpk
            replace hck : (wr.drewN nq).cell? ⟨b, off + k * 2 + 1, none⟩ = some (.slice A' n' c') := hck
            replace hBr : (wr.drewN nq).cell? ⟨w.heap.size, 0, none⟩ = some (.string p) := hBr
            replace hCr : (wr.drewN nq).cell? ⟨w.heap.size, 1, none⟩ = some (.slice Ae ne ce) := hCr
            generalize wr.drewN nq = wr at *
            go_wp2
            go_quiet (fail)
            replace hown : (wr.drewN nq).ownsRow w1.heap.size 33 2 (.slice O so.length cap) so.length xs := hown
            replace hb := below_drewN hb nq
            replace hbw := below_drewN hbw nq
            replace hz := hb.size
            replace hpk : (wr.drewN nq).cell? ⟨b, off + k * 2, none⟩ = some (.string (enAt l k).p) := hpk
            replace hck : (wr.drewN nq).cell? ⟨b, off + k * 2 + 1, none⟩ = some (.slice A' n' c') := hck
            replace hBr : (wr.drewN nq).cell? ⟨w.heap.size, 0, none⟩ = some (.string p) := hBr
            replace hCr : (wr.drewN nq).cell? ⟨w.heap.size, 1, none⟩ = some (.slice Ae ne ce) := hCr
            generalize wr.drewN nq = wr at *
            go_wp2_with (at_builtin; refine wpList_app1 (P := Try.prog) wr rfl (.tmp 44) (.tmp 49) 24 rfl w1.heap.size 33 _ 2 40 Try.underlying24 infoEntry rfl (by omega) (.slice O _ cap) _ _ rfl hown #[.string (enAt l k).p, .slice A' n' c'] rfl rfl (by simp [Value.oneCell']) (by unfold maxLen; omega) (by omega) hz ?_; intro O2 cap2 w3 hown3 hg3 hb3 _)
            refine ⟨⟨k + 1, O2, cap2, xs ++ [.string (enAt l k).p, .slice A' n' c'], false, so ++ [enAt l k], by omega, by rw [HST.out, HE.out], by go_num, rfl, by simp, by simpa using hown3, hcells.snoc (x := enAt l k) HXL.out hat hcap, hb.trans hb3⟩, by simp [intOf]; omega⟩
        · cases q2
          · have hn2 := of_decide_eq_false hq2
            have HE := Lib.hid (show spStep ⟨p, ch⟩ (true, so) (enAt l k) = (true, so ++ [enAt l k]) by simp [spStep, hn2])
            clear hq2 hn2
            go_wp2
            go_quiet (fail)
            replace hown : (wr.drewN nq).ownsRow w1.heap.size 33 2 (.slice O so.length cap) so.length xs := hown
            replace hb := below_drewN hb nq
            replace hbw := below_drewN hbw nq
            replace hz := hb.size
            replace hpk : (wr.drewN nq).cell? ⟨b, off + k * 2, none⟩ = some (.string (enAt l k).p) := hpk
            replace hck : (wr.drewN nq).cell? ⟨b, off + k * 2 + 1, none⟩ = some (.slice A' n' c') := hck
            replace hBr : (wr.drewN nq).cell? ⟨w.heap.size, 0, none⟩ = some (.string p) := hBr
            replace hCr : (wr.drewN nq).cell? ⟨w.heap.size, 1, none⟩ = some (.slice Ae ne ce) := hCr
            generalize wr.drewN nq = wr at *
            go_wp2
            go_quiet (fail)
            replace hown : (wr.drewN nq).ownsRow w1.heap.size 33 2 (.slice O so.length cap) so.length xs := hown
            replace hb := below_drewN hb nq
            replace hbw := below_drewN hbw nq
            replace hz := hb.size
            replace hpk : (wr.drewN nq).cell? ⟨b, off + k * 2, none⟩ = some (.string (enAt l k).p) := hpk
            replace hck : (wr.drewN nq).cell? ⟨b, off + k * 2 + 1, none⟩ = some (.slice A' n' c') := hck
            replace hBr : (wr.drewN nq).cell? ⟨w.heap.size, 0, none⟩ = some (.string p) := hBr
            replace hCr : (wr.drewN nq).cell? ⟨w.heap.size, 1, none⟩ = some (.slice Ae ne ce) := hCr
            generalize wr.drewN nq = wr at *
            go_wp2_with (at_builtin; refine wpList_app1 (P := Try.prog) wr rfl (.tmp 44) (.tmp 49) 24 rfl w1.heap.size 33 _ 2 40 Try.underlying24 infoEntry rfl (by omega) (.slice O _ cap) _ _ rfl hown #[.string (enAt l k).p, .slice A' n' c'] rfl rfl (by simp [Value.oneCell']) (by unfold maxLen; omega) (by omega) hz ?_; intro O2 cap2 w3 hown3 hg3 hb3 _)
            refine ⟨⟨k + 1, O2, cap2, xs ++ [.string (enAt l k).p, .slice A' n' c'], true, so ++ [enAt l k], by omega, by rw [HST.out, HE.out], by go_num, rfl, by simp, by simpa using hown3, hcells.snoc (x := enAt l k) HXL.out hat hcap, hb.trans hb3⟩, by simp [intOf]; omega⟩
          · have hn2 := of_decide_eq_true hq2
            have HE := Lib.hid (show spStep ⟨p, ch⟩ (true, so) (enAt l k) = (true, so) by simp [spStep, hn2])
            clear hq2 hn2
            go_wp2
            go_quiet (fail)
            replace hown : (wr.drewN nq).ownsRow w1.heap.size 33 2 (.slice O so.length cap) so.length xs := hown
            replace hb := below_drewN hb nq
            replace hbw := below_drewN hbw nq
            replace hz := hb.size
            replace hpk : (wr.drewN nq).cell? ⟨b, off + k * 2, none⟩ = some (.string (enAt l k).p) := hpk
            replace hck : (wr.drewN nq).cell? ⟨b, off + k * 2 + 1, none⟩ = some (.slice A' n' c') := hck
            replace hBr : (wr.drewN nq).cell? ⟨w.heap.size, 0, none⟩ = some (.string p) := hBr
            replace hCr : (wr.drewN nq).cell? ⟨w.heap.size, 1, none⟩ = some (.slice Ae ne ce) := hCr
            generalize wr.drewN nq = wr at *
            go_wp2
            go_quiet (fail)
            replace hown : (wr.drewN nq).ownsRow w1.heap.size 33 2 (.slice O so.length cap) so.length xs := hown
            replace hb := below_drewN hb nq
            replace hbw := below_drewN hbw nq
            replace hz := hb.size
            replace hpk : (wr.drewN nq).cell? ⟨b, off + k * 2, none⟩ = some (.string (enAt l k).p) := hpk
            replace hck : (wr.drewN nq).cell? ⟨b, off + k * 2 + 1, none⟩ = some (.slice A' n' c') := hck
            replace hBr : (wr.drewN nq).cell? ⟨w.heap.size, 0, none⟩ = some (.string p) := hBr
            replace hCr : (wr.drewN nq).cell? ⟨w.heap.size, 1, none⟩ = some (.slice Ae ne ce) := hCr
            generalize wr.drewN nq = wr at *
            go_wp2
            refine ⟨⟨k + 1, O, cap, xs, true, so, by omega, by rw [HST.out, HE.out], by go_num, rfl, rfl, hown, hcells, hb⟩, by simp [intOf]; omega⟩
      · obtain rfl : k = n := by omega
        have hE := sp_end ⟨p, ch⟩ l
        rw [show l.take k = l from List.take_of_length_le (by have := HL.out; omega)] at hsp
        rw [hsp] at hE
        clear hsp
        have hsI : entsSz (insL l ⟨p, ch⟩) ≤ 1048577 := Nat.le_trans (insL_sz _ _) (by omega)
        cases sp
        · have HI := Lib.hid (show insL l ⟨p, ch⟩ = so ++ [⟨p, ch⟩] from hE.symm)
          have HCE := hcells.snoc (x := ⟨p, ch⟩) hown.1 hc hce
          clear hE
          go_wp2_with (first | ((at_builtin; refine wpList_app1 (P := Try.prog) wr rfl (.tmp 53) (.tmp 55) 24 rfl w1.heap.size 33 _ 2 40 Try.underlying24 infoEntry rfl (by omega) (.slice O _ cap) _ _ rfl hown #[.string p, .slice Ae ne ce] rfl rfl (by simp [Value.oneCell']) (by unfold maxLen; omega) (by omega) hz ?_; intro O2 cap2 w3 hown3 hg3 hb3 _); clear hown; have hown : w3.ownsRow w1.heap.size 33 2 (.slice O2 (so.length + 1) cap2) (so.length + 1) (xs ++ [.string p, .slice Ae ne ce]) := hown3; clear hown3; replace hbw := hbw.trans (hb3.mono (Nat.le_of_lt hlt))) | fail)
          have hat2 := EntsAt.of_cells hown (by simp) (HCE.keep hbw)
          go_wp2_with fail
          refine (treeOk_spec1 _ _ _ (insL l ⟨p, ch⟩) _ (by rw [HI.out]; exact hat2) hsI).mono ?_
          rintro e w6 ⟨rfl, hb6⟩
          have hbw6 := bthen hbw hb6
          have hat3 := hat2.keep hb6
          clear hat2
          obtain ⟨t, ht⟩ : ∃ t, treeOkB (insL l ⟨p, ch⟩) = t := ⟨_, rfl⟩
          have HQ2 := Lib.hid ht
          have HR2 := HR.out
          rw [ht] at HR2 ⊢
          clear ht
          cases t
          · have HR3 := Lib.hid (show putL l ⟨p, ch⟩ = l by rw [HR2]; simp)
            clear HR2
            go_wp2_with fail
            refine (l30Copy_spec _ _ _ l _ (h.keep hbw6) hsl).mono ?_
            rintro e w7 ⟨A7, n7, c7, rfl, hin7, hb7⟩
            go_wp2
            go_returns
            refine ⟨A7, n7, c7, ?_, by rw [HR3.out]; exact hin7.wide hbw6.size (Nat.le_refl _), bthen hbw6 hb7⟩
            rw [HN.out, HQ2.out]
            rfl
          · have HR3 := Lib.hid (show putL l ⟨p, ch⟩ = insL l ⟨p, ch⟩ by rw [HR2]; simp)
            clear HR2
            go_wp2_with fail
            refine (l30Copy_spec1 _ _ _ (insL l ⟨p, ch⟩) _ (by rw [HI.out]; exact hat3) hsI).mono ?_
            rintro e w7 ⟨A7, n7, c7, rfl, hin7, hb7⟩
            go_wp2
            go_returns
            refine ⟨A7, n7, c7, ?_, by rw [HR3.out]; exact hin7.wide hbw6.size (Nat.le_refl _), bthen hbw6 hb7⟩
            rw [HN.out, HQ2.out]
            rfl
        · have HI := Lib.hid (show insL l ⟨p, ch⟩ = so from hE.symm)
          clear hE
          have hat2 := EntsAt.of_cells hown (by simp) (hcells.keep hbw)
          go_wp2_with fail
          refine (treeOk_spec1 _ _ _ (insL l ⟨p, ch⟩) _ (by rw [HI.out]; exact hat2) hsI).mono ?_
          rintro e w6 ⟨rfl, hb6⟩
          have hbw6 := bthen hbw hb6
          have hat3 := hat2.keep hb6
          clear hat2
          obtain ⟨t, ht⟩ : ∃ t, treeOkB (insL l ⟨p, ch⟩) = t := ⟨_, rfl⟩
          have HQ2 := Lib.hid ht
          have HR2 := HR.out
          rw [ht] at HR2 ⊢
          clear ht
          cases t
          · have HR3 := Lib.hid (show putL l ⟨p, ch⟩ = l by rw [HR2]; simp)
            clear HR2
            go_wp2_with fail
            refine (l30Copy_spec _ _ _ l _ (h.keep hbw6) hsl).mono ?_
            rintro e w7 ⟨A7, n7, c7, rfl, hin7, hb7⟩
            go_wp2
            go_returns
            refine ⟨A7, n7, c7, ?_, by rw [HR3.out]; exact hin7.wide hbw6.size (Nat.le_refl _), bthen hbw6 hb7⟩
            rw [HN.out, HQ2.out]
            rfl
          · have HR3 := Lib.hid (show putL l ⟨p, ch⟩ = insL l ⟨p, ch⟩ by rw [HR2]; simp)
            clear HR2
            go_wp2_with fail
            refine (l30Copy_spec1 _ _ _ (insL l ⟨p, ch⟩) _ (by rw [HI.out]; exact hat3) hsI).mono ?_
            rintro e w7 ⟨A7, n7, c7, rfl, hin7, hb7⟩
            go_wp2
            go_returns
            refine ⟨A7, n7, c7, ?_, by rw [HR3.out]; exact hin7.wide hbw6.size (Nat.le_refl _), bthen hbw6 hb7⟩
            rw [HN.out, HQ2.out]
            rfl
end Go.Proofs.Ytbijkdpifnncmaa
/- Contracts of Var, sized, l4Piece. -/
namespace Go.Proofs.Ytbijkdpifnncmaa
open Go.RowKit

/-- the bytes of Var -/
def varL (n : Nat) : List UInt8 := if n < 128 then [UInt8.ofNat n] else UInt8.ofNat (128 + n % 128) :: varL (n / 128)
termination_by n
decreasing_by omega
def varS (n : Nat) : ByteArray := ⟨(varL n).toArray⟩
theorem varL_small {n : Nat} (h : n < 128) : varL n = [UInt8.ofNat n] := by rw [varL, if_pos h]
theorem varL_big {n : Nat} (h : ¬ n < 128) : varL n = UInt8.ofNat (128 + n % 128) :: varL (n / 128) := by rw [varL, if_neg h]
theorem var_le {j m n : Nat} (h : m * 128 ^ j ≤ n) {b : Nat} (hn : n ≤ b) : m ≤ b := by
  have : m * 1 ≤ m * 128 ^ j := Nat.mul_le_mul_left m (Nat.pow_pos (by decide))
  omega
theorem var_step {j m n : Nat} (h6 : j ≤ 6) (h : m * 128 ^ j ≤ n) (hn : n ≤ 562949953421311) (hm : ¬ m < 128) : j + 1 ≤ 6 ∧ m / 128 * 128 ^ (j + 1) ≤ n := by
  rcases (show j = 0 ∨ j = 1 ∨ j = 2 ∨ j = 3 ∨ j = 4 ∨ j = 5 ∨ j = 6 by omega) with rfl | rfl | rfl | rfl | rfl | rfl | rfl <;> simp only [Nat.reducePow, Nat.reduceAdd, Nat.mul_one] at h ⊢ <;> omega
theorem i64_or128 {y : Int} (h0 : 0 ≤ y) (h1 : y < 128) : bits .or .i64 y 128 = y + 128 := by
  obtain ⟨a, rfl⟩ := Int.eq_ofNat_of_zero_le h0
  have e1 : (BitVec.ofInt 64 (a : Int)).toNat = a := by rw [BitVec.ofInt_natCast, BitVec.toNat_ofNat]; exact Nat.mod_eq_of_lt (by omega)
  have e2 : (BitVec.ofInt 64 128).toNat = 128 := by decide
  have hx : a ||| 128 = a + 128 := by
    have := Nat.two_pow_add_eq_or_of_lt (i := 7) (b := a) (by omega) 1
    rw [Nat.or_comm] at this
    simp at this
    omega
  show IntKind.i64.wrap ((BitVec.ofInt 64 (a : Int) ||| BitVec.ofInt 64 128).toNat : Int) = _
  rw [BitVec.toNat_or, e1, e2, hx, IntKind.wrap_i64]
  omega

theorem var_impl (n : Nat) (w : World) (hn : n ≤ 562949953421311) :
    Calls Try.prog 29 #[.int .i64 n] w fun e w' => e = .returned (.string (varS n)) ∧ Below w.heap.size w w' := by
  have hin : inB (n : Int) 0 562949953421311 = true := by simp [inB]; omega
  have HI := Lib.hid hin; clear hin
  go_enter Try.func29, Try.ntmps29
  go_wp2_with fail
  refine (within_any _ _ _ _).mono ?_
  rintro e w1 ⟨rfl, rfl⟩
  rw [HI.out]
  go_wp2
  go_loopw [0, 3] (fun x o wr => ∃ (m : Nat) (A : Option Addr) (cap : Nat) (xs : List UInt8), x = .int .i64 m ∧ o = .slice A xs.length cap ∧ wr.ownsRow w.heap.size 5 1 (.slice A xs.length cap) xs.length (xs.map byteV) ∧ varL n = xs ++ varL m ∧ xs.length ≤ 6 ∧ m * 128 ^ xs.length ≤ n ∧ Below w.heap.size w wr) (fun x _ _ => (intOf x).toNat)
  case atStart => exact ⟨n, _, 0, [], rfl, rfl, by simpa using own_empty w 5 1 (base := w.heap.size) (Nat.le_refl _), rfl, by simp, by simp, (Below.refl _ _).alloc (Nat.le_refl _) _⟩
  case round =>
    obtain ⟨m, A, cap, xs, rfl, rfl, hown, hv, hle, hmul, hb⟩ := hrel
    have HM := Lib.hid hmul; clear hmul
    have hmn : m ≤ 562949953421311 := var_le HM.out hn
    have HV := Lib.hid hv; clear hv
    have hzr := hb.size
    by_cases hm : m < 128
    · have H8 : byteV (UInt8.ofNat m) = .int .u8 (m : Int) := byteV_of (by omega)
      have HB := Lib.hid H8; clear H8
      have HS := Lib.hid (varL_small hm)
      go_wp2_with (first | (at_builtin; refine wpList_app1g (P := Try.prog) _ rfl (.tmp 19) (.tmp 22) 22 rfl w.heap.size 5 _ 1 1 Try.underlying22 infoByteV rfl (by omega) (.slice A _ cap) _ _ rfl hown #[.int .u8 (m : Int)] _ rfl (by simp) rfl (by simp [Value.oneCell']) (by unfold maxLen; omega) (by omega) hzr ?_; intro A' c' w4 hown4 hg4 hb4 _; rw [show xs.map byteV ++ #[Value.int .u8 (m : Int)].toList = (xs ++ [UInt8.ofNat m]).map byteV by rw [List.map_append]; simp [HB.out]] at hown4; obtain ⟨g4, hA4, hcv⟩ := conv_own hown4 (by omega); subst hA4))
      go_wp2
      go_returns
      exact ⟨by unfold varS; rw [HV.out, HS.out]; rfl, hb.trans hb4⟩
    · have H8 : byteV (UInt8.ofNat (128 + m % 128)) = .int .u8 ((m : Int) % 128 + 128) := (byteV_of (by omega)).trans (by congr 1; omega)
      have HB := Lib.hid H8; clear H8
      have HS := Lib.hid (varL_big hm)
      have ha := i64_and127 (m : Int)
      have ho := i64_or128 (y := (m : Int) % 128) (by omega) (by omega)
      go_wp2_with (at_builtin; refine wpList_app1g (P := Try.prog) _ rfl (.tmp 10) (.tmp 15) 22 rfl w.heap.size 5 _ 1 1 Try.underlying22 infoByteV rfl (by omega) (.slice A _ cap) _ _ rfl hown #[.int .u8 ((m : Int) % 128 + 128)] _ rfl (by simp) rfl (by simp [Value.oneCell']) (by unfold maxLen; omega) (by omega) hzr ?_; intro A' c' w4 hown4 hg4 hb4 _)
      refine ⟨⟨m / 128, A', c', xs ++ [UInt8.ofNat (128 + m % 128)], by simp, by simp, ?_, by rw [HV.out, HS.out]; simp, by rw [List.length_append]; exact (var_step hle HM.out hn hm).1, by rw [List.length_append]; exact (var_step hle HM.out hn hm).2, hb.trans hb4⟩, by simp [intOf]; omega⟩
      rw [List.map_append, List.map_cons, List.map_nil, HB.out, List.length_append]
      exact hown4

set_option maxRecDepth 4000 in
theorem var_spec (n : Nat) (w : World) (hn : n ≤ 562949953421311) :
    Calls Try.prog 39 #[.int .i64 n] w fun e w' => e = .returned (.string (varS n)) ∧ Below w.heap.size w w' := by
  have hin : inB (n : Int) 0 562949953421311 = true := by simp [inB]; omega
  have HI := Lib.hid hin; clear hin
  go_enter Try.func39, Try.ntmps39
  go_wp2_with fail
  refine (l1In_any _ _ _ _).mono ?_
  rintro e w1 ⟨rfl, rfl⟩
  rw [HI.out]
  go_wp2
  go_loopw [0, 3] (fun x o wr => ∃ (m : Nat) (A : Option Addr) (cap : Nat) (xs : List UInt8), x = .int .i64 m ∧ o = .slice A xs.length cap ∧ wr.ownsRow w.heap.size 5 1 (.slice A xs.length cap) xs.length (xs.map byteV) ∧ varL n = xs ++ varL m ∧ xs.length ≤ 6 ∧ m * 128 ^ xs.length ≤ n ∧ Below w.heap.size w wr) (fun x _ _ => (intOf x).toNat)
  case atStart => exact ⟨n, _, 0, [], rfl, rfl, by simpa using own_empty w 5 1 (base := w.heap.size) (Nat.le_refl _), rfl, by simp, by simp, (Below.refl _ _).alloc (Nat.le_refl _) _⟩
  case round =>
    obtain ⟨m, A, cap, xs, rfl, rfl, hown, hv, hle, hmul, hb⟩ := hrel
    have HM := Lib.hid hmul; clear hmul
    have hmn : m ≤ 562949953421311 := var_le HM.out hn
    have HV := Lib.hid hv; clear hv
    have hzr := hb.size
    by_cases hm : m < 128
    · have H8 : byteV (UInt8.ofNat m) = .int .u8 (m : Int) := byteV_of (by omega)
      have HB := Lib.hid H8; clear H8
      have HS := Lib.hid (varL_small hm)
      go_wp2_with (first | (at_builtin; refine wpList_app1g (P := Try.prog) _ rfl (.tmp 19) (.tmp 22) 22 rfl w.heap.size 5 _ 1 1 Try.underlying22 infoByteV rfl (by omega) (.slice A _ cap) _ _ rfl hown #[.int .u8 (m : Int)] _ rfl (by simp) rfl (by simp [Value.oneCell']) (by unfold maxLen; omega) (by omega) hzr ?_; intro A' c' w4 hown4 hg4 hb4 _; rw [show xs.map byteV ++ #[Value.int .u8 (m : Int)].toList = (xs ++ [UInt8.ofNat m]).map byteV by rw [List.map_append]; simp [HB.out]] at hown4; obtain ⟨g4, hA4, hcv⟩ := conv_own hown4 (by omega); subst hA4))
      go_wp2
      go_returns
      exact ⟨by unfold varS; rw [HV.out, HS.out]; rfl, hb.trans hb4⟩
    · have H8 : byteV (UInt8.ofNat (128 + m % 128)) = .int .u8 (128 + (m : Int) % 128) := (byteV_of (by omega)).trans (by congr 1)
      have HB := Lib.hid H8; clear H8
      have HS := Lib.hid (varL_big hm)
      go_wp2_with (at_builtin; refine wpList_app1g (P := Try.prog) _ rfl (.tmp 10) (.tmp 15) 22 rfl w.heap.size 5 _ 1 1 Try.underlying22 infoByteV rfl (by omega) (.slice A _ cap) _ _ rfl hown #[.int .u8 (128 + (m : Int) % 128)] _ rfl (by simp) rfl (by simp [Value.oneCell']) (by unfold maxLen; omega) (by omega) hzr ?_; intro A' c' w4 hown4 hg4 hb4 _)
      refine ⟨⟨m / 128, A', c', xs ++ [UInt8.ofNat (128 + m % 128)], by simp, by simp, ?_, by rw [HV.out, HS.out]; simp, by rw [List.length_append]; exact (var_step hle HM.out hn hm).1, by rw [List.length_append]; exact (var_step hle HM.out hn hm).2, hb.trans hb4⟩, by simp [intOf]; omega⟩
      rw [List.map_append, List.map_cons, List.map_nil, HB.out, List.length_append]
      exact hown4
end Go.Proofs.Ytbijkdpifnncmaa
/- Numbers as bytes (varints): read back from a text that begins with them, and nothing else is one. -/
namespace Go.Proofs.Ytbijkdpifnncmaa

def bVal (s : ByteArray) : Nat → Nat
  | 0 => 0
  | k + 1 => bVal s k + bAt s k % 128 * 128 ^ k
theorem bVal_lt (s : ByteArray) (k : Nat) : bVal s k < 128 ^ k := by
  induction k with
  | zero => simp [bVal]
  | succ k ih =>
    unfold bVal
    have h : bAt s k % 128 * 128 ^ k ≤ 127 * 128 ^ k := Nat.mul_le_mul_right _ (by omega)
    rw [Nat.pow_succ]
    omega
/-- the value of a list of bytes, the least first -/
def lVal : List UInt8 → Nat
  | [] => 0
  | b :: l => b.toNat % 128 + 128 * lVal l
theorem varL_ne (n : Nat) : varL n ≠ [] := by
  by_cases h : n < 128
  · rw [varL_small h]; simp
  · rw [varL_big h]; simp
theorem varL_val (n : Nat) : lVal (varL n) = n := by
  induction n using Nat.strongRecOn with
  | _ n ih =>
    by_cases h : n < 128
    · rw [varL_small h]; simp [lVal]; omega
    · rw [varL_big h]
      show (UInt8.ofNat (128 + n % 128)).toNat % 128 + 128 * lVal (varL (n / 128)) = n
      rw [ih (n / 128) (by omega)]
      simp; omega
theorem varL_cons {n : Nat} {b : UInt8} {l : List UInt8} (h : varL n = b :: l) : (l = [] ∧ b.toNat < 128) ∨ (l = varL (n / 128) ∧ 128 ≤ b.toNat ∧ 128 ≤ n) := by
  by_cases hn : n < 128
  · rw [varL_small hn] at h
    injection h with h1 h2
    subst h1
    exact .inl ⟨h2.symm, by simp; omega⟩
  · rw [varL_big hn] at h
    injection h with h1 h2
    subst h1
    exact .inr ⟨h2.symm, by simp; omega, by omega⟩
/-- but the last, all bytes are from 128 on -/
theorem varL_hi (n : Nat) : ∀ i, i + 1 < (varL n).length → ∃ b, (varL n)[i]? = some b ∧ 128 ≤ b.toNat := by
  induction n using Nat.strongRecOn with
  | _ n ih =>
    intro i hi
    cases hl : varL n with
    | nil => exact absurd hl (varL_ne n)
    | cons b l =>
      rcases varL_cons hl with ⟨rfl, _⟩ | ⟨rfl, hb, hn⟩
      · rw [hl] at hi; simp at hi
      · cases i with
        | zero => exact ⟨b, rfl, hb⟩
        | succ i =>
          rw [hl] at hi
          simp only [List.length_cons] at hi
          obtain ⟨c, h1, h2⟩ := ih (n / 128) (by omega) i (by omega)
          exact ⟨c, by simpa using h1, h2⟩
theorem varL_lo (n : Nat) : ∃ b, (varL n)[(varL n).length - 1]? = some b ∧ b.toNat < 128 := by
  induction n using Nat.strongRecOn with
  | _ n ih =>
    cases hl : varL n with
    | nil => exact absurd hl (varL_ne n)
    | cons b l =>
      rcases varL_cons hl with ⟨rfl, hb⟩ | ⟨rfl, hb, hn⟩
      · exact ⟨b, rfl, hb⟩
      · obtain ⟨c, h1, h2⟩ := ih (n / 128) (by omega)
        refine ⟨c, ?_, h2⟩
        have hp : 0 < (varL (n / 128)).length := List.length_pos_iff.2 (varL_ne _)
        rw [List.length_cons, show (varL (n / 128)).length + 1 - 1 = ((varL (n / 128)).length - 1) + 1 by omega, List.getElem?_cons_succ]
        exact h1
/-- at most seven bytes, up to MaxVar -/
theorem varL_lenk {n : Nat} (k : Nat) (h : n < 128 ^ (k + 1)) : (varL n).length ≤ k + 1 := by
  induction k generalizing n with
  | zero => rw [varL_small (by simpa using h)]; simp
  | succ k ih =>
    by_cases hn : n < 128
    · rw [varL_small hn]; simp
    · rw [varL_big hn, List.length_cons]
      have : n / 128 < 128 ^ (k + 1) := by
        rw [Nat.div_lt_iff_lt_mul (by decide)]
        rwa [Nat.pow_succ] at h
      have := ih this
      omega
theorem varL_len7 {n : Nat} (h : n ≤ 562949953421311) : (varL n).length ≤ 7 := varL_lenk 6 (by omega)

/-! ### a text that begins with a varint -/
/-- the first k bytes of s are those of l -/
def Begins (s : ByteArray) (l : List UInt8) : Prop := l.length ≤ s.size ∧ ∀ i (h : i < l.length), bAt s i = l[i].toNat
theorem lVal_bVal {s : ByteArray} : ∀ {l : List UInt8}, Begins s l → bVal s l.length = lVal l := by
  -- by the sum from the least on
  have key : ∀ (l : List UInt8) (k : Nat), (∀ i (h : i < l.length), bAt s (k + i) = l[i].toNat) → bVal s (k + l.length) = bVal s k + 128 ^ k * lVal l := by
    intro l
    induction l with
    | nil => intro k _; simp [lVal]
    | cons b l ih =>
      intro k h
      have h0 := h 0 (by simp)
      have h1 := ih (k + 1) (fun i hi => by have := h (i + 1) (by simpa using hi); simpa [Nat.add_assoc, Nat.add_comm 1 i] using this)
      rw [List.length_cons, show k + (l.length + 1) = k + 1 + l.length by omega, h1]
      simp only [bVal, lVal]
      simp only [Nat.add_zero, List.getElem_cons_zero] at h0
      rw [h0, Nat.pow_succ, Nat.mul_add, ← Nat.mul_assoc, Nat.mul_comm (b.toNat % 128)]
      omega
  intro l hb
  have := key l 0 (fun i hi => by rw [Nat.zero_add]; exact hb.2 i hi)
  simpa [bVal] using this
theorem begins_val {s : ByteArray} {n : Nat} (h : Begins s (varL n)) : bVal s (varL n).length = n := by rw [lVal_bVal h, varL_val]
theorem begins_hi {s : ByteArray} {n i : Nat} (h : Begins s (varL n)) (hi : i + 1 < (varL n).length) : 128 ≤ bAt s i := by
  obtain ⟨b, h1, h2⟩ := varL_hi n i hi
  obtain ⟨hl, h3⟩ := List.getElem?_eq_some_iff.1 h1
  rw [h.2 i hl, h3]; exact h2
theorem begins_lo {s : ByteArray} {n : Nat} (h : Begins s (varL n)) : bAt s ((varL n).length - 1) < 128 := by
  obtain ⟨b, h1, h2⟩ := varL_lo n
  obtain ⟨hl, h3⟩ := List.getElem?_eq_some_iff.1 h1
  rw [h.2 _ hl, h3]; exact h2
theorem begins_uniq {s : ByteArray} {n m : Nat} (h : Begins s (varL n)) (k : Begins s (varL m)) : n = m := by
  have h1 : (varL n).length = (varL m).length := by
    rcases Nat.lt_trichotomy (varL n).length (varL m).length with hlt | he | hgt
    · have hp : 0 < (varL n).length := List.length_pos_iff.2 (varL_ne _)
      have := begins_hi k (i := (varL n).length - 1) (by omega)
      have := begins_lo h
      omega
    · exact he
    · have hp : 0 < (varL m).length := List.length_pos_iff.2 (varL_ne _)
      have := begins_hi h (i := (varL m).length - 1) (by omega)
      have := begins_lo k
      omega
  rw [← begins_val h, ← begins_val k, h1]

open Classical in
/-- the varint that a text begins with, and its size; (0, 0) where there is none -/
noncomputable def rvF (s : ByteArray) : Nat × Nat := if h : ∃ n, n ≤ 562949953421311 ∧ Begins s (varL n) then (Classical.choose h, (varL (Classical.choose h)).length) else (0, 0)
theorem rvF_yes {s : ByteArray} {n : Nat} (hn : n ≤ 562949953421311) (h : Begins s (varL n)) : rvF s = (n, (varL n).length) := by
  have hex : ∃ n, n ≤ 562949953421311 ∧ Begins s (varL n) := ⟨n, hn, h⟩
  unfold rvF
  rw [dif_pos hex]
  rw [begins_uniq (Classical.choose_spec hex).2 h]
theorem rvF_no {s : ByteArray} (h : ∀ n, n ≤ 562949953421311 → ¬ Begins s (varL n)) : rvF s = (0, 0) := by
  unfold rvF
  rw [dif_neg (fun ⟨n, h1, h2⟩ => h n h1 h2)]
theorem rvF_size (s : ByteArray) : (rvF s).2 ≤ 7 ∧ (rvF s).2 ≤ s.size ∧ (rvF s).1 ≤ 562949953421311 := by
  by_cases h : ∃ n, n ≤ 562949953421311 ∧ Begins s (varL n)
  · obtain ⟨n, hn, hb⟩ := h
    rw [rvF_yes hn hb]
    exact ⟨varL_len7 hn, hb.1, hn⟩
  · rw [rvF_no (fun n h1 h2 => h ⟨n, h1, h2⟩)]
    exact ⟨by omega, by omega, by omega⟩
/-- the check by the encoder -/
theorem begins_of_extract {s : ByteArray} {n k : Nat} (hk : k ≤ s.size) (h : varS n = s.extract 0 k) : Begins s (varL n) ∧ (varL n).length = k := by
  have hl : (varL n).length = k := by
    have := congrArg ByteArray.size h
    rw [ByteArray.size_extract] at this
    have e : (varS n).size = (varL n).length := by show (varL n).toArray.size = _; simp
    omega
  refine ⟨⟨by omega, fun i hi => ?_⟩, hl⟩
  have e1 : bAt (varS n) i = (varL n)[i].toNat := by
    unfold bAt
    rw [dif_pos (by show i < (varL n).toArray.size; simpa using hi)]
    rfl
  have e2 : bAt (s.extract 0 k) i = bAt s i := by
    unfold bAt
    rw [dif_pos (by rw [ByteArray.size_extract]; omega), dif_pos (by omega), ByteArray.getElem_extract]
    simp
  rw [← e2, ← h, e1]
theorem extract_of_begins {s : ByteArray} {n : Nat} (h : Begins s (varL n)) : varS n = s.extract 0 (varL n).length := by
  apply str_ext
  rw [Lib.toList_data, Lib.toList_data]
  apply List.ext_getElem?
  intro i
  by_cases hi : i < (varL n).length
  · have e2 : bAt (s.extract 0 (varL n).length) i = bAt s i := by
      unfold bAt
      rw [dif_pos (by rw [ByteArray.size_extract]; have := h.1; omega), dif_pos (by have := h.1; omega), ByteArray.getElem_extract]
      simp
    have hs : i < (s.extract 0 (varL n).length).data.toList.length := by
      rw [Array.length_toList]
      show i < (s.extract 0 (varL n).length).size
      rw [ByteArray.size_extract]; have := h.1; omega
    rw [List.getElem?_eq_getElem hs]
    show (varL n).toArray.toList[i]? = _
    rw [List.getElem?_eq_getElem (by simpa using hi)]
    congr 1
    apply UInt8.toNat.inj
    have h3 := h.2 i hi
    rw [← e2] at h3
    unfold bAt at h3
    rw [dif_pos (by simpa using hs)] at h3
    have h4 : (s.extract 0 (varL n).length).data.toList[i]'hs = (s.extract 0 (varL n).length)[i]'(by simpa using hs) := by rw [Array.getElem_toList]; rfl
    rw [h4]
    exact h3.symm
  · rw [List.getElem?_eq_none (by show (varL n).toArray.toList.length ≤ i; simp; omega), List.getElem?_eq_none]
    rw [Array.length_toList]
    show (s.extract 0 (varL n).length).size ≤ i
    rw [ByteArray.size_extract]; omega
end Go.Proofs.Ytbijkdpifnncmaa
/- Contracts of ReadVar, the program's and the reference's. -/
namespace Go.Proofs.Ytbijkdpifnncmaa
open Go.RowKit
attribute [local irreducible] rvF

theorem and127 {b : Nat} (h : b < 256) : bits .and .u8 (b : Int) 127 = ((b % 128 : Nat) : Int) := by
  have e1 : (BitVec.ofInt 8 (b : Int)).toNat = b := by rw [BitVec.ofInt_natCast, BitVec.toNat_ofNat]; exact Nat.mod_eq_of_lt (by omega)
  have e2 : (BitVec.ofInt 8 127).toNat = 127 := by decide
  have hx : b &&& 127 = b % 128 := Nat.and_two_pow_sub_one_eq_mod b 7
  show IntKind.u8.wrap ((BitVec.ofInt 8 (b : Int) &&& BitVec.ofInt 8 127).toNat : Int) = _
  rw [BitVec.toNat_and, e1, e2, hx]
  have : b % 128 < 256 := by omega
  simp [IntKind.wrap, IntKind.bits, IntKind.signed]
  omega
theorem or_put {n x k : Nat} (hn : n < 128 ^ k) (hx : x < 128) (hk : k ≤ 6) : bits .or .i64 (n : Int) ((x * 128 ^ k : Nat) : Int) = ((n + x * 128 ^ k : Nat) : Int) := by
  have hp : 128 ^ k ≤ 128 ^ 6 := Nat.pow_le_pow_right (by decide) hk
  have h1 : x * 128 ^ k ≤ 127 * 128 ^ k := Nat.mul_le_mul_right _ (by omega)
  have e : (128 : Nat) ^ k = 2 ^ (7 * k) := by rw [Nat.pow_mul]
  have a1 : (BitVec.ofInt 64 (n : Int)).toNat = n := by rw [BitVec.ofInt_natCast, BitVec.toNat_ofNat]; exact Nat.mod_eq_of_lt (by omega)
  have a2 : (BitVec.ofInt 64 ((x * 128 ^ k : Nat) : Int)).toNat = x * 128 ^ k := by rw [BitVec.ofInt_natCast, BitVec.toNat_ofNat]; exact Nat.mod_eq_of_lt (by omega)
  have ho : n ||| x * 128 ^ k = n + x * 128 ^ k := by
    rw [e] at hn ⊢
    have := Nat.two_pow_add_eq_or_of_lt (i := 7 * k) (b := n) hn x
    rw [Nat.or_comm, Nat.mul_comm x, ← this]; omega
  show IntKind.i64.wrap ((BitVec.ofInt 64 (n : Int) ||| BitVec.ofInt 64 ((x * 128 ^ k : Nat) : Int)).toNat : Int) = _
  rw [BitVec.toNat_or, a1, a2, ho, IntKind.wrap_i64]
  omega

set_option maxRecDepth 4000 in
set_option maxHeartbeats 1000000 in
theorem readVar_impl (s : ByteArray) (w : World) (hs : s.size ≤ 9223372036854775807) :
    Calls Try.prog 77 #[.string s] w fun e w' => e = .returned (.tuple #[.int .i64 ((rvF s).1 : Int), .int .i64 ((rvF s).2 : Int)]) ∧ Below w.heap.size w w' := by
  go_enter Try.func77, Try.ntmps77
  go_wp2
  go_loop [4, 5] (fun n i => ∃ k : Nat, k ≤ 7 ∧ k ≤ s.size ∧ i = .int .i64 k ∧ n = .int .i64 ((bVal s k : Nat) : Int) ∧ ∀ j, j < k → 128 ≤ bAt s j) (fun _ i => 7 - (intOf i).toNat)
  case atStart => exact ⟨0, by omega, by omega, rfl, rfl, fun j hj => absurd hj (by omega)⟩
  case round =>
    obtain ⟨k, hk7, hks, rfl, rfl, hhi⟩ := hrel
    have HH := Lib.hid hhi; clear hhi
    have hlt := bVal_lt s k
    have HL := Lib.hid hlt; clear hlt
    by_cases hin : k < s.size
    · by_cases hk : k < 7
      · have ik : (k : Int) < (s.size : Int) := by omega
        have ik7 : (k : Int) < 7 := by omega
        have b0 := bAt_get hin
        have l0 := bAt_lt s k
        have HS := Lib.hid (show bVal s (k + 1) = bVal s k + bAt s k % 128 * 128 ^ k from rfl)
        have ha := and127 l0
        have h7 : IntKind.i64.wrap (7 * (k : Int)) = 7 * (k : Int) := by rw [IntKind.wrap_i64]; omega
        have h7p : (0 : Int) ≤ 7 * (k : Int) := by omega
        have hor : bits .or .i64 ((bVal s k : Nat) : Int) (wrap64 ((bAt s k : Int) % 128 * 2 ^ (7 * k))) = ((bVal s (k + 1) : Nat) : Int) := by
          have e : ((bAt s k : Int) % 128 * 2 ^ (7 * k)) = ((bAt s k % 128 * 128 ^ k : Nat) : Int) := by
            rw [Int.natCast_mul, Int.natCast_pow, show (2 : Int) ^ (7 * k) = ((128 : Nat) : Int) ^ k by rw [Int.pow_mul]; rfl]
            rfl
          have hm : bAt s k % 128 * 128 ^ k ≤ 127 * 128 ^ 6 := Nat.mul_le_mul (by omega) (Nat.pow_le_pow_right (by decide) (by omega))
          rw [e, show wrap64 ((bAt s k % 128 * 128 ^ k : Nat) : Int) = ((bAt s k % 128 * 128 ^ k : Nat) : Int) by unfold wrap64; omega, or_put HL.out (by omega) (by omega), HS.out]
        have hnn : bVal s (k + 1) ≤ 562949953421311 := by
          have h1 := bVal_lt s (k + 1)
          have h2 : 128 ^ (k + 1) ≤ 128 ^ 7 := Nat.pow_le_pow_right (by decide) (by omega)
          omega
        have HOR := Lib.hid hor; clear hor
        by_cases hlo : bAt s k < 128
        · -- the last byte
          have HLO := Lib.hid hlo
          have hk1 : (k : Int) + 1 ≤ (s.size : Int) := by omega
          have hk1n : ((k : Int) + 1).toNat = k + 1 := by omega
          have hbi : ((bAt s k : Nat) : Int) < 128 := by omega
          generalize hb : bAt s k = b at *
          have HB := Lib.hid hb; clear hb
          clear hlo
          generalize hnv : bVal s (k + 1) = n at *
          have HNN := Lib.hid hnv; clear hnv
          go_wp2
          rw [HOR.out]
          refine wp_region_grow (by kernel_rfl) (by kernel_rfl) ?_
          repeat (go_big_quiet_step ((go_at_call 29; exact grow_of (var_impl _ _ (by omega)))))
          refine wpQuiet_nil ?_
          intro _ hw'
          obtain ⟨⟨w2, hb2⟩, hw''⟩ := hw'
          change _ = w2 at hw''
          subst hw''
          by_cases he : varS n = s.extract 0 (k + 1)
          · obtain ⟨g1, g2⟩ := begins_of_extract (by omega) he
            have HR := Lib.hid (rvF_yes hnn g1)
            rw [g2] at HR
            clear g1 g2
            have g1 : (!((varS n).toList == (s.extract 0 (k + 1)).toList)) = false := by rw [str_beq]; simpa using he
            clear he
            rw [g1]
            go_wp2
            go_returns
            rw [HR.out]
            exact ⟨by rfl, hb2⟩
          · have HR := Lib.hid (show rvF s = (0, 0) from rvF_no (fun m hm hbm => by
              have hp : 0 < (varL m).length := List.length_pos_iff.2 (varL_ne m)
              have hlen : (varL m).length = k + 1 := by
                rcases Nat.lt_trichotomy (varL m).length (k + 1) with h | h | h
                · have h1 := begins_lo hbm
                  have h2 := HH.out ((varL m).length - 1) (by omega)
                  omega
                · exact h
                · have h1 := begins_hi hbm (i := k) (by omega)
                  have := HLO.out
                  rw [HB.out] at h1
                  omega
              have hv := begins_val hbm
              rw [hlen] at hv
              apply he
              have := extract_of_begins hbm
              rw [hlen] at this
              rw [← this]
              exact congrArg varS (by rw [← hv]; exact HNN.out.symm)))
            have g1 : (!((varS n).toList == (s.extract 0 (k + 1)).toList)) = true := by rw [str_beq]; simpa using he
            clear he
            rw [g1]
            go_wp2
            go_returns
            rw [HR.out]
            exact ⟨by rfl, hb2⟩
        · have hbi : ¬ ((bAt s k : Nat) : Int) < 128 := by omega
          have HLO := Lib.hid hlo
          generalize hb : bAt s k = b at *
          have HB := Lib.hid hb; clear hb
          clear hlo
          go_wp2
          rw [HOR.out]
          refine ⟨⟨k + 1, by omega, by omega, by go_num, rfl, fun j hj => ?_⟩, by simp [intOf]; omega⟩
          by_cases e : j = k
          · subst e; have := HLO.out; have := HB.out; omega
          · exact HH.out j (by omega)
      · have hk0 : k = 7 := by omega
        subst hk0
        have ik : ((7 : Nat) : Int) < (s.size : Int) := by omega
        have HR := Lib.hid (show rvF s = (0, 0) from rvF_no (fun m hm hbm => by
          have hp : 0 < (varL m).length := List.length_pos_iff.2 (varL_ne m)
          have h7 := varL_len7 hm
          have h1 := begins_lo hbm
          have h2 := HH.out ((varL m).length - 1) (by omega)
          omega))
        go_wp2
        go_returns
        rw [HR.out]
        exact ⟨by rfl, Below.refl _ _⟩
    · have hk0 : k = s.size := by omega
      have ik : ¬ (k : Int) < (s.size : Int) := by omega
      have HR := Lib.hid (show rvF s = (0, 0) from rvF_no (fun m hm hbm => by
        have hp : 0 < (varL m).length := List.length_pos_iff.2 (varL_ne m)
        have h7 := hbm.1
        have h1 := begins_lo hbm
        have h2 := HH.out ((varL m).length - 1) (by omega)
        omega))
      clear hk0
      go_wp2
      go_returns
      rw [HR.out]
      exact ⟨by rfl, Below.refl _ _⟩

/-- the value of the bytes from j up to k, the least first -/
def dF (s : ByteArray) (j : Nat) : Nat → Nat
  | 0 => 0
  | d + 1 => bAt s j % 128 + 128 * dF s (j + 1) d
def dV (s : ByteArray) (j k : Nat) : Nat := dF s j (k - j)
theorem dV_top (s : ByteArray) (k : Nat) : dV s k k = 0 := by simp [dV, dF]
theorem dV_step (s : ByteArray) (q k : Nat) (h : q < k) : dV s q k = bAt s q % 128 + 128 * dV s (q + 1) k := by
  unfold dV
  rw [show k - q = (k - (q + 1)) + 1 by omega]
  rfl
theorem dF_lt (s : ByteArray) : ∀ (d j : Nat), dF s j d < 128 ^ d
  | 0, _ => by simp [dF]
  | d + 1, j => by
    have h := dF_lt s d (j + 1)
    unfold dF
    rw [Nat.pow_succ]
    omega
theorem dV_lt (s : ByteArray) (j k : Nat) (h : k ≤ 6 + j) : dV s j k ≤ 4398046511103 := by
  have h1 := dF_lt s (k - j) j
  have h2 : 128 ^ (k - j) ≤ 128 ^ 6 := Nat.pow_le_pow_right (by decide) (by omega)
  unfold dV
  omega
theorem bVal_dF (s : ByteArray) : ∀ (d k : Nat), bVal s (k + d) = bVal s k + 128 ^ k * dF s k d
  | 0, k => by simp [dF]
  | d + 1, k => by
    rw [show k + (d + 1) = k + 1 + d by omega, bVal_dF s d (k + 1)]
    simp only [bVal, dF]
    rw [Nat.pow_succ, Nat.mul_add, ← Nat.mul_assoc, Nat.mul_comm (bAt s k % 128)]
    omega
theorem dV_zero (s : ByteArray) (k : Nat) : dV s 0 k = bVal s k := by
  have := bVal_dF s k 0
  simp only [Nat.zero_add, bVal, Nat.pow_zero, Nat.one_mul] at this
  rw [this]
  rfl
set_option maxRecDepth 4000 in
set_option maxHeartbeats 1000000 in
theorem readVar_spec (s : ByteArray) (w : World) (hs : s.size ≤ 9223372036854775807) :
    Calls Try.prog 68 #[.string s] w fun e w' => e = .returned (.tuple #[.int .i64 ((rvF s).1 : Int), .int .i64 ((rvF s).2 : Int)]) ∧ Below w.heap.size w w' := by
  go_enter Try.func68, Try.ntmps68
  go_wp2
  go_loopw [4] (fun i wr => ∃ k : Nat, 1 ≤ k ∧ k ≤ 8 ∧ i = .int .i64 k ∧ (∀ j, 1 ≤ j → j < k → ¬ (j ≤ s.size ∧ varS (bVal s j) = s.extract 0 j)) ∧ Below w.heap.size w wr) (fun i _ => 8 - (intOf i).toNat)
  case atStart => exact ⟨1, by omega, by omega, rfl, fun j hj hj2 => absurd hj2 (by omega), Below.refl _ _⟩
  case round =>
    obtain ⟨k, hk1, hk8, rfl, hno, hb⟩ := hrel
    have HN := Lib.hid hno; clear hno
    have HR0 : k ≤ 7 ∧ k ≤ s.size ∨ rvF s = (0, 0) := by
      by_cases h : k ≤ 7 ∧ k ≤ s.size
      · exact .inl h
      · refine .inr (rvF_no fun m hm hbm => ?_)
        have hp : 0 < (varL m).length := List.length_pos_iff.2 (varL_ne m)
        have h7 := varL_len7 hm
        have h1 := hbm.1
        have hv := begins_val hbm
        exact HN.out _ hp (by omega) ⟨h1, by rw [hv]; exact extract_of_begins hbm⟩
    have HRN := Lib.hid HR0; clear HR0
    by_cases hk7 : k ≤ 7
    · have ik7 : (k : Int) ≤ 7 := by omega
      by_cases hin : k ≤ s.size
      · have ikn : (k : Int) ≤ (s.size : Int) := by omega
        go_wp2
        go_loopw [6, 5] (fun i n w2 => ∃ j : Nat, j ≤ k ∧ i = .int .i64 ((j : Int) - 1) ∧ n = .int .i64 ((dV s j k : Nat) : Int) ∧ w2 = wr) (fun i _ _ => (intOf i + 1).toNat)
        case atStart => exact ⟨k, Nat.le_refl _, rfl, by rw [dV_top]; rfl, rfl⟩
        case round =>
          obtain ⟨j, hj, rfl, rfl, rfl⟩ := hrel
          by_cases hj0 : 0 < j
          · obtain ⟨q, rfl⟩ : ∃ q, j = q + 1 := ⟨j - 1, by omega⟩
            have hqs : q < s.size := by omega
            have iq : (q : Int) < (s.size : Int) := by omega
            have iq0 : (0 : Int) ≤ (q : Int) := by omega
            have b0 := bAt_get hqs
            have l0 := bAt_lt s q
            have hd := dV_lt s (q + 1) k (by omega)
            have HS := Lib.hid (dV_step s q k (by omega))
            have ei : (((q + 1 : Nat) : Int) - 1) = (q : Int) := by omega
            rw [ei]
            generalize dV s (q + 1) k = n at *
            generalize hb' : bAt s q = b at *
            clear hb'
            have hw1 : IntKind.i64.wrap ((n : Int) * 128) = (n : Int) * 128 := by rw [IntKind.wrap_i64]; omega
            have hw2 : IntKind.i64.wrap ((n : Int) * 128 + (b : Int) % 128) = (n : Int) * 128 + (b : Int) % 128 := by rw [IntKind.wrap_i64]; omega
            go_wp2
            refine ⟨⟨q, by omega, rfl, ?_, trivial⟩, by simp [intOf]⟩
            rw [HS.out]
            go_num
          · have hj1 : j = 0 := by omega
            subst hj1
            rw [dV_zero]
            have hnn : bVal s k ≤ 562949953421311 := by
              have h1 := bVal_lt s k
              have h2 : 128 ^ k ≤ 128 ^ 7 := Nat.pow_le_pow_right (by decide) (by omega)
              omega
            have HNN := Lib.hid (rfl : bVal s k = bVal s k)
            revert HNN
            generalize hnv : bVal s k = n at hnn ⊢
            intro _
            have HNV := Lib.hid hnv; clear hnv
            have ik0 : (0 : Int) ≤ (k : Int) := by omega
            go_wp2
            refine wp_region_grow (by kernel_rfl) (by kernel_rfl) ?_
            repeat (go_big_quiet_step ((go_at_call 39; exact grow_of (var_spec _ _ (by omega)))))
            refine wpQuiet_nil ?_
            intro _ hw'
            obtain ⟨⟨w2, hb2⟩, hw''⟩ := hw'
            change _ = w2 at hw''
            subst hw''
            by_cases he : varS n = s.extract 0 k
            · obtain ⟨g1, g2⟩ := begins_of_extract (by omega) he
              have HR := Lib.hid (rvF_yes hnn g1)
              rw [g2] at HR
              clear g1 g2
              have g1 : ((varS n).toList == (s.extract 0 k).toList) = true := by rw [str_beq]; simpa using he
              clear he
              rw [g1]
              go_wp2
              go_returns
              rw [HR.out]
              exact ⟨by rfl, hb.trans (hb2.mono hb.size)⟩
            · have g1 : ((varS n).toList == (s.extract 0 k).toList) = false := by rw [str_beq]; simpa using he
              have HE := Lib.hid he; clear he
              rw [g1]
              go_wp2
              refine ⟨⟨k + 1, by omega, by omega, by go_num, fun j hj1 hj2 => ?_, hb.trans (hb2.mono hb.size)⟩, by simp [intOf]; omega⟩
              by_cases e : j = k
              · subst e
                rw [HNV.out]
                exact fun h => HE.out h.2
              · exact HN.out j hj1 (by omega)
      · have ikn : ¬ (k : Int) ≤ (s.size : Int) := by omega
        have HR := Lib.hid (show rvF s = (0, 0) from (HRN.out).resolve_left (by omega))
        go_wp2
        go_returns
        rw [HR.out]
        exact ⟨by rfl, hb⟩
    · have ik7 : ¬ (k : Int) ≤ 7 := by omega
      have HR := Lib.hid (show rvF s = (0, 0) from (HRN.out).resolve_left (by omega))
      go_wp2
      go_returns
      rw [HR.out]
      exact ⟨by rfl, hb⟩
end Go.Proofs.Ytbijkdpifnncmaa
/- The reader's state: contracts of num, cut, text, many. -/
namespace Go.Proofs.Ytbijkdpifnncmaa
open Go.RowKit
attribute [local irreducible] rvF

/-- a reader: what is left, and whether something was amiss -/
abbrev Sc := ByteArray × Bool
noncomputable def numF (x : Sc) : Nat × Sc := if x.2 = true ∨ (rvF x.1).2 = 0 then (0, (x.1, true)) else ((rvF x.1).1, (x.1.extract (rvF x.1).2 x.1.size, false))
noncomputable def cutF (x : Sc) (n : Nat) : ByteArray × Sc := if x.2 = true ∨ ¬ n ≤ x.1.size then (.empty, (x.1, true)) else (x.1.extract 0 n, (x.1.extract n x.1.size, false))
noncomputable def textF (x : Sc) : ByteArray × Sc := cutF (numF x).2 (numF x).1
noncomputable def manyF (x : Sc) (most : Nat) : Nat × Sc := if (numF x).2.2 = true ∨ most < (numF x).1 then (0, ((numF x).2.1, true)) else ((numF x).1, (numF x).2)
theorem numF_le (x : Sc) : (numF x).1 ≤ 562949953421311 ∧ (numF x).2.1.size ≤ x.1.size := by
  have h := rvF_size x.1
  unfold numF
  split
  · exact ⟨by omega, Nat.le_refl _⟩
  · refine ⟨h.2.2, ?_⟩
    show (x.1.extract _ _).size ≤ _
    rw [ByteArray.size_extract]; omega
theorem scn_one {w : World} {g o : Nat} {v : Value} : Ch (fun k => k = g) w (w.setCell ⟨g, o, none⟩ v) := (Ch.refl (S := fun k => k = g) w).setCell (p := ⟨g, o, none⟩) rfl v
structure Scn (w : World) (g : Nat) (x : Sc) : Prop where
  c0 : w.cell? ⟨g, 0, none⟩ = some (.string x.1)
  c1 : w.cell? ⟨g, 1, none⟩ = some (.bool x.2)
  f0 : w.frozen? ⟨g, 0, none⟩ = false
  f1 : w.frozen? ⟨g, 1, none⟩ = false
  sz : x.1.size ≤ 9223372036854775807
theorem Scn.lt {w : World} {g : Nat} {x : Sc} (h : Scn w g x) : g < w.heap.size := by
  have := World.block_lt_of_cell? w ⟨g, 0, none⟩ h.c0; simpa using this
theorem Scn.ch {S : Nat → Prop} {w w' : World} {g : Nat} {x : Sc} (h : Scn w g x) (hc : Ch S w w') (hS : ¬ S g) : Scn w' g x :=
  ⟨hc.cell h.c0 hS, hc.cell h.c1 hS, (World.frozen?_of_block (hc.block g h.lt hS)).trans h.f0, (World.frozen?_of_block (hc.block g h.lt hS)).trans h.f1, h.sz⟩
theorem Scn.keep {w w' : World} {g : Nat} {x : Sc} (h : Scn w g x) (hb : Below w.heap.size w w') : Scn w' g x := h.ch (S := fun _ => False) (Ch.of_below hb) (fun h => h)
theorem Scn.set0 {w : World} {g : Nat} {x : Sc} {t : ByteArray} (h : Scn w g x) (ht : t.size ≤ 9223372036854775807) : Scn (w.setCell ⟨g, 0, none⟩ (.string t)) g (t, x.2) :=
  ⟨sethere h.c0, setoff h.c1 (.inr (by omega)), (World.frozen?_setCell _ _ _ _).trans h.f0, (World.frozen?_setCell _ _ _ _).trans h.f1, ht⟩
theorem Scn.set1 {w : World} {g : Nat} {x : Sc} {b : Bool} (h : Scn w g x) : Scn (w.setCell ⟨g, 1, none⟩ (.bool b)) g (x.1, b) :=
  ⟨setoff h.c0 (.inr (by omega)), sethere h.c1, (World.frozen?_setCell _ _ _ _).trans h.f0, (World.frozen?_setCell _ _ _ _).trans h.f1, h.sz⟩

set_option maxRecDepth 4000 in
set_option maxHeartbeats 400000 in
theorem num_impl (g : Nat) (x : Sc) (w : World) (h : Scn w g x) :
    Calls Try.prog 65 #[.pointer (some ⟨g, 0, none⟩)] w fun e w' => e = .returned (.int .i64 ((numF x).1 : Int)) ∧ Scn w' g (numF x).2 ∧ Ch (fun k => k = g) w w' := by
  obtain ⟨s, q⟩ := x
  have hlt := h.lt
  have k0 := h.c0
  have hs := h.sz
  have hz := rvF_size s
  have hnm : numF (s, q) = if q = true ∨ (rvF s).2 = 0 then (0, (s, true)) else ((rvF s).1, (s.extract (rvF s).2 s.size, false)) := rfl
  have HNM := Lib.hid hnm; clear hnm
  go_enter Try.func65, Try.ntmps65
  go_wp2_with fail
  refine (readVar_impl _ _ hs).mono ?_
  rintro e w1 ⟨rfl, hb1⟩
  have h1 := h.keep hb1
  have k1 := h1.c1
  have k0' := h1.c0
  have f0 := h1.f0
  have f1 := h1.f1
  have HZ := Lib.hid hz; clear hz
  obtain ⟨n, m, hnm⟩ : ∃ n m, rvF s = (n, m) := ⟨_, _, rfl⟩
  rw [hnm] at HNM HZ ⊢
  cases q with
  | true =>
    go_wp2
    go_returns
    rw [HNM.out, if_pos (by simp)]
    exact ⟨rfl, h1.set1, (Ch.of_below hb1).trans scn_one⟩
  | false =>
    by_cases hm : m = 0
    · subst hm
      go_wp2
      go_returns
      rw [HNM.out, if_pos (by simp)]
      exact ⟨rfl, h1.set1, (Ch.of_below hb1).trans scn_one⟩
    · have hm0 : ¬ ((m : Int) = 0) := by omega
      have hml : m ≤ s.size := HZ.out.2.1
      go_wp2
      go_returns
      rw [HNM.out, if_neg (by simp; omega)]
      exact ⟨rfl, h1.set0 (x := (s, false)) (by rw [ByteArray.size_extract]; omega), (Ch.of_below hb1).trans scn_one⟩

set_option maxRecDepth 4000 in
set_option maxHeartbeats 400000 in
theorem cut_impl (g n : Nat) (x : Sc) (w : World) (h : Scn w g x) (hn : n ≤ 562949953421311) :
    Calls Try.prog 33 #[.pointer (some ⟨g, 0, none⟩), .int .i64 n] w fun e w' => e = .returned (.string (cutF x n).1) ∧ Scn w' g (cutF x n).2 ∧ Ch (fun k => k = g) w w' := by
  obtain ⟨s, q⟩ := x
  have hlt := h.lt
  have k0 := h.c0
  have k1 := h.c1
  have f0 := h.f0
  have f1 := h.f1
  have hs := h.sz
  have hnm : cutF (s, q) n = if q = true ∨ ¬ n ≤ s.size then (.empty, (s, true)) else (s.extract 0 n, (s.extract n s.size, false)) := rfl
  have HNM := Lib.hid hnm; clear hnm
  have hin : inB (n : Int) 0 (s.size : Int) = decide (n ≤ s.size) := by simp [inB]
  have HI := Lib.hid hin; clear hin
  go_enter Try.func33, Try.ntmps33
  cases q with
  | true =>
    go_wp2
    go_returns
    rw [HNM.out, if_pos (by simp)]
    exact ⟨rfl, h.set1, scn_one⟩
  | false =>
    by_cases hm : n ≤ s.size
    · have hml : (n : Int) ≤ (s.size : Int) := by omega
      go_wp2_with (go_at_call 64; refine (within_any _ _ _ _).mono ?_; rintro e w1 ⟨rfl, rfl⟩; rw [HI.out, decide_eq_true hm])
      go_returns
      rw [HNM.out, if_neg (by simp; omega)]
      exact ⟨rfl, h.set0 (x := (s, false)) (by rw [ByteArray.size_extract]; omega), scn_one⟩
    · go_wp2_with (go_at_call 64; refine (within_any _ _ _ _).mono ?_; rintro e w1 ⟨rfl, rfl⟩; rw [HI.out, decide_eq_false hm])
      go_returns
      rw [HNM.out, if_pos (.inr hm)]
      exact ⟨rfl, h.set1, scn_one⟩

theorem text_impl (g : Nat) (x : Sc) (w : World) (h : Scn w g x) :
    Calls Try.prog 31 #[.pointer (some ⟨g, 0, none⟩)] w fun e w' => e = .returned (.string (textF x).1) ∧ Scn w' g (textF x).2 ∧ Ch (fun k => k = g) w w' := by
  have hz := (numF_le x).1
  go_enter Try.func31, Try.ntmps31
  go_wp2_with (first | (go_at_call 65; refine (num_impl _ _ _ h).mono ?_; rintro e w1 ⟨rfl, h1, c1⟩) | (go_at_call 33; refine (cut_impl _ _ _ _ h1 hz).mono ?_; rintro e w2 ⟨rfl, h2, c2⟩))
  go_returns
  exact ⟨rfl, h2, c1.trans c2⟩

theorem many_impl (g most : Nat) (x : Sc) (w : World) (h : Scn w g x) (hm : most ≤ 1048576) :
    Calls Try.prog 32 #[.pointer (some ⟨g, 0, none⟩), .int .i64 most] w fun e w' => e = .returned (.int .i64 ((manyF x most).1 : Int)) ∧ Scn w' g (manyF x most).2 ∧ Ch (fun k => k = g) w w' := by
  have hz := (numF_le x).1
  have hnm : manyF x most = if (numF x).2.2 = true ∨ most < (numF x).1 then (0, ((numF x).2.1, true)) else ((numF x).1, (numF x).2) := rfl
  have HNM := Lib.hid hnm; clear hnm
  go_enter Try.func32, Try.ntmps32
  go_wp2_with fail
  refine (num_impl _ _ _ h).mono ?_
  rintro e w1 ⟨rfl, h1, c1⟩
  obtain ⟨n, s, q, hq⟩ : ∃ n s q, numF x = (n, s, q) := ⟨_, _, _, rfl⟩
  rw [hq] at HNM h1 hz ⊢
  have k1 := h1.c1
  have f1 := h1.f1
  by_cases hn : most < n
  · have hni : (most : Int) < (n : Int) := by omega
    have k1' := sethere (u := .bool true) k1
    go_wp2
    go_returns
    rw [HNM.out, if_pos (.inr hn)]
    exact ⟨rfl, h1.set1, c1.trans scn_one⟩
  · have hni : ¬ (most : Int) < (n : Int) := by omega
    cases q with
    | true =>
      go_wp2
      go_returns
      rw [HNM.out, if_pos (by simp)]
      exact ⟨rfl, h1, c1⟩
    | false =>
      go_wp2
      go_returns
      rw [HNM.out, if_neg (by simp; omega)]
      exact ⟨rfl, h1, c1⟩
end Go.Proofs.Ytbijkdpifnncmaa
/- Contracts of Joined, sized, l4Piece, TreeText. -/
namespace Go.Proofs.Ytbijkdpifnncmaa
open Go.RowKit
attribute [local go_sem] Grow.cell Grow.frozen

def joinTo (l : List ByteArray) : Nat → ByteArray
  | 0 => ByteArray.empty
  | k + 1 => joinTo l k ++ sAt l k
def joinS (l : List ByteArray) : ByteArray := joinTo l l.length
theorem joinTo_size (l : List ByteArray) : ∀ k, k ≤ l.length → (joinTo l k).size ≤ sumTo ByteArray.size l k
  | 0, _ => by simp [joinTo]
  | k + 1, h => by
    have ih := joinTo_size l k (by omega)
    have h1 := sumTo_succ ByteArray.size l k h
    have h2 : sAt l k = l[k] := by simp [sAt, show k < l.length from h]
    unfold joinTo
    rw [ByteArray.size_append, h2]
    omega
theorem joinTo_le {l : List ByteArray} {k m : Nat} (hk : k ≤ l.length) (hs : strsSz l ≤ m) : (joinTo l k).size ≤ m := by
  have := joinTo_size l k hk
  have := sumTo_le ByteArray.size l k
  unfold strsSz at hs; omega
theorem strs_el {l : List ByteArray} {m : Nat} (hs : strsSz l ≤ m) (i : Nat) : (sAt l i).size ≤ m := by
  rcases Nat.lt_or_ge i l.length with h | h
  · have e : sAt l i = l[i] := by simp [sAt, h]
    rw [e]
    have h1 := sumTo_succ ByteArray.size l i h
    have h2 := sumTo_le ByteArray.size l (i + 1)
    unfold strsSz at hs; omega
  · simp [sAt, h]
theorem varL_len (n : Nat) : (varL n).length ≤ n + 1 := by
  induction n using Nat.strongRecOn with
  | _ n ih =>
    by_cases h : n < 128
    · rw [varL_small h]; simp
    · rw [varL_big h]
      have := ih (n / 128) (by omega)
      simp; omega
theorem varS_size (n : Nat) : (varS n).size ≤ n + 1 := varL_len n

theorem joined_impl (A : Option Addr) (n c : Nat) (l : List ByteArray) (w : World) (h : StrsAt w A n l) (hs : strsSz l ≤ 1048704) :
    Calls Try.prog 30 #[.slice A n c] w fun e w' => e = .returned (.string (joinS l)) ∧ w = w' := by
  have HL := Lib.hid h.1
  have hn := strs_n h hs
  go_enter Try.func30, Try.ntmps30
  go_wp2
  go_loop [3, 8] (fun o i => ∃ k : Nat, k ≤ n ∧ i = .int .i64 k ∧ o = .string (joinTo l k)) (fun _ i => n - (intOf i).toNat)
  case atStart => exact ⟨0, Nat.zero_le _, rfl, rfl⟩
  case round =>
    obtain ⟨k, hk, rfl, rfl⟩ := hrel
    have HS := Lib.hid (show joinTo l (k + 1) = joinTo l k ++ sAt l k from rfl)
    have hz1 := joinTo_le (k := k) (by have := HL.out; omega) hs
    have hz2 := strs_el hs k
    by_cases hlt : k < n
    · obtain ⟨b, off, rfl, hbl, hc⟩ := h.2 (by omega)
      have hck := hc k hlt
      clear hc
      go_wp2
      exact ⟨⟨k + 1, by omega, by go_num, by rw [HS.out]⟩, by simp [intOf]; omega⟩
    · have : k = n := by omega
      subst this
      go_wp2
      go_returns
      exact ⟨by unfold joinS; rw [← HL.out]; rfl, rfl⟩

theorem joined_spec (A : Option Addr) (n c : Nat) (l : List ByteArray) (w : World) (h : StrsAt w A n l) (hs : strsSz l ≤ 1048704) :
    Calls Try.prog 40 #[.slice A n c] w fun e w' => e = .returned (.string (joinS l)) ∧ w = w' := by
  have HL := Lib.hid h.1
  have hn := strs_n h hs
  go_enter Try.func40, Try.ntmps40
  go_wp2
  go_loop [3, 4] (fun o i => ∃ k : Nat, k ≤ n ∧ i = .int .i64 k ∧ o = .string (joinTo l k)) (fun _ i => n - (intOf i).toNat)
  case atStart => exact ⟨0, Nat.zero_le _, rfl, rfl⟩
  case round =>
    obtain ⟨k, hk, rfl, rfl⟩ := hrel
    have HS := Lib.hid (show joinTo l (k + 1) = joinTo l k ++ sAt l k from rfl)
    have hz1 := joinTo_le (k := k) (by have := HL.out; omega) hs
    have hz2 := strs_el hs k
    by_cases hlt : k < n
    · obtain ⟨b, off, rfl, hbl, hc⟩ := h.2 (by omega)
      have hck := hc k hlt
      clear hc
      go_wp2
      exact ⟨⟨k + 1, by omega, by go_num, by rw [HS.out]⟩, by simp [intOf]; omega⟩
    · have : k = n := by omega
      subst this
      go_wp2
      go_returns
      exact ⟨by unfold joinS; rw [← HL.out]; rfl, rfl⟩

theorem sized_impl (s : ByteArray) (w : World) (hs : s.size ≤ 16777216) :
    Calls Try.prog 28 #[.string s] w fun e w' => e = .returned (.string (varS s.size ++ s)) ∧ Below w.heap.size w w' := by
  have hv := varS_size s.size
  go_enter Try.func28, Try.ntmps28
  go_wp2_with fail
  refine (var_impl _ _ (by omega)).mono ?_
  rintro e w1 ⟨rfl, hb⟩
  go_wp2
  go_returns
  exact ⟨rfl, hb⟩
theorem l4Piece_spec (s : ByteArray) (w : World) (hs : s.size ≤ 16777216) :
    Calls Try.prog 38 #[.string s] w fun e w' => e = .returned (.string (varS s.size ++ s)) ∧ Below w.heap.size w w' := by
  have hv := varS_size s.size
  go_enter Try.func38, Try.ntmps38
  go_wp2_with fail
  refine (var_spec _ _ (by omega)).mono ?_
  rintro e w1 ⟨rfl, hb⟩
  go_wp2
  go_returns
  exact ⟨rfl, hb⟩

attribute [local irreducible] StrsAt varS

def textTo (l : List Ent) : Nat → ByteArray
  | 0 => ByteArray.empty
  | k + 1 => textTo l k ++ (varS (enAt l k).p.size ++ (enAt l k).p) ++ varS (enAt l k).ch.length ++ joinS (enAt l k).ch
theorem textTo_size {l : List Ent} (hel : ∀ i, entSz (enAt l i) ≤ 1048704) : ∀ k, (textTo l k).size ≤ k * 4194820
  | 0 => by simp [textTo]
  | k + 1 => by
    have ih := textTo_size hel k
    have he := hel k
    have h1 := varS_size (enAt l k).p.size
    have h2 := varS_size (enAt l k).ch.length
    have h3 : (joinS (enAt l k).ch).size ≤ 1048704 := joinTo_le (Nat.le_refl _) (by unfold entSz at he; omega)
    have h4 : (enAt l k).ch.length ≤ 1048704 := by unfold entSz strsSz at he; omega
    unfold entSz at he
    unfold textTo
    simp only [ByteArray.size_append]
    omega
def treeText (l : List Ent) : ByteArray := if treeOkB l = true then textTo l l.length else ByteArray.empty

theorem treeText_impl2 (A : Option Addr) (n c : Nat) (l : List Ent) (w : World) (h : EntsAt w A n l) (hs : entsSz l ≤ 1048704) :
    Calls Try.prog 7 #[.slice A n c] w fun e w' => e = .returned (.string (treeText l)) ∧ Below w.heap.size w w' := by
  have HL := Lib.hid h.1
  have hn := ents_n h hs
  have hel := ents_el hs
  obtain ⟨q, hq⟩ : ∃ q, treeOkB l = q := ⟨_, rfl⟩
  have HQ := Lib.hid hq
  cases q
  · have HT := Lib.hid (show treeText l = ByteArray.empty by simp [treeText, hq])
    rw [HT.out]
    clear hq
    go_enter Try.func7, Try.ntmps7
    go_wp2_with fail
    refine (treeOk_impl2 _ _ _ _ _ h hs).mono ?_
    rintro e w1 ⟨rfl, hb1⟩
    rw [HQ.out]
    go_wp2
    go_returns
    exact ⟨rfl, hb1⟩
  · have HT := Lib.hid (show treeText l = textTo l l.length by simp [treeText, hq])
    rw [HT.out]
    clear hq
    go_enter Try.func7, Try.ntmps7
    go_wp2_with fail
    refine (treeOk_impl2 _ _ _ _ _ h hs).mono ?_
    rintro e w1 ⟨rfl, hb1⟩
    rw [HQ.out]
    go_wp2
    go_loopw [3, 11] (fun o i wr => ∃ k : Nat, k ≤ n ∧ i = .int .i64 k ∧ o = .string (textTo l k) ∧ Below w.heap.size w wr) (fun _ i _ => n - (intOf i).toNat)
    case atStart => exact ⟨0, Nat.zero_le _, rfl, rfl, hb1⟩
    case round =>
      obtain ⟨k, hk, rfl, rfl, hb⟩ := hrel
      have HS := Lib.hid (show textTo l (k + 1) = textTo l k ++ (varS (enAt l k).p.size ++ (enAt l k).p) ++ varS (enAt l k).ch.length ++ joinS (enAt l k).ch from rfl)
      by_cases hlt : k < n
      · obtain ⟨b, off, rfl, hbl, hc⟩ := h.at_ (by omega)
        obtain ⟨hp0, A', n', c', hc0, hat, _⟩ := hc k hlt
        have hpk := (hb.cell (p := ⟨b, off + k * 2, none⟩) hbl).trans hp0
        have hck := (hb.cell (p := ⟨b, off + k * 2 + 1, none⟩) hbl).trans hc0
        clear hc hc0 hp0
        have hek := hel k
        unfold entSz at hek
        have hzt := textTo_size hel k
        have hzp := varS_size (enAt l k).p.size
        have hzc := varS_size n'
        have hzj : (joinS (enAt l k).ch).size ≤ 1048704 := joinTo_le (Nat.le_refl _) (by omega)
        have al := (Below.refl wr.heap.size wr).alloc (Nat.le_refl _) (.cells #[.string (enAt l k).p, .slice A' n' c'] 33)
        have hatl := hat.keep (bthen hb al)
        have hBl := bthen hb al
        have HN := Lib.hid hat.nn
        have hn4 : n' ≤ 1048704 := by have := HN.out; unfold strsSz at hek; omega
        have hbr1 : wr.heap.size < wr.heap.size + 1 := by omega
        go_wp2
        refine wp_region_grow (by kernel_rfl) (by kernel_rfl) ?_
        repeat (go_big_quiet_step (first | (go_at_call 28; exact grow_of (sized_impl _ _ (by omega))) | (go_at_call 29; exact grow_of (var_impl _ _ (by omega))) | (go_at_call 30; exact grow_same (joined_impl _ _ _ _ _ (hatl.keep (Grow.below _)) (by omega)))))
        refine wpQuiet_nil ?_
        intro _ hw'
        obtain ⟨⟨w2, hb2⟩, hw''⟩ := hw'
        change _ = w2 at hw''
        subst hw''
        go_wp2
        exact ⟨⟨k + 1, by omega, by go_num, by rw [HS.out, HN.out], bthen hBl hb2⟩, by simp [intOf]; omega⟩
      · go_wp2
        go_returns
        have : k = l.length := by have := HL.out; omega
        subst this
        exact ⟨rfl, hb⟩

theorem treeText_spec2 (A : Option Addr) (n c : Nat) (l : List Ent) (w : World) (h : EntsAt w A n l) (hs : entsSz l ≤ 1048704) :
    Calls Try.prog 11 #[.slice A n c] w fun e w' => e = .returned (.string (treeText l)) ∧ Below w.heap.size w w' := by
  have HL := Lib.hid h.1
  have hn := ents_n h hs
  have hel := ents_el hs
  obtain ⟨q, hq⟩ : ∃ q, treeOkB l = q := ⟨_, rfl⟩
  have HQ := Lib.hid hq
  cases q
  · have HT := Lib.hid (show treeText l = ByteArray.empty by simp [treeText, hq])
    rw [HT.out]
    clear hq
    go_enter Try.func11, Try.ntmps11
    go_wp2_with fail
    refine (treeOk_spec2 _ _ _ _ _ h hs).mono ?_
    rintro e w1 ⟨rfl, hb1⟩
    rw [HQ.out]
    go_wp2
    go_returns
    exact ⟨rfl, hb1⟩
  · have HT := Lib.hid (show treeText l = textTo l l.length by simp [treeText, hq])
    rw [HT.out]
    clear hq
    go_enter Try.func11, Try.ntmps11
    go_wp2_with fail
    refine (treeOk_spec2 _ _ _ _ _ h hs).mono ?_
    rintro e w1 ⟨rfl, hb1⟩
    rw [HQ.out]
    go_wp2
    go_loopw [3, 4] (fun o i wr => ∃ k : Nat, k ≤ n ∧ i = .int .i64 k ∧ o = .string (textTo l k) ∧ Below w.heap.size w wr) (fun _ i _ => n - (intOf i).toNat)
    case atStart => exact ⟨0, Nat.zero_le _, rfl, rfl, hb1⟩
    case round =>
      obtain ⟨k, hk, rfl, rfl, hb⟩ := hrel
      have HS := Lib.hid (show textTo l (k + 1) = textTo l k ++ (varS (enAt l k).p.size ++ (enAt l k).p) ++ varS (enAt l k).ch.length ++ joinS (enAt l k).ch from rfl)
      by_cases hlt : k < n
      · obtain ⟨b, off, rfl, hbl, hc⟩ := h.at_ (by omega)
        obtain ⟨hp0, A', n', c', hc0, hat, _⟩ := hc k hlt
        have hpk := (hb.cell (p := ⟨b, off + k * 2, none⟩) hbl).trans hp0
        have hck := (hb.cell (p := ⟨b, off + k * 2 + 1, none⟩) hbl).trans hc0
        have hbr : b < wr.heap.size := Nat.lt_of_lt_of_le hbl hb.size
        clear hc hc0 hp0
        have hek := hel k
        unfold entSz at hek
        have hzt := textTo_size hel k
        have hzp := varS_size (enAt l k).p.size
        have hzc := varS_size n'
        have hzj : (joinS (enAt l k).ch).size ≤ 1048704 := joinTo_le (Nat.le_refl _) (by omega)
        have hatl := hat.keep hb
        have HN := Lib.hid hat.nn
        have hn4 : n' ≤ 1048704 := by have := HN.out; unfold strsSz at hek; omega
        go_wp2
        refine wp_region_grow (by kernel_rfl) (by kernel_rfl) ?_
        repeat (go_big_quiet_step (first | (go_at_call 38; exact grow_of (l4Piece_spec _ _ (by omega))) | (go_at_call 39; exact grow_of (var_spec _ _ (by omega))) | (go_at_call 40; exact grow_same (joined_spec _ _ _ _ _ (hatl.keep (Grow.below _)) (by omega)))))
        refine wpQuiet_nil ?_
        intro _ hw'
        obtain ⟨⟨w2, hb2⟩, hw''⟩ := hw'
        change _ = w2 at hw''
        subst hw''
        go_wp2
        exact ⟨⟨k + 1, by omega, by go_num, by rw [HS.out, HN.out], bthen hb hb2⟩, by simp [intOf]; omega⟩
      · go_wp2
        go_returns
        have : k = l.length := by have := HL.out; omega
        subst this
        exact ⟨rfl, hb⟩
theorem treeText_impl (A : Option Addr) (n c : Nat) (l : List Ent) (w : World) (h : EntsAt w A n l) (hs : entsSz l ≤ 1048576) :
    Calls Try.prog 7 #[.slice A n c] w fun e w' => e = .returned (.string (treeText l)) ∧ Below w.heap.size w w' := treeText_impl2 A n c l w h (by omega)
theorem treeText_spec (A : Option Addr) (n c : Nat) (l : List Ent) (w : World) (h : EntsAt w A n l) (hs : entsSz l ≤ 1048576) :
    Calls Try.prog 11 #[.slice A n c] w fun e w' => e = .returned (.string (treeText l)) ∧ Below w.heap.size w w' := treeText_spec2 A n c l w h (by omega)
end Go.Proofs.Ytbijkdpifnncmaa
/- Plain laws of reading: a text that is put together of pieces is cut again. -/
namespace Go.Proofs.Ytbijkdpifnncmaa

theorem ext_left (a b : ByteArray) : (a ++ b).extract 0 a.size = a := by
  apply ByteArray.ext
  rw [ByteArray.data_extract, ByteArray.data_append]
  show (a.data ++ b.data).extract 0 a.data.size = a.data
  simp
theorem ext_right (a b : ByteArray) : (a ++ b).extract a.size (a ++ b).size = b := by
  rw [show (a ++ b).size = a.size + b.size from ByteArray.size_append, ByteArray.extract_append_eq_right rfl (by omega)]
theorem bAt_left {a b : ByteArray} {i : Nat} (h : i < a.size) : bAt (a ++ b) i = bAt a i := by
  unfold bAt
  rw [dif_pos (by rw [ByteArray.size_append]; omega), dif_pos h, ByteArray.getElem_append_left h]
theorem varS_sz (n : Nat) : (varS n).size = (varL n).length := by show (varL n).toArray.size = _; simp
theorem begins_var (n : Nat) (t : ByteArray) : Begins (varS n ++ t) (varL n) := by
  refine ⟨by rw [ByteArray.size_append, varS_sz]; omega, fun i hi => ?_⟩
  rw [bAt_left (by rw [varS_sz]; exact hi)]
  unfold bAt
  rw [dif_pos (by rw [varS_sz]; exact hi)]
  rfl
theorem rvF_var {n : Nat} (hn : n ≤ 562949953421311) (t : ByteArray) : rvF (varS n ++ t) = (n, (varS n).size) := by
  rw [rvF_yes hn (begins_var n t), varS_sz]
theorem varS_pos (n : Nat) : 0 < (varS n).size := by rw [varS_sz]; exact List.length_pos_iff.2 (varL_ne n)

/-- texts, one behind the other -/
def chL : List ByteArray → ByteArray
  | [] => .empty
  | c :: cs => c ++ chL cs
theorem chL_app (a b : List ByteArray) : chL (a ++ b) = chL a ++ chL b := by
  induction a with
  | nil => simp [chL]
  | cons x a ih => simp only [List.cons_append, chL, ih, ByteArray.append_assoc]
theorem joinTo_chL (l : List ByteArray) : ∀ k, k ≤ l.length → joinTo l k = chL (l.take k)
  | 0, _ => by simp [joinTo, chL]
  | k + 1, h => by
    have e : sAt l k = l[k]'(by omega) := by simp [sAt, show k < l.length by omega]
    rw [List.take_succ_eq_append_getElem (by omega), chL_app, ← joinTo_chL l k (by omega), joinTo, e]
    simp [chL]
theorem joinS_chL (l : List ByteArray) : joinS l = chL l := by unfold joinS; rw [joinTo_chL l _ (Nat.le_refl _), List.take_length]
/-- the text of entries, from the first on -/
def restL : List Ent → ByteArray
  | [] => .empty
  | e :: l => varS e.p.size ++ (e.p ++ (varS e.ch.length ++ (chL e.ch ++ restL l)))
theorem restL_app (a b : List Ent) : restL (a ++ b) = restL a ++ restL b := by
  induction a with
  | nil => simp [restL]
  | cons x a ih => simp only [List.cons_append, restL, ih, ByteArray.append_assoc]
theorem textTo_restL (l : List Ent) : ∀ k, k ≤ l.length → textTo l k = restL (l.take k)
  | 0, _ => by simp [textTo, restL]
  | k + 1, h => by
    have e : enAt l k = l[k]'(by omega) := enAt_get (by omega)
    rw [List.take_succ_eq_append_getElem (by omega), restL_app, ← textTo_restL l k (by omega), textTo, e, joinS_chL]
    simp only [restL, ByteArray.append_assoc, ByteArray.append_empty]
theorem treeText_restL {l : List Ent} (h : treeOkB l = true) : treeText l = restL l := by
  unfold treeText
  rw [if_pos h, textTo_restL l _ (Nat.le_refl _), List.take_length]
theorem restL_drop {l : List Ent} {k : Nat} (h : k < l.length) : restL (l.drop k) = varS (enAt l k).p.size ++ ((enAt l k).p ++ (varS (enAt l k).ch.length ++ (chL (enAt l k).ch ++ restL (l.drop (k + 1))))) := by
  rw [enAt_get h, List.drop_eq_getElem_cons h]
  rfl
theorem chL_drop {l : List ByteArray} {k : Nat} (h : k < l.length) : chL (l.drop k) = sAt l k ++ chL (l.drop (k + 1)) := by
  rw [show sAt l k = l[k] by simp [sAt, h], List.drop_eq_getElem_cons h]
  rfl
end Go.Proofs.Ytbijkdpifnncmaa
