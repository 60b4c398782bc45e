/- Contract of the reference's TreePut. -/
import Derived.Test.YtbijkdpifnncmaaTreePut
namespace Go.Proofs.Ytbijkdpifnncmaa
open Go.RowKit
attribute [local irreducible] StrsAt treeOkB

/-- the put on its way: is e put? what is out? -/
def spStep (e : Ent) (s : Bool × List Ent) (x : Ent) : Bool × List Ent :=
  let s1 := if s.1 = false ∧ ltS x.p e.p = false then (true, s.2 ++ [e]) else s
  if x.p = e.p then s1 else (s1.1, s1.2 ++ [x])
def spT (e : Ent) (l : List Ent) : Bool × List Ent := l.foldl (spStep e) (false, [])
def spEnd (e : Ent) (s : Bool × List Ent) : List Ent := if s.1 = true then s.2 else s.2 ++ [e]
theorem spT_snoc (e : Ent) (l : List Ent) (x : Ent) : spT e (l ++ [x]) = spStep e (spT e l) x := by simp [spT]
theorem sp_true (e : Ent) (l o : List Ent) : l.foldl (spStep e) (true, o) = (true, o ++ l.filter (fun x => !decide (x.p = e.p))) := by
  induction l generalizing o with
  | nil => simp
  | cons x l ih =>
    rw [List.foldl_cons]
    by_cases h : x.p = e.p
    · rw [show spStep e (true, o) x = (true, o) by simp [spStep, h], ih]; simp [h]
    · rw [show spStep e (true, o) x = (true, o ++ [x]) by simp [spStep, h], ih]; simp [h]
theorem sp_false (e : Ent) (l o : List Ent) : spEnd e (l.foldl (spStep e) (false, o)) = o ++ insL l e := by
  induction l generalizing o with
  | nil => simp [spEnd, insL]
  | cons x l ih =>
    rw [List.foldl_cons]
    cases h : ltS x.p e.p
    · unfold insL
      by_cases h2 : x.p = e.p
      · have h' : ltS e.p e.p = false := ltS_irr _
        rw [show spStep e (false, o) x = (true, o ++ [e]) by simp [spStep, h2, h'], sp_true]
        simp [spEnd, h2, h']
      · rw [show spStep e (false, o) x = (true, o ++ [e] ++ [x]) by simp [spStep, h, h2], sp_true]
        simp [spEnd, h, h2]
    · have h2 : ¬ x.p = e.p := fun hh => by rw [hh, ltS_irr] at h; cases h
      rw [show spStep e (false, o) x = (false, o ++ [x]) by simp [spStep, h, h2], ih]
      simp [insL, h]
theorem sp_end (e : Ent) (l : List Ent) : spEnd e (spT e l) = insL l e := by
  have := sp_false e l []
  simpa [spT] using this
theorem spT_len (e : Ent) (l : List Ent) : (spT e l).2.length ≤ l.length + 1 := by
  have : ∀ (l : List Ent) (s : Bool × List Ent), (l.foldl (spStep e) s).2.length + (if s.1 = true then 1 else 0) ≤ s.2.length + l.length + (if (l.foldl (spStep e) s).1 = true then 1 else 0) := by
    intro l
    induction l with
    | nil => intro s; simp only [List.foldl_nil, List.length_nil, Nat.add_zero]; exact Nat.le_refl _
    | cons y l ih =>
      intro s
      rw [List.foldl_cons]
      have h1 := ih (spStep e s y)
      have h2 : (spStep e s y).2.length + (if s.1 = true then 1 else 0) ≤ s.2.length + 1 + (if (spStep e s y).1 = true then 1 else 0) := by
        obtain ⟨q, o⟩ := s
        unfold spStep
        cases q <;> cases ltS y.p e.p <;> by_cases h : y.p = e.p <;> simp [h]
      rw [List.length_cons]; omega
  have := this l (false, [])
  unfold spT
  simp only [Bool.false_eq_true, if_false, List.length_nil] at this
  split at this <;> omega

set_option maxRecDepth 4000 in
set_option maxHeartbeats 1000000 in
theorem treePut_spec (A : Option Addr) (n c : Nat) (l : List Ent) (p : ByteArray) (Ae : Option Addr) (ne ce : Nat) (ch : List ByteArray) (w : World) (h : EntsAt w A n l) (hc : StrsAt w Ae ne ch) (hce : Ae = none → ce = 0) (hs : entsSz l + entSz ⟨p, ch⟩ ≤ 1048576) :
    Calls Try.prog 15 #[.slice A n c, .agg #[.string p, .slice Ae ne ce]] w (EntsBR (putL l ⟨p, ch⟩) (putOk l ⟨p, ch⟩) w) := by
  have HL := Lib.hid h.1
  have hsl : entsSz l ≤ 1048576 := by omega
  have hn := ents_n h hsl
  have al := fun o => (Below.refl w.heap.size w).alloc (Nat.le_refl _) o
  obtain ⟨t, ht⟩ : ∃ t, treeOkB l = t := ⟨_, rfl⟩
  have HQ := Lib.hid ht
  cases t
  · have HR := Lib.hid (show putL l ⟨p, ch⟩ = [] by simp [putL, ht])
    have HN := Lib.hid (show putOk l ⟨p, ch⟩ = false by simp [putOk, ht])
    clear ht
    rw [HR.out, HN.out]
    go_enter Try.func15, Try.ntmps15
    go_wp2_with fail
    refine (treeOk_spec _ _ _ l _ (h.keep (al _)) hsl).mono ?_
    rintro e w1 ⟨rfl, hb1⟩; rw [HQ.out]
    have hbw := bthen (al _) hb1
    have hown := RowIn.of_own (own_empty w1 33 2 (Nat.le_refl w1.heap.size))
    go_wp2
    go_returns
    exact ⟨_, 0, 0, rfl, ⟨[], hown.wide hbw.size (Nat.le_refl _), SubsIn.nil, (fun _ h => by cases h), rfl⟩, bthen hbw ((Below.refl _ _).alloc (Nat.le_refl _) _)⟩
  · have HR := Lib.hid (show putL l ⟨p, ch⟩ = if treeOkB (insL l ⟨p, ch⟩) = true then insL l ⟨p, ch⟩ else l by simp [putL, ht])
    have HN := Lib.hid (show putOk l ⟨p, ch⟩ = treeOkB (insL l ⟨p, ch⟩) by simp [putOk, ht])
    clear ht
    go_enter Try.func15, Try.ntmps15
    go_wp2_with fail
    refine (treeOk_spec _ _ _ l _ (h.keep (al _)) hsl).mono ?_
    rintro e w1 ⟨rfl, hb1⟩; rw [HQ.out]
    have hb1w := bthen (al _) hb1
    have hB1 := keep_cell hb1 (show (w.alloc (.cells #[.string p, .slice Ae ne ce] 33)).cell? ⟨w.heap.size, 0, none⟩ = some (.string p) by simp [go_sem])
    have hC1 := keep_cell hb1 (show (w.alloc (.cells #[.string p, .slice Ae ne ce] 33)).cell? ⟨w.heap.size, 1, none⟩ = some (.slice Ae ne ce) by simp [go_sem])
    have hlt := cell_lt hB1
    have hown1 := own_empty w1 33 2 (Nat.le_refl w1.heap.size)
    go_wp2
    go_loopw [6, 7, 8] (fun o q i wr => ∃ (k : Nat) (O : Option Addr) (cap : Nat) (xs : List Value) (sp : Bool) (so : List Ent), k ≤ n ∧ spT ⟨p, ch⟩ (l.take k) = (sp, so) ∧ i = .int .i64 k ∧ q = .bool sp ∧ o = .slice O so.length cap ∧
      wr.ownsRow w1.heap.size 33 2 (.slice O so.length cap) so.length xs ∧ EntCells w xs so ∧ Below w1.heap.size w1 wr) (fun _ _ i _ => n - (intOf i).toNat)
    case atStart => exact ⟨0, _, 0, [], false, [], Nat.zero_le _, by simp [spT], rfl, rfl, rfl, hown1, (fun i hi => by simp at hi), (Below.refl _ _).alloc (Nat.le_refl _) _⟩
    case round =>
      obtain ⟨k, O, cap, xs, sp, so, hk, hsp, rfl, rfl, rfl, hown, hcells, hb⟩ := hrel
      have hlen : so.length ≤ k + 1 := by have := spT_len ⟨p, ch⟩ (l.take k); rw [hsp, List.length_take] at this; simp only at this; omega
      have hBr := keep_cell hb hB1
      have hCr := keep_cell hb hC1
      have hbw := bthen hb1w hb
      have hz := hb.size
      by_cases hlk : k < n
      · obtain ⟨b, off, rfl, hbl, hcc⟩ := h.at_ (by omega)
        obtain ⟨hp0, A', n', c', hc0, hat, hcap⟩ := hcc k hlk
        have hpk := (hbw.cell (p := ⟨b, off + k * 2, none⟩) hbl).trans hp0
        have hck := (hbw.cell (p := ⟨b, off + k * 2 + 1, none⟩) hbl).trans hc0
        have hbw1 : b < w1.heap.size := Nat.lt_of_lt_of_le hbl hb1w.size
        clear hcc hc0 hp0
        have HST := Lib.hid (show spT ⟨p, ch⟩ (l.take (k + 1)) = spStep ⟨p, ch⟩ (sp, so) (enAt l k) by
          rw [take_snoc2 l k (by have := HL.out; omega), spT_snoc, hsp, enAt_get (by have := HL.out; omega)])
        clear hsp
        obtain ⟨q, hq⟩ : ∃ q, Op.bytesLess (enAt l k).p.toList p.toList = q := ⟨_, rfl⟩
        obtain ⟨q2, hq2⟩ : ∃ q, decide ((enAt l k).p = p) = q := ⟨_, rfl⟩
        have hd : ((enAt l k).p.toList == p.toList) = q2 := by rw [str_beq]; exact hq2
        have HXL := Lib.hid hown.1
        have HCE := Lib.hid (hcells.snoc (x := ⟨p, ch⟩) hown.1 hc hce)
        cases sp
        · cases q
          · have hq' : ltS (enAt l k).p p = false := hq
            cases q2
            · have hn2 := of_decide_eq_false hq2
              have HE := Lib.hid (show spStep ⟨p, ch⟩ (false, so) (enAt l k) = (true, so ++ [⟨p, ch⟩] ++ [enAt l k]) by simp [spStep, hq', hn2])
              clear hq2 hn2 hq'
              go_wp2
              go_quiet (fail)
              replace hown : (wr.drewN nq).ownsRow w1.heap.size 33 2 (.slice O so.length cap) so.length xs := hown
              replace hb := below_drewN hb nq
              replace hbw := below_drewN hbw nq
              replace hz := hb.size
              replace hpk : (wr.drewN nq).cell? ⟨b, off + k * 2, none⟩ = some (.string (enAt l k).p) := hpk
              replace hck : (wr.drewN nq).cell? ⟨b, off + k * 2 + 1, none⟩ = some (.slice A' n' c') := hck
              replace hBr : (wr.drewN nq).cell? ⟨w.heap.size, 0, none⟩ = some (.string p) := hBr
              replace hCr : (wr.drewN nq).cell? ⟨w.heap.size, 1, none⟩ = some (.slice Ae ne ce) := hCr
              generalize wr.drewN nq = wr at *
              go_wp2_with ((at_builtin; refine wpList_app1 (P := Try.prog) wr rfl (.tmp 32) (.tmp 34) 24 rfl w1.heap.size 33 _ 2 40 Try.underlying24 infoEntry rfl (by omega) (.slice O _ cap) _ _ rfl hown #[.string p, .slice Ae ne ce] rfl rfl (by simp [Value.oneCell']) (by unfold maxLen; omega) (by omega) hz ?_; intro O2 cap2 w3 hown3 hg3 hb3 _); clear hown; have hown : w3.ownsRow w1.heap.size 33 2 (.slice O2 (so.length + 1) cap2) (so.length + 1) (xs ++ [.string p, .slice Ae ne ce]) := hown3; clear hown3; replace hb := hb.trans hb3; replace hbw := hbw.trans (hb3.mono (Nat.le_of_lt hlt)); replace hz := hb.size; replace hpk := (hb3.cell (p := ⟨b, off + k * 2, none⟩) hbw1).trans hpk; replace hck := (hb3.cell (p := ⟨b, off + k * 2 + 1, none⟩) hbw1).trans hck; replace hBr := (hb3.cell (p := ⟨w.heap.size, 0, none⟩) hlt).trans hBr; replace hCr := (hb3.cell (p := ⟨w.heap.size, 1, none⟩) hlt).trans hCr; clear hb3 hg3)
              go_quiet (fail)
              replace hown : (w3.drewN nq).ownsRow w1.heap.size 33 2 (.slice O2 (so.length + 1) cap2) (so.length + 1) (xs ++ [.string p, .slice Ae ne ce]) := hown
              replace hb := below_drewN hb nq
              replace hbw := below_drewN hbw nq
              replace hz := hb.size
              replace hpk : (w3.drewN nq).cell? ⟨b, off + k * 2, none⟩ = some (.string (enAt l k).p) := hpk
              replace hck : (w3.drewN nq).cell? ⟨b, off + k * 2 + 1, none⟩ = some (.slice A' n' c') := hck
              replace hBr : (w3.drewN nq).cell? ⟨w.heap.size, 0, none⟩ = some (.string p) := hBr
              replace hCr : (w3.drewN nq).cell? ⟨w.heap.size, 1, none⟩ = some (.slice Ae ne ce) := hCr
              generalize w3.drewN nq = w3 at *
              go_wp2_with (at_builtin; refine wpList_app1 (P := Try.prog) w3 rfl (.tmp 44) (.tmp 49) 24 rfl w1.heap.size 33 _ 2 40 Try.underlying24 infoEntry rfl (by omega) (.slice O2 _ cap2) _ _ rfl hown #[.string (enAt l k).p, .slice A' n' c'] rfl rfl (by simp [Value.oneCell']) (by unfold maxLen; omega) (by omega) hz ?_; intro O4 cap4 w4 hown4 hg4 hb4 _)
              have HXM := Lib.hid hown.1
              refine ⟨⟨k + 1, O4, cap4, xs ++ [.string p, .slice Ae ne ce] ++ [.string (enAt l k).p, .slice A' n' c'], true, so ++ [⟨p, ch⟩] ++ [enAt l k], by omega, by rw [HST.out, HE.out], by go_num, rfl, by simp, by simpa using hown4, HCE.out.snoc (x := enAt l k) (by simpa using HXM.out) hat hcap, hb.trans hb4⟩, by simp [intOf]; omega⟩
            · have hn2 := of_decide_eq_true hq2
              have HE := Lib.hid (show spStep ⟨p, ch⟩ (false, so) (enAt l k) = (true, so ++ [⟨p, ch⟩]) by simp only [spStep]; rw [if_pos hn2, if_pos ⟨trivial, hq'⟩])
              clear hq2 hn2 hq'
              go_wp2
              go_quiet (fail)
              replace hown : (wr.drewN nq).ownsRow w1.heap.size 33 2 (.slice O so.length cap) so.length xs := hown
              replace hb := below_drewN hb nq
              replace hbw := below_drewN hbw nq
              replace hz := hb.size
              replace hpk : (wr.drewN nq).cell? ⟨b, off + k * 2, none⟩ = some (.string (enAt l k).p) := hpk
              replace hck : (wr.drewN nq).cell? ⟨b, off + k * 2 + 1, none⟩ = some (.slice A' n' c') := hck
              replace hBr : (wr.drewN nq).cell? ⟨w.heap.size, 0, none⟩ = some (.string p) := hBr
              replace hCr : (wr.drewN nq).cell? ⟨w.heap.size, 1, none⟩ = some (.slice Ae ne ce) := hCr
              generalize wr.drewN nq = wr at *
              go_wp2_with ((at_builtin; refine wpList_app1 (P := Try.prog) wr rfl (.tmp 32) (.tmp 34) 24 rfl w1.heap.size 33 _ 2 40 Try.underlying24 infoEntry rfl (by omega) (.slice O _ cap) _ _ rfl hown #[.string p, .slice Ae ne ce] rfl rfl (by simp [Value.oneCell']) (by unfold maxLen; omega) (by omega) hz ?_; intro O2 cap2 w3 hown3 hg3 hb3 _); clear hown; have hown : w3.ownsRow w1.heap.size 33 2 (.slice O2 (so.length + 1) cap2) (so.length + 1) (xs ++ [.string p, .slice Ae ne ce]) := hown3; clear hown3; replace hb := hb.trans hb3; replace hbw := hbw.trans (hb3.mono (Nat.le_of_lt hlt)); replace hz := hb.size; replace hpk := (hb3.cell (p := ⟨b, off + k * 2, none⟩) hbw1).trans hpk; replace hck := (hb3.cell (p := ⟨b, off + k * 2 + 1, none⟩) hbw1).trans hck; replace hBr := (hb3.cell (p := ⟨w.heap.size, 0, none⟩) hlt).trans hBr; replace hCr := (hb3.cell (p := ⟨w.heap.size, 1, none⟩) hlt).trans hCr; clear hb3 hg3)
              go_quiet (fail)
              replace hown : (w3.drewN nq).ownsRow w1.heap.size 33 2 (.slice O2 (so.length + 1) cap2) (so.length + 1) (xs ++ [.string p, .slice Ae ne ce]) := hown
              replace hb := below_drewN hb nq
              replace hbw := below_drewN hbw nq
              replace hz := hb.size
              replace hpk : (w3.drewN nq).cell? ⟨b, off + k * 2, none⟩ = some (.string (enAt l k).p) := hpk
              replace hck : (w3.drewN nq).cell? ⟨b, off + k * 2 + 1, none⟩ = some (.slice A' n' c') := hck
              replace hBr : (w3.drewN nq).cell? ⟨w.heap.size, 0, none⟩ = some (.string p) := hBr
              replace hCr : (w3.drewN nq).cell? ⟨w.heap.size, 1, none⟩ = some (.slice Ae ne ce) := hCr
              generalize w3.drewN nq = w3 at *
              go_wp2
              refine ⟨⟨k + 1, O2, cap2, xs ++ [.string p, .slice Ae ne ce], true, so ++ [⟨p, ch⟩], by omega, by rw [HST.out, HE.out], by go_num, rfl, by simp, by simpa using hown, HCE.out, hb⟩, by simp [intOf]; omega⟩
          · have H2 : q2 = false := by
              cases q2
              · rfl
              · have := of_decide_eq_true hq2; rw [this] at hq; have hi := ltS_irr p; unfold ltS at hi; rw [hi] at hq; cases hq
            subst H2
            have HE := Lib.hid (show spStep ⟨p, ch⟩ (false, so) (enAt l k) = (false, so ++ [enAt l k]) by
              have hq' : ltS (enAt l k).p p = true := hq
              have hn2 := of_decide_eq_false hq2
              simp [spStep, hq', hn2])
            clear hq2
            go_wp2
            go_quiet (fail)
            replace hown : (wr.drewN nq).ownsRow w1.heap.size 33 2 (.slice O so.length cap) so.length xs := hown
            replace hb := below_drewN hb nq
            replace hbw := below_drewN hbw nq
            replace hz := hb.size
            replace hpk : (wr.drewN nq).cell? ⟨b, off + k * 2, none⟩ = some (.string (enAt l k).p) := hpk
            replace hck : (wr.drewN nq).cell? ⟨b, off + k * 2 + 1, none⟩ = some (.slice A' n' c') := hck
            replace hBr : (wr.drewN nq).cell? ⟨w.heap.size, 0, none⟩ = some (.string p) := hBr
            replace hCr : (wr.drewN nq).cell? ⟨w.heap.size, 1, none⟩ = some (.slice Ae ne ce) := hCr
            generalize wr.drewN nq = wr at *
            go_wp2
            go_quiet (fail)
            replace hown : (wr.drewN nq).ownsRow w1.heap.size 33 2 (.slice O so.length cap) so.length xs := hown
            replace hb := below_drewN hb nq
            replace hbw := below_drewN hbw nq
            replace hz := hb.size
            replace hpk : (wr.drewN nq).cell? ⟨b, off + k * 2, none⟩ = some (.string (enAt l k).p) := hpk
            replace hck : (wr.drewN nq).cell? ⟨b, off + k * 2 + 1, none⟩ = some (.slice A' n' c') := hck
            replace hBr : (wr.drewN nq).cell? ⟨w.heap.size, 0, none⟩ = some (.string p) := hBr
            replace hCr : (wr.drewN nq).cell? ⟨w.heap.size, 1, none⟩ = some (.slice Ae ne ce) := hCr
            generalize wr.drewN nq = wr at *
            go_wp2_with (at_builtin; refine wpList_app1 (P := Try.prog) wr rfl (.tmp 44) (.tmp 49) 24 rfl w1.heap.size 33 _ 2 40 Try.underlying24 infoEntry rfl (by omega) (.slice O _ cap) _ _ rfl hown #[.string (enAt l k).p, .slice A' n' c'] rfl rfl (by simp [Value.oneCell']) (by unfold maxLen; omega) (by omega) hz ?_; intro O2 cap2 w3 hown3 hg3 hb3 _)
            refine ⟨⟨k + 1, O2, cap2, xs ++ [.string (enAt l k).p, .slice A' n' c'], false, so ++ [enAt l k], by omega, by rw [HST.out, HE.out], by go_num, rfl, by simp, by simpa using hown3, hcells.snoc (x := enAt l k) HXL.out hat hcap, hb.trans hb3⟩, by simp [intOf]; omega⟩
        · cases q2
          · have hn2 := of_decide_eq_false hq2
            have HE := Lib.hid (show spStep ⟨p, ch⟩ (true, so) (enAt l k) = (true, so ++ [enAt l k]) by simp [spStep, hn2])
            clear hq2 hn2
            go_wp2
            go_quiet (fail)
            replace hown : (wr.drewN nq).ownsRow w1.heap.size 33 2 (.slice O so.length cap) so.length xs := hown
            replace hb := below_drewN hb nq
            replace hbw := below_drewN hbw nq
            replace hz := hb.size
            replace hpk : (wr.drewN nq).cell? ⟨b, off + k * 2, none⟩ = some (.string (enAt l k).p) := hpk
            replace hck : (wr.drewN nq).cell? ⟨b, off + k * 2 + 1, none⟩ = some (.slice A' n' c') := hck
            replace hBr : (wr.drewN nq).cell? ⟨w.heap.size, 0, none⟩ = some (.string p) := hBr
            replace hCr : (wr.drewN nq).cell? ⟨w.heap.size, 1, none⟩ = some (.slice Ae ne ce) := hCr
            generalize wr.drewN nq = wr at *
            go_wp2
            go_quiet (fail)
            replace hown : (wr.drewN nq).ownsRow w1.heap.size 33 2 (.slice O so.length cap) so.length xs := hown
            replace hb := below_drewN hb nq
            replace hbw := below_drewN hbw nq
            replace hz := hb.size
            replace hpk : (wr.drewN nq).cell? ⟨b, off + k * 2, none⟩ = some (.string (enAt l k).p) := hpk
            replace hck : (wr.drewN nq).cell? ⟨b, off + k * 2 + 1, none⟩ = some (.slice A' n' c') := hck
            replace hBr : (wr.drewN nq).cell? ⟨w.heap.size, 0, none⟩ = some (.string p) := hBr
            replace hCr : (wr.drewN nq).cell? ⟨w.heap.size, 1, none⟩ = some (.slice Ae ne ce) := hCr
            generalize wr.drewN nq = wr at *
            go_wp2_with (at_builtin; refine wpList_app1 (P := Try.prog) wr rfl (.tmp 44) (.tmp 49) 24 rfl w1.heap.size 33 _ 2 40 Try.underlying24 infoEntry rfl (by omega) (.slice O _ cap) _ _ rfl hown #[.string (enAt l k).p, .slice A' n' c'] rfl rfl (by simp [Value.oneCell']) (by unfold maxLen; omega) (by omega) hz ?_; intro O2 cap2 w3 hown3 hg3 hb3 _)
            refine ⟨⟨k + 1, O2, cap2, xs ++ [.string (enAt l k).p, .slice A' n' c'], true, so ++ [enAt l k], by omega, by rw [HST.out, HE.out], by go_num, rfl, by simp, by simpa using hown3, hcells.snoc (x := enAt l k) HXL.out hat hcap, hb.trans hb3⟩, by simp [intOf]; omega⟩
          · have hn2 := of_decide_eq_true hq2
            have HE := Lib.hid (show spStep ⟨p, ch⟩ (true, so) (enAt l k) = (true, so) by simp [spStep, hn2])
            clear hq2 hn2
            go_wp2
            go_quiet (fail)
            replace hown : (wr.drewN nq).ownsRow w1.heap.size 33 2 (.slice O so.length cap) so.length xs := hown
            replace hb := below_drewN hb nq
            replace hbw := below_drewN hbw nq
            replace hz := hb.size
            replace hpk : (wr.drewN nq).cell? ⟨b, off + k * 2, none⟩ = some (.string (enAt l k).p) := hpk
            replace hck : (wr.drewN nq).cell? ⟨b, off + k * 2 + 1, none⟩ = some (.slice A' n' c') := hck
            replace hBr : (wr.drewN nq).cell? ⟨w.heap.size, 0, none⟩ = some (.string p) := hBr
            replace hCr : (wr.drewN nq).cell? ⟨w.heap.size, 1, none⟩ = some (.slice Ae ne ce) := hCr
            generalize wr.drewN nq = wr at *
            go_wp2
            go_quiet (fail)
            replace hown : (wr.drewN nq).ownsRow w1.heap.size 33 2 (.slice O so.length cap) so.length xs := hown
            replace hb := below_drewN hb nq
            replace hbw := below_drewN hbw nq
            replace hz := hb.size
            replace hpk : (wr.drewN nq).cell? ⟨b, off + k * 2, none⟩ = some (.string (enAt l k).p) := hpk
            replace hck : (wr.drewN nq).cell? ⟨b, off + k * 2 + 1, none⟩ = some (.slice A' n' c') := hck
            replace hBr : (wr.drewN nq).cell? ⟨w.heap.size, 0, none⟩ = some (.string p) := hBr
            replace hCr : (wr.drewN nq).cell? ⟨w.heap.size, 1, none⟩ = some (.slice Ae ne ce) := hCr
            generalize wr.drewN nq = wr at *
            go_wp2
            refine ⟨⟨k + 1, O, cap, xs, true, so, by omega, by rw [HST.out, HE.out], by go_num, rfl, rfl, hown, hcells, hb⟩, by simp [intOf]; omega⟩
      · obtain rfl : k = n := by omega
        have hE := sp_end ⟨p, ch⟩ l
        rw [show l.take k = l from List.take_of_length_le (by have := HL.out; omega)] at hsp
        rw [hsp] at hE
        clear hsp
        have hsI : entsSz (insL l ⟨p, ch⟩) ≤ 1048577 := Nat.le_trans (insL_sz _ _) (by omega)
        cases sp
        · have HI := Lib.hid (show insL l ⟨p, ch⟩ = so ++ [⟨p, ch⟩] from hE.symm)
          have HCE := hcells.snoc (x := ⟨p, ch⟩) hown.1 hc hce
          clear hE
          go_wp2_with (first | ((at_builtin; refine wpList_app1 (P := Try.prog) wr rfl (.tmp 53) (.tmp 55) 24 rfl w1.heap.size 33 _ 2 40 Try.underlying24 infoEntry rfl (by omega) (.slice O _ cap) _ _ rfl hown #[.string p, .slice Ae ne ce] rfl rfl (by simp [Value.oneCell']) (by unfold maxLen; omega) (by omega) hz ?_; intro O2 cap2 w3 hown3 hg3 hb3 _); clear hown; have hown : w3.ownsRow w1.heap.size 33 2 (.slice O2 (so.length + 1) cap2) (so.length + 1) (xs ++ [.string p, .slice Ae ne ce]) := hown3; clear hown3; replace hbw := hbw.trans (hb3.mono (Nat.le_of_lt hlt))) | fail)
          have hat2 := EntsAt.of_cells hown (by simp) (HCE.keep hbw)
          go_wp2_with fail
          refine (treeOk_spec1 _ _ _ (insL l ⟨p, ch⟩) _ (by rw [HI.out]; exact hat2) hsI).mono ?_
          rintro e w6 ⟨rfl, hb6⟩
          have hbw6 := bthen hbw hb6
          have hat3 := hat2.keep hb6
          clear hat2
          obtain ⟨t, ht⟩ : ∃ t, treeOkB (insL l ⟨p, ch⟩) = t := ⟨_, rfl⟩
          have HQ2 := Lib.hid ht
          have HR2 := HR.out
          rw [ht] at HR2 ⊢
          clear ht
          cases t
          · have HR3 := Lib.hid (show putL l ⟨p, ch⟩ = l by rw [HR2]; simp)
            clear HR2
            go_wp2_with fail
            refine (l30Copy_spec _ _ _ l _ (h.keep hbw6) hsl).mono ?_
            rintro e w7 ⟨A7, n7, c7, rfl, hin7, hb7⟩
            go_wp2
            go_returns
            refine ⟨A7, n7, c7, ?_, by rw [HR3.out]; exact hin7.wide hbw6.size (Nat.le_refl _), bthen hbw6 hb7⟩
            rw [HN.out, HQ2.out]
            rfl
          · have HR3 := Lib.hid (show putL l ⟨p, ch⟩ = insL l ⟨p, ch⟩ by rw [HR2]; simp)
            clear HR2
            go_wp2_with fail
            refine (l30Copy_spec1 _ _ _ (insL l ⟨p, ch⟩) _ (by rw [HI.out]; exact hat3) hsI).mono ?_
            rintro e w7 ⟨A7, n7, c7, rfl, hin7, hb7⟩
            go_wp2
            go_returns
            refine ⟨A7, n7, c7, ?_, by rw [HR3.out]; exact hin7.wide hbw6.size (Nat.le_refl _), bthen hbw6 hb7⟩
            rw [HN.out, HQ2.out]
            rfl
        · have HI := Lib.hid (show insL l ⟨p, ch⟩ = so from hE.symm)
          clear hE
          have hat2 := EntsAt.of_cells hown (by simp) (hcells.keep hbw)
          go_wp2_with fail
          refine (treeOk_spec1 _ _ _ (insL l ⟨p, ch⟩) _ (by rw [HI.out]; exact hat2) hsI).mono ?_
          rintro e w6 ⟨rfl, hb6⟩
          have hbw6 := bthen hbw hb6
          have hat3 := hat2.keep hb6
          clear hat2
          obtain ⟨t, ht⟩ : ∃ t, treeOkB (insL l ⟨p, ch⟩) = t := ⟨_, rfl⟩
          have HQ2 := Lib.hid ht
          have HR2 := HR.out
          rw [ht] at HR2 ⊢
          clear ht
          cases t
          · have HR3 := Lib.hid (show putL l ⟨p, ch⟩ = l by rw [HR2]; simp)
            clear HR2
            go_wp2_with fail
            refine (l30Copy_spec _ _ _ l _ (h.keep hbw6) hsl).mono ?_
            rintro e w7 ⟨A7, n7, c7, rfl, hin7, hb7⟩
            go_wp2
            go_returns
            refine ⟨A7, n7, c7, ?_, by rw [HR3.out]; exact hin7.wide hbw6.size (Nat.le_refl _), bthen hbw6 hb7⟩
            rw [HN.out, HQ2.out]
            rfl
          · have HR3 := Lib.hid (show putL l ⟨p, ch⟩ = insL l ⟨p, ch⟩ by rw [HR2]; simp)
            clear HR2
            go_wp2_with fail
            refine (l30Copy_spec1 _ _ _ (insL l ⟨p, ch⟩) _ (by rw [HI.out]; exact hat3) hsI).mono ?_
            rintro e w7 ⟨A7, n7, c7, rfl, hin7, hb7⟩
            go_wp2
            go_returns
            refine ⟨A7, n7, c7, ?_, by rw [HR3.out]; exact hin7.wide hbw6.size (Nat.le_refl _), bthen hbw6 hb7⟩
            rw [HN.out, HQ2.out]
            rfl
end Go.Proofs.Ytbijkdpifnncmaa
