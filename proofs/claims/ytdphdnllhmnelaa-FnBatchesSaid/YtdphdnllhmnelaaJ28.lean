/- Contracts and lemmas: Prune. -/
import Derived.Test.YtdphdnllhmnelaaJ26
import Derived.Test.YtdphdnllhmnelaaJ27
/- What the program does to a set of its own: prune. -/
namespace Go.Proofs.Ytdphdnllhmnelaa
open Go.RowKit
attribute [local go_sem] Grow.cell Grow.frozen
/-- snapshots without a tag among the first k -/
def bareTo (l : List Snp) : Nat → Nat
  | 0 => 0
  | k + 1 => bareTo l k + if (snpAt l k).tg = ByteArray.empty then 1 else 0
theorem bareTo_le (l : List Snp) : ∀ k, bareTo l k ≤ k
  | 0 => Nat.le_refl _
  | k + 1 => by have := bareTo_le l k; unfold bareTo; split <;> omega
/-- how many go -/
def goneN (l : List Snp) (keep : Nat) : Nat := bareTo l l.length - keep
/-- the first g without a tag go -/
def pruL : List Snp → Nat → List Snp
  | [], _ => []
  | p :: l, g => if p.tg = ByteArray.empty ∧ 0 < g then pruL l (g - 1) else p :: pruL l g
theorem pruL_drop {l : List Snp} {k : Nat} {x : Snp} (g : Nat) (hx : l[k]? = some x) : pruL (l.drop k) g = if x.tg = ByteArray.empty ∧ 0 < g then pruL (l.drop (k + 1)) (g - 1) else x :: pruL (l.drop (k + 1)) g := by
  obtain ⟨hk, rfl⟩ := List.getElem?_eq_some_iff.1 hx
  rw [List.drop_eq_getElem_cons hk, pruL]
theorem bareTo_succ {l : List Snp} {k : Nat} {x : Snp} (hx : l[k]? = some x) : bareTo l (k + 1) = bareTo l k + if x.tg = ByteArray.empty then 1 else 0 := by rw [bareTo, snpAt_of hx]
theorem Ch.of_belowg {S : Nat → Prop} {B : Nat} {w w' : World} (h : Below B w w') (_ : B ≤ w.heap.size) : Ch (fun k => S k ∨ B ≤ k) w w' := ⟨h.os, h.tape, h.output, h.size, fun k hk hn => h.block k (by omega)⟩
attribute [local irreducible] StrsAt StrR StrO RowR RowO bareTo pruL dgT
set_option maxRecDepth 8000 in
set_option maxHeartbeats 8000000 in
theorem prune_impl (s : Cst) (keep : Nat) (b oo : Nat) (Q : Option Addr) (n c : Nat) (fq : List Nat) (w : World) (hc1 : w.cell? ⟨b, oo + 1, none⟩ = some (.slice Q n c)) (hfz : w.frozen? ⟨b, oo + 1, none⟩ = false)
    (hQ : RowO snpF 150 3 fq w Q n c s.snaps) (hN : fq.Nodup) (hbq : b ∉ fq) (hn : n ≤ 9) (hk9 : keep ≤ 9) :
    Calls Try.prog 192 #[.pointer (some ⟨b, oo, none⟩), .int .i64 (keep : Int)] w fun e w' => e = .returned (.string (dgT (goneN s.snaps keep))) ∧ ∃ w1 Q' n' c' fq', Below (w1.setCell ⟨b, oo + 1, none⟩ (.slice Q' n' c')).heap.size (w1.setCell ⟨b, oo + 1, none⟩ (.slice Q' n' c')) w' ∧ Below w.heap.size w w1 ∧
      RowO snpF 150 3 fq' w1 Q' n' c' (pruL s.snaps (goneN s.snaps keep)) ∧ fq'.Nodup ∧ ∀ t ∈ fq', t ∈ fq ∨ w.heap.size ≤ t := by
  have hbl := cell_lt hc1
  have HLN := Lib.hid hQ.len
  have hR := hQ.at_ snpK (by omega)
  go_enter Try.func192, Try.ntmps192
  go_wp2_with fail
  go_loopw [5, 19] (fun t i wr => ∃ k : Nat, k ≤ n ∧ i = .int .i64 k ∧ t = .int .i64 (((bareTo s.snaps k : Nat) : Int) - (keep : Int)) ∧ Below w.heap.size w wr) (fun _ i _ => n - (intOf i).toNat)
  case atStart => exact ⟨0, Nat.zero_le _, rfl, by unfold bareTo; simp, Below.refl _ _⟩
  case round =>
    obtain ⟨k, hk, rfl, rfl, hbr⟩ := hrel
    have hbk := bareTo_le s.snaps k
    by_cases hlt : k < n
    · have k1 := hR.keep snpK hbr
      obtain ⟨qb, qo, rfl⟩ := k1.head (by omega)
      obtain ⟨bl, y, cs, hy, ⟨B1, m1, d1, rfl, y1⟩, hcell⟩ := k1.elem_at hlt
      have f0 : wr.cell? ⟨qb, qo + k * 3, none⟩ = some (.string y.nm) := hcell 0 _ rfl
      have f1 : wr.cell? ⟨qb, qo + k * 3 + 1, none⟩ = some (.string y.tg) := hcell 1 _ rfl
      have f2 : wr.cell? ⟨qb, qo + k * 3 + 2, none⟩ = some (.slice B1 m1 d1) := hcell 2 _ rfl
      have HBS := Lib.hid (bareTo_succ hy)
      have hte := isEmpty_str y.tg
      clear hcell hy y1
      by_cases ht : y.tg = ByteArray.empty
      · rw [decide_eq_true ht] at hte
        have HT := Lib.hid ht; clear ht
        go_wp2
        exact ⟨⟨k + 1, by omega, by go_num, by rw [HBS.out, if_pos HT.out]; congr 1; omega, hbr.alloc hbr.size _⟩, by simp [intOf]; omega⟩
      · rw [decide_eq_false ht] at hte
        have HT := Lib.hid ht; clear ht
        go_wp2
        exact ⟨⟨k + 1, by omega, by go_num, by rw [HBS.out, if_neg HT.out]; congr 1, hbr.alloc hbr.size _⟩, by simp [intOf]; omega⟩
    · have hkn : k = s.snaps.length := by have := HLN.out; omega
      obtain ⟨G, hG⟩ : ∃ G, goneN s.snaps keep = G := ⟨_, rfl⟩
      have HGN := Lib.hid hG
      have hmax : max (0 : Int) (((bareTo s.snaps k : Nat) : Int) - (keep : Int)) = (G : Int) := by rw [← hG, hkn]; unfold goneN; omega
      have hmax2 : max (((bareTo s.snaps k : Nat) : Int) - (keep : Int)) (0 : Int) = (G : Int) := by rw [← hG, hkn]; unfold goneN; omega
      have hG9 : G ≤ 9 := by rw [← hG]; unfold goneN; have := bareTo_le s.snaps s.snaps.length; have := HLN.out; omega
      have u1 := keep_cell hbr hc1
      have hbW := cell_lt u1
      have QW := hQ.keep snpK hbr
      have al := (Below.refl wr.heap.size wr).alloc (Nat.le_refl _) (.cells #[] 150)
      have hO := own_up (own_empty wr 150 3 (Nat.le_refl wr.heap.size)) (Nat.zero_le _)
      have hkI : ¬ ((k : Int) < (n : Int)) := by omega
      obtain ⟨t0, ht0⟩ : ∃ t, ((bareTo s.snaps k : Nat) : Int) - (keep : Int) = t := ⟨_, rfl⟩
      rw [ht0] at hmax hmax2 ⊢
      clear hkn hG ht0 hbk
      by_cases hpos : 0 < t0
      · skip
        have hp1 : ¬ t0 ≤ 0 := by omega
        have hp2 : ¬ t0 < 0 := by omega
        have hp3 : ¬ 0 ≥ t0 := by omega
        have hp4 : (0 : Int) ≤ t0 := by omega
        have htG : t0 = (G : Int) := by omega
        subst htG
        clear hmax hmax2
        go_wp2_with fail
        obtain ⟨W, hW⟩ : ∃ W, W = wr.alloc (.cells #[] 150) := ⟨_, rfl⟩
        obtain ⟨g, hg⟩ : ∃ g, wr.heap.size = g := ⟨_, rfl⟩
        have HG := Lib.hid hg
        rw [← hW] at al hO ⊢
        simp only [hg] at hO ⊢
        have hwg : w.heap.size ≤ g := by have := hbr.size; omega
        have hqg : ∀ t ∈ fq, t < g := fun t ht => by have := QW.lt snpK t ht; omega
        have hbg : b < g := by omega
        have hBW := bthen hbr al
        have QV := QW.keep snpK al
        have hgW : g < W.heap.size := by have := own_lo hO g (by simp [blkL]); omega
        clear hW hg QW
        obtain ⟨css, fps, rfl, own, hlQ, EQ⟩ := QV.ex
        have HLQ := Lib.hid hlQ; clear hlQ
        have hND := List.nodup_append.1 hN
        go_loopw [8, 9, 37] (fun o t i wq => ∃ (k d : Nat) (O : Option Addr) (cap : Nat) (L : List Snp) (cl : List (List Value)) (fl : List (List Nat)), k ≤ n ∧ d ≤ G ∧ L.length ≤ k ∧ i = .int .i64 k ∧ t = .int .i64 d ∧ o = .slice O L.length cap ∧ pruL s.snaps G = L ++ pruL (s.snaps.drop k) (G - d) ∧ wq.ownsRow 0 150 3 (.slice O L.length cap) L.length cl.flatten ∧ Els snpF wq cl fl L ∧ (blkL O ++ fl.flatten).Nodup ∧ (∀ x ∈ blkL O, g ≤ x) ∧ (∀ x ∈ fl.flatten, x ∈ (fps.take k).flatten) ∧ Below g W wq) (fun _ _ i _ => n - (intOf i).toNat)
        case atStart => exact ⟨0, 0, _, _, [], [], [], Nat.zero_le _, Nat.zero_le _, Nat.le_refl _, rfl, rfl, rfl, by simp, by simpa using hO, Els.nil, by simp [blkL], fun x hx => by simp [blkL] at hx; omega, fun x hx => (by simp at hx), Below.refl _ _⟩
        case round =>
          clear hO
          obtain ⟨k, d, O, cap, L, cl, fl, hk, hdG, hLk, rfl, rfl, rfl, hp, ownL, EL, hNL, hgL, hfl, hbq2⟩ := hrel
          have HP := Lib.hid hp; clear hp
          obtain ⟨wq, hwq⟩ := Below.nam hbq2; subst hwq
          have hzq := hbq2.size
          by_cases hlt : k < n
          · obtain ⟨x, hx⟩ : ∃ x, s.snaps[k]? = some x := ⟨_, List.getElem?_eq_getElem (by have := HLQ.out; omega)⟩
            obtain ⟨d1, d2, f1, f2, cs, f, rfl, rfl, E1, hF, E2⟩ := els_cut EQ hx
            obtain ⟨qb, qo, hQe, hqc⟩ := (own_cells own).2 (by omega)
            subst hQe
            have hq0 : qo = 0 := own_off own (by omega)
            subst hq0
            have hqbg : qb < g := hqg qb (by simp [blkL])
            obtain ⟨X1, xn, xc, fx, rfl, rfl, hSx⟩ := hF
            have h1len : (d1.flatten).length = k * 3 := by rw [E1.flat snpK, List.length_take]; congr 1; have := HLQ.out; omega
            have hcw : ∀ j u, [Value.string x.nm, .string x.tg, .slice X1 xn xc][j]? = some u → wq.cell? ⟨qb, k * 3 + j, none⟩ = some u := fun j u hj => by
              have hj3 : j < 3 := (List.getElem?_eq_some_iff.1 hj).1
              have := hqc (k * 3 + j) u (by rw [List.flatten_append, List.getElem?_append_right (by omega), h1len]; simp only [Nat.add_sub_cancel_left, List.flatten_cons]; rw [List.getElem?_append_left (by simp [snpL]; omega)]; exact hj)
              rw [Nat.zero_add] at this
              exact (hbq2.cell (p := ⟨qb, k * 3 + j, none⟩) hqbg).trans this
            have c0 : wq.cell? ⟨qb, k * 3, none⟩ = some (.string x.nm) := hcw 0 _ rfl
            have c1_ : wq.cell? ⟨qb, k * 3 + 1, none⟩ = some (.string x.tg) := hcw 1 _ rfl
            have c2_ : wq.cell? ⟨qb, k * 3 + 2, none⟩ = some (.slice X1 xn xc) := hcw 2 _ rfl
            have hqbq := cell_lt c0
            have hF' : snpF f wq [.string x.nm, .string x.tg, .slice X1 xn xc] x := snpF_of (hSx.ch (Ch.of_belowg (S := fun _ => False) hbq2 (by omega)) (fun t ht h => by have := hqg t (by simp [ht]); rcases h with h | h; (exact h); omega))
            have hlenf : f1.length = k := by have := E1.lens.2; rw [List.length_take] at this; have := HLQ.out; omega
            have htk : (f1 ++ f :: f2).take k = f1 := by rw [List.take_left' hlenf]
            have htk1 : (f1 ++ f :: f2).take (k + 1) = f1 ++ [f] := by rw [List.take_append, hlenf]; simp [List.take_of_length_le (show f1.length ≤ k + 1 by omega)]
            rw [htk] at hfl
            have HTK := Lib.hid htk1
            have hfN : f.Nodup ∧ ∀ t ∈ f1.flatten, t ∉ f := by
              have h2 := hND.2.1
              rw [List.flatten_append, List.flatten_cons] at h2
              have h3 := List.nodup_append.1 h2
              exact ⟨(List.nodup_append.1 h3.2.1).1, fun t ht hf => h3.2.2 t ht t (List.mem_append_left _ hf) rfl⟩
            have hPD := Lib.hid (pruL_drop (G - d) hx)
            have hte := isEmpty_str x.tg
            have hflt : ∀ t ∈ f1.flatten, t < g := fun t ht => hqg t (by rw [List.flatten_append]; simp only [List.mem_append]; exact .inr (.inl ht))
            have hft : ∀ t ∈ f, t < g := fun t ht => hqg t (by rw [List.flatten_append, List.flatten_cons]; simp only [List.mem_append]; exact .inr (.inr (.inl ht)))
            have aly := (Below.refl wq.heap.size wq).alloc (Nat.le_refl _) (.cells #[.string x.nm, .string x.tg, .slice X1 xn xc] 150)
            have hb2 : Below g W (wq.alloc (.cells #[.string x.nm, .string x.tg, .slice X1 xn xc] 150)) := hbq2.trans (aly.mono (by omega))
            have ownL2 := own_chL ownL (Ch.of_below (S := fun _ => False) aly) (fun _ _ h => h)
            have EL2 := EL.keep snpK aly
            have hF2 := snpK.fch hF' (Ch.of_below (S := fun _ => False) aly) (fun _ _ h => h)
            clear hqc hcw h1len ownL EL hF' hSx htk htk1 hx
            by_cases ht : x.tg = ByteArray.empty
            · rw [decide_eq_true ht] at hte
              have HT := Lib.hid ht; clear ht
              by_cases hdl : d < G
              · have gd : decide ((d : Int) < (G : Int)) = true := decide_eq_true (by omega)
                have HDL := Lib.hid hdl
                have hpk := Lib.hid (show pruL s.snaps G = L ++ pruL (s.snaps.drop (k + 1)) (G - (d + 1)) by rw [HP.out, hPD.out, if_pos ⟨HT.out, by omega⟩, Nat.sub_sub])
                go_wp2
                refine ⟨⟨k + 1, d + 1, O, cap, L, cl, fl, by omega, by omega, by omega, by go_num, by go_num, rfl, hpk.out, ownL2, EL2, hNL, hgL, fun t ht => by rw [HTK.out, List.flatten_append]; exact List.mem_append_left _ (hfl t ht), hb2⟩, by simp [intOf]; omega⟩
              · have gd : decide ((d : Int) < (G : Int)) = false := decide_eq_false (by omega)
                have hdl2 : ¬ ((d : Int) < (G : Int)) := by omega
                have hpk := Lib.hid (show pruL s.snaps G = (L ++ [x]) ++ pruL (s.snaps.drop (k + 1)) (G - d) by rw [HP.out, hPD.out, if_neg (by rintro ⟨_, h⟩; omega)]; simp)
                go_wp2_with (first | (at_builtin; refine wpList_app1g (P := Try.prog) _ rfl (.tmp 51) (.tmp 53) 146 rfl 0 150 _ 3 56 Try.underlying146 snpInfo rfl (by omega) (.slice O L.length cap) _ _ rfl ownL2 #[.string x.nm, .string x.tg, .slice X1 xn xc] _ rfl (by simp) rfl (by simp [Value.oneCell']) (by unfold maxLen; omega) (by omega) (Nat.zero_le _) ?_; intro A' c' w8 own8 hgr hb8 hob; refine stop_of ?_) | fail)
                have hNN : ((blkL O ++ fl.flatten) ++ f).Nodup := List.nodup_append.2 ⟨hNL, hfN.1, fun u hu v hv huv => by
                  subst huv
                  rcases List.mem_append.1 hu with hu | hu
                  · have := hgL u hu; have := hft u hv; omega
                  · exact hfN.2 u (hfl u hu) hv⟩
                have hN6 : (blkL O ++ (fl ++ [f]).flatten).Nodup := by rw [List.flatten_append, ← List.append_assoc]; simpa using hNN
                obtain ⟨hE8, hN8, hO8n⟩ := app_els (A := O) (n := L.length) (c := cap) snpK EL2 hF2 hN6 hgr hob (by omega)
                have hc8 : Ch (fun t => t ∈ blkL O) (wq.alloc (.cells #[.string x.nm, .string x.tg, .slice X1 xn xc] 150)) w8 := (Ch.of_grow hgr).mono (fun t ht => mem_blkL.2 (blk_of ht))
                have own9 : w8.ownsRow 0 150 3 (.slice A' (L.length + 1) c') (L.length + 1) (cl ++ [([.string x.nm, .string x.tg, .slice X1 xn xc] : List Value)]).flatten := by rw [List.flatten_append]; simpa using own8
                have hb9 := hc8.belowB hb2 (by have := hb2.size; omega) hgL
                have hz9 := aly.size
                unfold Stop
                go_wp2
                refine ⟨⟨k + 1, d, A', c', L ++ [x], _, _, by omega, hdG, by simp; omega, by go_num, rfl, by simp, hpk.out, by simpa using own9, hE8, hN8, fun t ht => ?_, fun t ht => ?_, hb9⟩, by simp [intOf]; omega⟩
                · rcases hO8n t ht with h1 | h1
                  · exact hgL t h1
                  · omega
                · rw [HTK.out]
                  rw [List.flatten_append] at ht ⊢
                  rcases List.mem_append.1 ht with ht | ht
                  · exact List.mem_append_left _ (hfl t ht)
                  · exact List.mem_append_right _ ht
            · rw [decide_eq_false ht] at hte
              have HT := Lib.hid ht; clear ht
              have hpk := Lib.hid (show pruL s.snaps G = (L ++ [x]) ++ pruL (s.snaps.drop (k + 1)) (G - d) by rw [HP.out, hPD.out, if_neg (fun h => HT.out h.1)]; simp)
              go_wp2_with (first | (at_builtin; refine wpList_app1g (P := Try.prog) _ rfl (.tmp 51) (.tmp 53) 146 rfl 0 150 _ 3 56 Try.underlying146 snpInfo rfl (by omega) (.slice O L.length cap) _ _ rfl ownL2 #[.string x.nm, .string x.tg, .slice X1 xn xc] _ rfl (by simp) rfl (by simp [Value.oneCell']) (by unfold maxLen; omega) (by omega) (Nat.zero_le _) ?_; intro A' c' w8 own8 hgr hb8 hob; refine stop_of ?_) | fail)
              have hNN : ((blkL O ++ fl.flatten) ++ f).Nodup := List.nodup_append.2 ⟨hNL, hfN.1, fun u hu v hv huv => by
                subst huv
                rcases List.mem_append.1 hu with hu | hu
                · have := hgL u hu; have := hft u hv; omega
                · exact hfN.2 u (hfl u hu) hv⟩
              have hN6 : (blkL O ++ (fl ++ [f]).flatten).Nodup := by rw [List.flatten_append, ← List.append_assoc]; simpa using hNN
              obtain ⟨hE8, hN8, hO8n⟩ := app_els (A := O) (n := L.length) (c := cap) snpK EL2 hF2 hN6 hgr hob (by omega)
              have hc8 : Ch (fun t => t ∈ blkL O) (wq.alloc (.cells #[.string x.nm, .string x.tg, .slice X1 xn xc] 150)) w8 := (Ch.of_grow hgr).mono (fun t ht => mem_blkL.2 (blk_of ht))
              have own9 : w8.ownsRow 0 150 3 (.slice A' (L.length + 1) c') (L.length + 1) (cl ++ [([.string x.nm, .string x.tg, .slice X1 xn xc] : List Value)]).flatten := by rw [List.flatten_append]; simpa using own8
              have hb9 := hc8.belowB hb2 (by have := hb2.size; omega) hgL
              have hz9 := aly.size
              unfold Stop
              go_wp2
              refine ⟨⟨k + 1, d, A', c', L ++ [x], _, _, by omega, hdG, by simp; omega, by go_num, rfl, by simp, hpk.out, by simpa using own9, hE8, hN8, fun t ht => ?_, fun t ht => ?_, hb9⟩, by simp [intOf]; omega⟩
              · rcases hO8n t ht with h1 | h1
                · exact hgL t h1
                · omega
              · rw [HTK.out]
                rw [List.flatten_append] at ht ⊢
                rcases List.mem_append.1 ht with ht | ht
                · exact List.mem_append_left _ (hfl t ht)
                · exact List.mem_append_right _ ht
          · have hkn : k = n := by omega
            have HPF := Lib.hid (show pruL s.snaps G = L by rw [HP.out, List.drop_eq_nil_of_le (by have := HLQ.out; omega)]; unfold pruL; simp)
            have u2 : wq.cell? ⟨b, oo + 1, none⟩ = some (.slice Q n c) := (hbq2.cell (p := ⟨b, oo + 1, none⟩) hbg).trans ((al.cell (p := ⟨b, oo + 1, none⟩) (by have := HG.out; omega)).trans u1)
            have uf : wq.frozen? ⟨b, oo + 1, none⟩ = false := (hbq2.frozen (p := ⟨b, oo + 1, none⟩) hbg).trans ((hBW.frozen (p := ⟨b, oo + 1, none⟩) hbl).trans hfz)
            have hbq3 := cell_lt u2
            have hBwq : Below w.heap.size w wq := hBW.trans (hbq2.mono hwg)
            have hkI2 : ¬ ((k : Int) < (n : Int)) := by omega
            clear hkn
            go_wp2_with fail
            refine (dec_impl G _ hG9).mono ?_
            rintro e w9 ⟨rfl, hb9⟩
            go_wp2
            go_returns
            refine ⟨(by rw [HGN.out]; rfl), wq, O, L.length, cap, _, hb9, hBwq, by rw [HGN.out, HPF.out]; exact RowO.intro ownL rfl EL, hNL, fun t ht => ?_⟩
            rcases List.mem_append.1 ht with ht | ht
            · exact .inr (by have := hgL t ht; omega)
            · refine .inl (List.mem_append_right _ ?_)
              have h1 := hfl t ht
              rw [List.mem_flatten] at h1 ⊢
              obtain ⟨l0, hl0, ht0⟩ := h1
              exact ⟨l0, List.mem_of_mem_take hl0, ht0⟩
      · skip
        have hp1 : t0 ≤ 0 := by omega
        have hG0 : G = 0 := by omega
        subst hG0
        clear hmax hmax2
        go_wp2_with fail
        obtain ⟨W, hW⟩ : ∃ W, W = wr.alloc (.cells #[] 150) := ⟨_, rfl⟩
        obtain ⟨g, hg⟩ : ∃ g, wr.heap.size = g := ⟨_, rfl⟩
        have HG := Lib.hid hg
        rw [← hW] at al hO ⊢
        simp only [hg] at hO ⊢
        have hwg : w.heap.size ≤ g := by have := hbr.size; omega
        have hqg : ∀ t ∈ fq, t < g := fun t ht => by have := QW.lt snpK t ht; omega
        have hbg : b < g := by omega
        have hBW := bthen hbr al
        have QV := QW.keep snpK al
        have hgW : g < W.heap.size := by have := own_lo hO g (by simp [blkL]); omega
        clear hW hg QW
        obtain ⟨css, fps, rfl, own, hlQ, EQ⟩ := QV.ex
        have HLQ := Lib.hid hlQ; clear hlQ
        have hND := List.nodup_append.1 hN
        go_loopw [8, 9, 37] (fun o t i wq => ∃ (k d : Nat) (O : Option Addr) (cap : Nat) (L : List Snp) (cl : List (List Value)) (fl : List (List Nat)), k ≤ n ∧ d ≤ 0 ∧ L.length ≤ k ∧ i = .int .i64 k ∧ t = .int .i64 d ∧ o = .slice O L.length cap ∧ pruL s.snaps 0 = L ++ pruL (s.snaps.drop k) (0 - d) ∧ wq.ownsRow 0 150 3 (.slice O L.length cap) L.length cl.flatten ∧ Els snpF wq cl fl L ∧ (blkL O ++ fl.flatten).Nodup ∧ (∀ x ∈ blkL O, g ≤ x) ∧ (∀ x ∈ fl.flatten, x ∈ (fps.take k).flatten) ∧ Below g W wq) (fun _ _ i _ => n - (intOf i).toNat)
        case atStart => exact ⟨0, 0, _, _, [], [], [], Nat.zero_le _, Nat.zero_le _, Nat.le_refl _, rfl, rfl, rfl, by simp, by simpa using hO, Els.nil, by simp [blkL], fun x hx => by simp [blkL] at hx; omega, fun x hx => (by simp at hx), Below.refl _ _⟩
        case round =>
          clear hO
          obtain ⟨k, d, O, cap, L, cl, fl, hk, hdG, hLk, rfl, rfl, rfl, hp, ownL, EL, hNL, hgL, hfl, hbq2⟩ := hrel
          have HP := Lib.hid hp; clear hp
          obtain ⟨wq, hwq⟩ := Below.nam hbq2; subst hwq
          have hzq := hbq2.size
          by_cases hlt : k < n
          · obtain ⟨x, hx⟩ : ∃ x, s.snaps[k]? = some x := ⟨_, List.getElem?_eq_getElem (by have := HLQ.out; omega)⟩
            obtain ⟨d1, d2, f1, f2, cs, f, rfl, rfl, E1, hF, E2⟩ := els_cut EQ hx
            obtain ⟨qb, qo, hQe, hqc⟩ := (own_cells own).2 (by omega)
            subst hQe
            have hq0 : qo = 0 := own_off own (by omega)
            subst hq0
            have hqbg : qb < g := hqg qb (by simp [blkL])
            obtain ⟨X1, xn, xc, fx, rfl, rfl, hSx⟩ := hF
            have h1len : (d1.flatten).length = k * 3 := by rw [E1.flat snpK, List.length_take]; congr 1; have := HLQ.out; omega
            have hcw : ∀ j u, [Value.string x.nm, .string x.tg, .slice X1 xn xc][j]? = some u → wq.cell? ⟨qb, k * 3 + j, none⟩ = some u := fun j u hj => by
              have hj3 : j < 3 := (List.getElem?_eq_some_iff.1 hj).1
              have := hqc (k * 3 + j) u (by rw [List.flatten_append, List.getElem?_append_right (by omega), h1len]; simp only [Nat.add_sub_cancel_left, List.flatten_cons]; rw [List.getElem?_append_left (by simp [snpL]; omega)]; exact hj)
              rw [Nat.zero_add] at this
              exact (hbq2.cell (p := ⟨qb, k * 3 + j, none⟩) hqbg).trans this
            have c0 : wq.cell? ⟨qb, k * 3, none⟩ = some (.string x.nm) := hcw 0 _ rfl
            have c1_ : wq.cell? ⟨qb, k * 3 + 1, none⟩ = some (.string x.tg) := hcw 1 _ rfl
            have c2_ : wq.cell? ⟨qb, k * 3 + 2, none⟩ = some (.slice X1 xn xc) := hcw 2 _ rfl
            have hqbq := cell_lt c0
            have hF' : snpF f wq [.string x.nm, .string x.tg, .slice X1 xn xc] x := snpF_of (hSx.ch (Ch.of_belowg (S := fun _ => False) hbq2 (by omega)) (fun t ht h => by have := hqg t (by simp [ht]); rcases h with h | h; (exact h); omega))
            have hlenf : f1.length = k := by have := E1.lens.2; rw [List.length_take] at this; have := HLQ.out; omega
            have htk : (f1 ++ f :: f2).take k = f1 := by rw [List.take_left' hlenf]
            have htk1 : (f1 ++ f :: f2).take (k + 1) = f1 ++ [f] := by rw [List.take_append, hlenf]; simp [List.take_of_length_le (show f1.length ≤ k + 1 by omega)]
            rw [htk] at hfl
            have HTK := Lib.hid htk1
            have hfN : f.Nodup ∧ ∀ t ∈ f1.flatten, t ∉ f := by
              have h2 := hND.2.1
              rw [List.flatten_append, List.flatten_cons] at h2
              have h3 := List.nodup_append.1 h2
              exact ⟨(List.nodup_append.1 h3.2.1).1, fun t ht hf => h3.2.2 t ht t (List.mem_append_left _ hf) rfl⟩
            have hPD := Lib.hid (pruL_drop (0 - d) hx)
            have hte := isEmpty_str x.tg
            have hflt : ∀ t ∈ f1.flatten, t < g := fun t ht => hqg t (by rw [List.flatten_append]; simp only [List.mem_append]; exact .inr (.inl ht))
            have hft : ∀ t ∈ f, t < g := fun t ht => hqg t (by rw [List.flatten_append, List.flatten_cons]; simp only [List.mem_append]; exact .inr (.inr (.inl ht)))
            have aly := (Below.refl wq.heap.size wq).alloc (Nat.le_refl _) (.cells #[.string x.nm, .string x.tg, .slice X1 xn xc] 150)
            have hb2 : Below g W (wq.alloc (.cells #[.string x.nm, .string x.tg, .slice X1 xn xc] 150)) := hbq2.trans (aly.mono (by omega))
            have ownL2 := own_chL ownL (Ch.of_below (S := fun _ => False) aly) (fun _ _ h => h)
            have EL2 := EL.keep snpK aly
            have hF2 := snpK.fch hF' (Ch.of_below (S := fun _ => False) aly) (fun _ _ h => h)
            clear hqc hcw h1len ownL EL hF' hSx htk htk1 hx
            by_cases ht : x.tg = ByteArray.empty
            · rw [decide_eq_true ht] at hte
              have HT := Lib.hid ht; clear ht
              by_cases hdl : d < 0
              · exact absurd hdl (by omega)
              · have gd : decide ((d : Int) < (0 : Int)) = false := decide_eq_false (by omega)
                have hdl2 : ¬ ((d : Int) < (0 : Int)) := by omega
                have hpk := Lib.hid (show pruL s.snaps 0 = (L ++ [x]) ++ pruL (s.snaps.drop (k + 1)) (0 - d) by rw [HP.out, hPD.out, if_neg (by rintro ⟨_, h⟩; omega)]; simp)
                go_wp2_with (first | (at_builtin; refine wpList_app1g (P := Try.prog) _ rfl (.tmp 51) (.tmp 53) 146 rfl 0 150 _ 3 56 Try.underlying146 snpInfo rfl (by omega) (.slice O L.length cap) _ _ rfl ownL2 #[.string x.nm, .string x.tg, .slice X1 xn xc] _ rfl (by simp) rfl (by simp [Value.oneCell']) (by unfold maxLen; omega) (by omega) (Nat.zero_le _) ?_; intro A' c' w8 own8 hgr hb8 hob; refine stop_of ?_) | fail)
                have hNN : ((blkL O ++ fl.flatten) ++ f).Nodup := List.nodup_append.2 ⟨hNL, hfN.1, fun u hu v hv huv => by
                  subst huv
                  rcases List.mem_append.1 hu with hu | hu
                  · have := hgL u hu; have := hft u hv; omega
                  · exact hfN.2 u (hfl u hu) hv⟩
                have hN6 : (blkL O ++ (fl ++ [f]).flatten).Nodup := by rw [List.flatten_append, ← List.append_assoc]; simpa using hNN
                obtain ⟨hE8, hN8, hO8n⟩ := app_els (A := O) (n := L.length) (c := cap) snpK EL2 hF2 hN6 hgr hob (by omega)
                have hc8 : Ch (fun t => t ∈ blkL O) (wq.alloc (.cells #[.string x.nm, .string x.tg, .slice X1 xn xc] 150)) w8 := (Ch.of_grow hgr).mono (fun t ht => mem_blkL.2 (blk_of ht))
                have own9 : w8.ownsRow 0 150 3 (.slice A' (L.length + 1) c') (L.length + 1) (cl ++ [([.string x.nm, .string x.tg, .slice X1 xn xc] : List Value)]).flatten := by rw [List.flatten_append]; simpa using own8
                have hb9 := hc8.belowB hb2 (by have := hb2.size; omega) hgL
                have hz9 := aly.size
                unfold Stop
                go_wp2
                refine ⟨⟨k + 1, d, A', c', L ++ [x], _, _, by omega, hdG, by simp; omega, by go_num, rfl, by simp, hpk.out, by simpa using own9, hE8, hN8, fun t ht => ?_, fun t ht => ?_, hb9⟩, by simp [intOf]; omega⟩
                · rcases hO8n t ht with h1 | h1
                  · exact hgL t h1
                  · omega
                · rw [HTK.out]
                  rw [List.flatten_append] at ht ⊢
                  rcases List.mem_append.1 ht with ht | ht
                  · exact List.mem_append_left _ (hfl t ht)
                  · exact List.mem_append_right _ ht
            · rw [decide_eq_false ht] at hte
              have HT := Lib.hid ht; clear ht
              have hpk := Lib.hid (show pruL s.snaps 0 = (L ++ [x]) ++ pruL (s.snaps.drop (k + 1)) (0 - d) by rw [HP.out, hPD.out, if_neg (fun h => HT.out h.1)]; simp)
              go_wp2_with (first | (at_builtin; refine wpList_app1g (P := Try.prog) _ rfl (.tmp 51) (.tmp 53) 146 rfl 0 150 _ 3 56 Try.underlying146 snpInfo rfl (by omega) (.slice O L.length cap) _ _ rfl ownL2 #[.string x.nm, .string x.tg, .slice X1 xn xc] _ rfl (by simp) rfl (by simp [Value.oneCell']) (by unfold maxLen; omega) (by omega) (Nat.zero_le _) ?_; intro A' c' w8 own8 hgr hb8 hob; refine stop_of ?_) | fail)
              have hNN : ((blkL O ++ fl.flatten) ++ f).Nodup := List.nodup_append.2 ⟨hNL, hfN.1, fun u hu v hv huv => by
                subst huv
                rcases List.mem_append.1 hu with hu | hu
                · have := hgL u hu; have := hft u hv; omega
                · exact hfN.2 u (hfl u hu) hv⟩
              have hN6 : (blkL O ++ (fl ++ [f]).flatten).Nodup := by rw [List.flatten_append, ← List.append_assoc]; simpa using hNN
              obtain ⟨hE8, hN8, hO8n⟩ := app_els (A := O) (n := L.length) (c := cap) snpK EL2 hF2 hN6 hgr hob (by omega)
              have hc8 : Ch (fun t => t ∈ blkL O) (wq.alloc (.cells #[.string x.nm, .string x.tg, .slice X1 xn xc] 150)) w8 := (Ch.of_grow hgr).mono (fun t ht => mem_blkL.2 (blk_of ht))
              have own9 : w8.ownsRow 0 150 3 (.slice A' (L.length + 1) c') (L.length + 1) (cl ++ [([.string x.nm, .string x.tg, .slice X1 xn xc] : List Value)]).flatten := by rw [List.flatten_append]; simpa using own8
              have hb9 := hc8.belowB hb2 (by have := hb2.size; omega) hgL
              have hz9 := aly.size
              unfold Stop
              go_wp2
              refine ⟨⟨k + 1, d, A', c', L ++ [x], _, _, by omega, hdG, by simp; omega, by go_num, rfl, by simp, hpk.out, by simpa using own9, hE8, hN8, fun t ht => ?_, fun t ht => ?_, hb9⟩, by simp [intOf]; omega⟩
              · rcases hO8n t ht with h1 | h1
                · exact hgL t h1
                · omega
              · rw [HTK.out]
                rw [List.flatten_append] at ht ⊢
                rcases List.mem_append.1 ht with ht | ht
                · exact List.mem_append_left _ (hfl t ht)
                · exact List.mem_append_right _ ht
          · have hkn : k = n := by omega
            have HPF := Lib.hid (show pruL s.snaps 0 = L by rw [HP.out, List.drop_eq_nil_of_le (by have := HLQ.out; omega)]; unfold pruL; simp)
            have u2 : wq.cell? ⟨b, oo + 1, none⟩ = some (.slice Q n c) := (hbq2.cell (p := ⟨b, oo + 1, none⟩) hbg).trans ((al.cell (p := ⟨b, oo + 1, none⟩) (by have := HG.out; omega)).trans u1)
            have uf : wq.frozen? ⟨b, oo + 1, none⟩ = false := (hbq2.frozen (p := ⟨b, oo + 1, none⟩) hbg).trans ((hBW.frozen (p := ⟨b, oo + 1, none⟩) hbl).trans hfz)
            have hbq3 := cell_lt u2
            have hBwq : Below w.heap.size w wq := hBW.trans (hbq2.mono hwg)
            have hkI2 : ¬ ((k : Int) < (n : Int)) := by omega
            clear hkn
            go_wp2_with fail
            refine (dec_impl 0 _ hG9).mono ?_
            rintro e w9 ⟨rfl, hb9⟩
            go_wp2
            go_returns
            refine ⟨(by rw [HGN.out]; rfl), wq, O, L.length, cap, _, hb9, hBwq, by rw [HGN.out, HPF.out]; exact RowO.intro ownL rfl EL, hNL, fun t ht => ?_⟩
            rcases List.mem_append.1 ht with ht | ht
            · exact .inr (by have := hgL t ht; omega)
            · refine .inl (List.mem_append_right _ ?_)
              have h1 := hfl t ht
              rw [List.mem_flatten] at h1 ⊢
              obtain ⟨l0, hl0, ht0⟩ := h1
              exact ⟨l0, List.mem_of_mem_take hl0, ht0⟩
end Go.Proofs.Ytdphdnllhmnelaa
