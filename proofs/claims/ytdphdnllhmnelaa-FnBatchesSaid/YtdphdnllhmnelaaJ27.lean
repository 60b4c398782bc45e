/- Contracts and lemmas: RowIns, Dec. -/
import Derived.Test.YtdphdnllhmnelaaJ23
import Derived.Test.YtdphdnllhmnelaaJ0
import Derived.Test.YtdphdnllhmnelaaJ1
import Derived.Test.YtdphdnllhmnelaaJ21
/- One element (without blocks of its own) put into a row between its elements. -/
namespace Go.Proofs.Ytdphdnllhmnelaa
open Go.RowKit
section
variable {α : Type} {R : World → List Value → α → Prop} {F : List Nat → World → List Value → α → Prop} {e sz n c c' m k : Nat} {w w' : World} {fps : List (List Nat)} {css : List (List Value)} {A A' : Option Addr} {l : List α} {cs : List Value} {x : α}
theorem row_ins1 (K : KindOk R F sz) (hk : k ≤ n) (hl : n = l.length) (E : Els F w css fps l) (hx : F [] w' cs x) (hN : (blkL A ++ fps.flatten).Nodup)
    (own' : w'.ownsRow 0 e sz (.slice A' (n + 1) c') (n + 1) (css.flatten.take (k * sz) ++ cs ++ css.flatten.drop (k * sz))) (hch : Ch (fun b => (Value.slice A n c).ownBlock = some b) w w')
    (hob : (Value.slice A' (n + 1) c').ownBlock = (Value.slice A n c).ownBlock ∨ (Value.slice A' (n + 1) c').ownBlock = some m) (hm : w.heap.size ≤ m) :
    ∃ fp', RowO F e sz fp' w' A' (n + 1) c' (l.take k ++ x :: l.drop k) ∧ fp'.Nodup ∧ (∀ b ∈ fp', b ∈ blkL A ++ fps.flatten ∨ b = m) ∧ Ch (fun b => b ∈ blkL A) w w' := by
  have hN2 := List.nodup_append.1 hN
  have hblk : ∀ b ∈ blkL A', b ∈ blkL A ∨ b = m := fun b hb => by
    have h1 := blk_own (n := n + 1) (c := c') (mem_blkL.1 hb)
    rcases hob with h2 | h2
    · exact .inl (mem_blkL.2 (blk_of (h2.symm.trans h1)))
    · exact .inr (Option.some.inj (h1.symm.trans h2))
  have hlt := E.lt K
  have E' := E.ch K hch (fun b hb e => hN2.2.2 b (mem_blkL.2 (blk_of e)) b hb rfl)
  have hl1 : (l.take k).length = k := by rw [List.length_take]; omega
  rw [← List.take_append_drop k l] at E'
  obtain ⟨c1, c2, f1, f2, rfl, rfl, E1, E2⟩ := E'.split
  have hc1 : c1.flatten.length = k * sz := by rw [E1.flat K, hl1]
  rw [List.flatten_append, List.take_left' hc1, List.drop_left' hc1] at own'
  have E3 := E1.app ((Els.one hx).app E2)
  have hfl : (f1 ++ ([[]] ++ f2)).flatten = (f1 ++ f2).flatten := by simp
  have own6 : w'.ownsRow 0 e sz (.slice A' (n + 1) c') (n + 1) (c1 ++ ([cs] ++ c2)).flatten := by simpa using own'
  refine ⟨blkL A' ++ (f1 ++ ([[]] ++ f2)).flatten, RowO.intro own6 (by simp; omega) (by simpa using E3), ?_, fun b hb => ?_, hch.mono (fun b hb => mem_blkL.2 (blk_of hb))⟩
  · rw [hfl]
    refine List.nodup_append.2 ⟨by cases A' <;> simp [blkL], hN2.2.1, fun a ha b hb e => ?_⟩
    subst e
    rcases hblk a ha with h1 | h1
    · exact hN2.2.2 a h1 a hb rfl
    · have := hlt a hb; omega
  · rw [hfl] at hb
    rcases List.mem_append.1 hb with hb | hb
    · rcases hblk b hb with h | h
      · exact .inl (List.mem_append_left _ h)
      · exact .inr h
    · exact .inl (List.mem_append_right _ hb)
end
end Go.Proofs.Ytdphdnllhmnelaa
/- Contract of Dec at numbers of one digit, both sides. -/
namespace Go.Proofs.Ytdphdnllhmnelaa
open Go.RowKit
/-- a number of one digit as text -/
def dgT (n : Nat) : ByteArray := ⟨#[UInt8.ofNat (48 + n)]⟩
set_option maxRecDepth 8000 in
theorem dec_impl (n : Nat) (w : World) (hn : n ≤ 9) :
    Calls Try.prog 205 #[.int .i64 (n : Int)] w fun e w' => e = .returned (.string (dgT n)) ∧ Below w.heap.size w w' := by
  by_cases h0 : n = 0
  · subst h0
    go_enter Try.func205, Try.ntmps205
    go_wp2
    go_returns
    exact ⟨rfl, Below.refl _ _⟩
  · have hne : ((n : Int) == 0) = false := by simp; omega
    have hne2 : ((n : Int) != 0) = true := by simp; omega
    have hO := own_empty w 5 1 (Nat.le_refl w.heap.size)
    have al := (Below.refl w.heap.size w).alloc (Nat.le_refl _) (.cells #[] 5)
    have hm : (n : Int) % 10 = n := by omega
    have hq : (n : Int) / 10 = 0 := by omega
    have hN := Lib.hid h0
    clear h0
    go_enter Try.func205, Try.ntmps205
    go_wp2_with fail
    go_loopw [3, 4] (fun o m wr => ∃ (k : Nat) (O : Option Addr) (cap : Nat), k ≤ 1 ∧ m = .int .i64 (if k = 0 then (n : Int) else 0) ∧ o = .slice O k cap ∧ wr.ownsRow w.heap.size 5 1 (.slice O k cap) k (([.int .u8 ((48 + n : Nat) : Int)] : List Value).take k) ∧ Below w.heap.size w wr) (fun _ m _ => (intOf m).toNat)
    case atStart => exact ⟨0, _, _, by omega, by simp, rfl, by simpa using hO, al⟩
    case round =>
      clear hO al
      obtain ⟨k, O, cap, hk, rfl, rfl, own, hb⟩ := hrel
      rcases (show k = 0 ∨ k = 1 by omega) with rfl | rfl
      · simp only [if_true, List.take_zero] at own ⊢
        have hz := hb.size
        have hw : IntKind.u8.wrap (48 + (n : Int)) = 48 + n := by simp [IntKind.wrap, IntKind.bits, IntKind.signed]; omega
        go_wp2_with (at_builtin; refine wpList_app1g (P := Try.prog) wr rfl (.tmp 22) (.tmp 26) 74 rfl w.heap.size 5 _ 1 1 Try.underlying74 infoByte rfl (by omega) (.slice O 0 cap) _ _ rfl own #[.int .u8 (48 + (n : Int))] _ rfl (by simp) rfl (by simp [Value.oneCell']) (by unfold maxLen; omega) (by omega) hz ?_; intro A' c' w2 own2 hg2 hb2 _)
        refine ⟨⟨1, A', c', by omega, by simp, rfl, by simpa using own2, hb.trans hb2⟩, by simp [intOf]; have := hN.out; omega⟩
      · simp only [if_false, Nat.one_ne_zero] at own ⊢
        have own1 : wr.ownsRow w.heap.size 5 1 (.slice O 1 cap) 1 [.int .u8 ((48 + n : Nat) : Int)] := by simpa using own
        clear own
        obtain ⟨b, o, rfl, hc⟩ := (own_cells own1).2 (by omega)
        have hcell : ∀ j (hj : j < [UInt8.ofNat (48 + n)].length), wr.cell? ((⟨b, o, none⟩ : Addr).add j) = some (.int .u8 ([UInt8.ofNat (48 + n)][j].toNat : Int)) := by
          intro j hj
          have hj0 : j = 0 := by simpa using hj
          subst hj0
          rw [Addr.add_zero']
          have := hc 0 _ rfl
          rw [Nat.add_zero] at this
          rw [this]
          simp only [List.getElem_cons_zero]
          rw [byte_ofNat _ (by omega)]
        have hcv := run_convert_bytes_back (P := Try.prog) wr 74 9 5 ⟨b, o, none⟩ cap [UInt8.ofNat (48 + n)] Try.underlying74 Try.underlying5 Try.underlying9 hcell
        simp only [List.length_cons, List.length_nil, Nat.zero_add] at hcv
        obtain ⟨bb, hbb⟩ : ∃ x, UInt8.ofNat (48 + n) = x := ⟨_, rfl⟩
        rw [hbb] at hcv
        have HBB := Lib.hid hbb; clear hbb
        clear hcell hc
        have hge : ¬ ((n : Int) < 0) := by omega
        go_wp2
        go_loopw [6, 7] (fun i j wq => i = .int .i64 0 ∧ j = .int .i64 0 ∧ wq = wr) (fun _ _ _ => 0)
        case atStart => exact ⟨rfl, rfl, rfl⟩
        case round =>
          obtain ⟨rfl, rfl, rfl⟩ := hrel
          go_wp2
          go_returns
          exact ⟨by unfold dgT; rw [HBB.out]; rfl, hb⟩
end Go.Proofs.Ytdphdnllhmnelaa
