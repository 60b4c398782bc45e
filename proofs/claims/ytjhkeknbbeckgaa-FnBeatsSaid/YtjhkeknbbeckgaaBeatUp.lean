/- Contracts of BeatUp. -/
import Derived.Test.YtjhkeknbbeckgaaBeatNew
namespace Go.Proofs.Ytjhkeknbbeckgaa
open Go.RowKit

def upV (f : Nat → Bool) (k : Nat) : List Value := (List.range k).map (fun j => .bool (!f j))
theorem upV_succ (f : Nat → Bool) (k : Nat) : upV f (k + 1) = upV f k ++ [.bool (!f k)] := by simp [upV, List.range_succ]
theorem upV_get (f : Nat → Bool) (k : Nat) : ∀ j, j < k → (upV f k)[j]? = some (boolV (fun i => !f i) j) := by
  intro j hj; simp [upV, boolV, hj]
/-- what BeatUp answers -/
def BeatUpR (ok : Bool) (f3 : Nat → Bool) (w : World) (e : Ending) (w' : World) : Prop :=
  ∃ A n c, n = nOf ok ∧ e = .returned (.slice A n c) ∧ OwnV w' w.heap.size 4 (.slice A n c) n (boolV (fun i => !f3 i)) ∧ Below w.heap.size w w'
theorem beatOk_three {n1 n2 n3 : Nat} {f1 f2 : Nat → Int} (h : beatOkB n1 n2 n3 f1 f2 = true) : n3 = 3 := by
  simp [beatOkB] at h; exact h.1.2

theorem beatUp_impl (A1 : Option Addr) (n1 c1 : Nat) (f1 : Nat → Int) (A2 : Option Addr) (n2 c2 : Nat) (f2 : Nat → Int) (A3 : Option Addr) (n3 c3 : Nat) (f3 : Nat → Bool) (w : World) (h : BtAt w A1 n1 f1 A2 n2 f2 A3 n3 f3) :
    Calls Try.prog 21 #[.agg #[.slice A1 n1 c1, .slice A2 n2 c2, .slice A3 n3 c3]] w (BeatUpR (beatOkB n1 n2 n3 f1 f2) f3 w) := by
  obtain ⟨ok, hok⟩ : ∃ ok, beatOkB n1 n2 n3 f1 f2 = ok := ⟨_, rfl⟩
  cases ok
  · have HX := Lib.hid hok; clear hok
    rw [HX.out]
    go_enter Try.func21, Try.ntmps21
    go_wp2_with fail
    refine (beatOk_impl _ _ _ f1 _ _ _ f2 _ _ _ f3 _ (h.keep (by go_grown))).mono ?_
    rintro e w1 ⟨rfl, hb1⟩
    obtain ⟨hc_w1, hf_w1⟩ := bcell hb1
    have hz_w1 := hb1.size
    try simp at hz_w1
    have hB_w1 : Below w.heap.size w w1 := bthen (by go_grown) hb1
    have hz_w1_w_0 : w.heap.size < w1.heap.size := by omega
    rw [HX.out]
    go_wp2
    go_returns
    exact ⟨none, 0, 0, rfl, rfl, own_nil, hB_w1⟩
  · obtain rfl := beatOk_three hok
    have HX := Lib.hid hok; clear hok
    rw [HX.out]
    go_enter Try.func21, Try.ntmps21
    go_wp2_with fail
    refine (beatOk_impl _ _ _ f1 _ _ _ f2 _ _ _ f3 _ (h.keep (by go_grown))).mono ?_
    rintro e w1 ⟨rfl, hb1⟩
    obtain ⟨hc_w1, hf_w1⟩ := bcell hb1
    have hz_w1 := hb1.size
    try simp at hz_w1
    have hB_w1 : Below w.heap.size w w1 := bthen (by go_grown) hb1
    have hz_w1_w_0 : w.heap.size < w1.heap.size := by omega
    rw [HX.out]
    go_wp2
    go_loopw [3, 13] (fun o i wr => ∃ (k : Nat) (A : Option Addr) (cap : Nat), k ≤ 3 ∧ i = .int .i64 k ∧ o = .slice A k cap ∧ wr.ownsRow w.heap.size 4 1 (.slice A k cap) k (upV f3 k) ∧ Below w.heap.size w wr) (fun _ i _ => 3 - (intOf i).toNat)
    case atStart => exact ⟨0, _, _, Nat.zero_le _, rfl, rfl, own_empty w1 _ _ (by omega), hB_w1.alloc (by omega) _⟩
    case round =>
      obtain ⟨k, A, cap, hk, rfl, rfl, hown, hb⟩ := hrel
      by_cases hlt : k < 3
      · obtain ⟨b, off, rfl, hbl, hc⟩ := h.2.2 (by omega)
        have hck := (hb.cell (p := ⟨b, off + k, none⟩) hbl).trans (hc k hlt)
        clear hc
        unfold boolV at hck
        have HS := Lib.hid (upV_succ f3 k)
        go_wp2_with (at_builtin; refine wpList_app1 (P := Try.prog) wr rfl (.tmp 17) (.tmp 20) 25 rfl w.heap.size 4 _ 1 1 Try.underlying25 infoBool rfl (by omega) (.slice A _ cap) _ _ rfl hown #[.bool (!f3 k)] rfl rfl (by simp [Value.oneCell']) (by unfold maxLen; omega) (by omega) hb.size ?_; intro A' c' w2 hown2 hg2 hb2 _)
        exact ⟨⟨k + 1, A', c', by omega, by go_num, rfl, by rw [HS.out]; exact hown2, hb.trans hb2⟩, by simp [intOf]; omega⟩
      · obtain rfl : k = 3 := by omega
        go_wp2
        go_returns
        exact ⟨A, 3, cap, rfl, rfl, ⟨_, hown, upV_get f3 3⟩, hb⟩

theorem beatUp_spec (A1 : Option Addr) (n1 c1 : Nat) (f1 : Nat → Int) (A2 : Option Addr) (n2 c2 : Nat) (f2 : Nat → Int) (A3 : Option Addr) (n3 c3 : Nat) (f3 : Nat → Bool) (w : World) (h : BtAt w A1 n1 f1 A2 n2 f2 A3 n3 f3) (hn3 : n3 ≤ 9223372036854775807) :
    Calls Try.prog 45 #[.agg #[.slice A1 n1 c1, .slice A2 n2 c2, .slice A3 n3 c3]] w (BeatUpR (beatOkB n1 n2 n3 f1 f2) f3 w) := by
  obtain ⟨ok, hok⟩ : ∃ ok, beatOkB n1 n2 n3 f1 f2 = ok := ⟨_, rfl⟩
  cases ok
  · have HX := Lib.hid hok; clear hok
    rw [HX.out]
    go_enter Try.func45, Try.ntmps45
    go_wp2
    go_loopw [3, 4] (fun o i wr => i = .int .i64 0 ∧ o = .slice (some ⟨w.heap.size + 1, 0, none⟩) 0 0 ∧ Box3 wr w.heap.size (.slice A1 n1 c1) (.slice A2 n2 c2) (.slice A3 n3 c3) ∧ wr.ownsRow w.heap.size 4 1 (.slice (some ⟨w.heap.size + 1, 0, none⟩) 0 0) 0 [] ∧ Below w.heap.size w wr) (fun _ _ _ => 0)
    case atStart => exact ⟨rfl, by simp, by refine ⟨?_, ?_, ?_⟩ <;> simp [go_sem], by simpa using own_empty (w.alloc _) 4 1 (base := w.heap.size) (by simp), by go_grown⟩
    case round =>
      obtain ⟨rfl, rfl, ⟨z0, z1, z2⟩, hown, hb⟩ := hrel
      by_cases hlt : 0 < n3
      · go_wp2_with fail
        refine (beatOk_spec _ _ _ f1 _ _ _ f2 _ _ _ f3 _ (h.keep hb)).mono ?_
        rintro e w1 ⟨rfl, hb1⟩
        rw [HX.out]
        go_wp2
        go_returns
        exact ⟨_, 0, 0, rfl, rfl, ⟨[], own_ch hown (Ch.of_below (S := fun _ => False) hb1) (fun _ _ h => h), fun j hj => absurd hj (by omega)⟩, bthen hb hb1⟩
      · go_wp2
        go_returns
        exact ⟨_, 0, 0, rfl, rfl, ⟨[], hown, fun j hj => absurd hj (by omega)⟩, hb⟩
  · obtain rfl := beatOk_three hok
    have HX := Lib.hid hok; clear hok
    rw [HX.out]
    go_enter Try.func45, Try.ntmps45
    go_wp2
    go_loopw [3, 4] (fun o i wr => ∃ (k : Nat) (A : Option Addr) (cap : Nat), k ≤ 3 ∧ i = .int .i64 k ∧ o = .slice A k cap ∧ Box3 wr w.heap.size (.slice A1 n1 c1) (.slice A2 n2 c2) (.slice A3 3 c3) ∧ wr.ownsRow (w.heap.size + 1) 4 1 (.slice A k cap) k (upV f3 k) ∧ Below w.heap.size w wr) (fun _ i _ => 3 - (intOf i).toNat)
    case atStart => exact ⟨0, _, _, Nat.zero_le _, rfl, rfl, by refine ⟨?_, ?_, ?_⟩ <;> simp [go_sem], by simpa [upV] using own_empty (w.alloc _) 4 1 (base := w.heap.size + 1) (by simp), by go_grown⟩
    case round =>
      obtain ⟨k, A, cap, hk, rfl, rfl, hbox, hown, hb⟩ := hrel
      obtain ⟨z0, z1, z2⟩ := id hbox
      by_cases hlt : k < 3
      · go_wp2_with fail
        refine (beatOk_spec _ _ _ f1 _ _ _ f2 _ _ _ f3 _ (h.keep hb)).mono ?_
        rintro e w1 ⟨rfl, hb1⟩
        rw [HX.out]
        have hbb := bthen hb hb1
        obtain ⟨y0, y1, y2⟩ := hbox.keep hb1
        have hown1 := own_ch hown (Ch.of_below (S := fun _ => False) hb1) (fun _ _ h => h)
        obtain ⟨b, off, rfl, hbl, hc⟩ := h.2.2 (by omega)
        have hck := (hbb.cell (p := ⟨b, off + k, none⟩) hbl).trans (hc k hlt)
        clear hc z0 z1 z2 hown
        unfold boolV at hck
        have HS := Lib.hid (upV_succ f3 k)
        have hz1 : w.heap.size + 1 ≤ w1.heap.size := by have := cell_lt y0; omega
        go_wp2_with (at_builtin; refine wpList_app1 (P := Try.prog) w1 rfl (.tmp 17) (.tmp 24) 25 rfl (w.heap.size + 1) 4 _ 1 1 Try.underlying25 infoBool rfl (by omega) (.slice A _ cap) _ _ rfl hown1 #[.bool (!f3 k)] rfl rfl (by simp [Value.oneCell']) (by unfold maxLen; omega) (by omega) hz1 ?_; intro A' c' w2 hown2 hg2 hb2 _)
        exact ⟨⟨k + 1, A', c', by omega, by go_num, rfl, ⟨(hb2.cell (p := ⟨w.heap.size, 0, none⟩) (by simp)).trans y0, (hb2.cell (p := ⟨w.heap.size, 1, none⟩) (by simp)).trans y1, (hb2.cell (p := ⟨w.heap.size, 2, none⟩) (by simp)).trans y2⟩, by rw [HS.out]; exact hown2, hbb.trans (hb2.mono (by omega))⟩, by simp [intOf]; omega⟩
      · obtain rfl : k = 3 := by omega
        go_wp2
        go_returns
        exact ⟨A, 3, cap, rfl, rfl, ⟨_, own_up hown (by omega), upV_get f3 3⟩, hb⟩
end Go.Proofs.Ytjhkeknbbeckgaa
