/- Contracts of begins, l30Under, areChunks; paths below paths. -/
import Derived.Test.YtbijkdpifnncmaaSplit
import Derived.Test.YtbijkdpifnncmaaEnts
namespace Go.Proofs.Ytbijkdpifnncmaa
open Go.RowKit

def beginsB (p q : ByteArray) : Bool := decide (q.size ≤ p.size) && decide (p.extract 0 q.size = q)
def underB (p d : ByteArray) : Bool := decide (d.size < p.size) && decide (p.extract 0 d.size = d) && decide (bAt p d.size = 47)
def slash (d : ByteArray) : ByteArray := d ++ ⟨#[47]⟩
theorem slash_size (d : ByteArray) : (slash d).size = d.size + 1 := by simp [slash, ByteArray.size_append]; rfl
theorem ext_list (p : ByteArray) (k : Nat) : (p.extract 0 k).data.toList = p.data.toList.take k := by simp [ByteArray.data_extract]
theorem app_list (a b : ByteArray) : (a ++ b).data.toList = a.data.toList ++ b.data.toList := by simp [ByteArray.data_append]
theorem ba_ext {a b : ByteArray} (h : a.data.toList = b.data.toList) : a = b := by
  have h1 : a.data = b.data := Array.toList_inj.1 h
  cases a; cases b; simp_all
theorem begins_slash (p d : ByteArray) : beginsB p (slash d) = underB p d := by
  have hl : d.data.toList.length = d.size := by rw [Array.length_toList]; rfl
  have hp : p.data.toList.length = p.size := by rw [Array.length_toList]; rfl
  unfold beginsB underB
  rw [slash_size]
  by_cases h : d.size < p.size
  · have hb : bAt p d.size = (p[d.size]'h).toNat := (bAt_get h).symm
    have e1 : (p.extract 0 (d.size + 1) = slash d) ↔ (p.extract 0 d.size = d ∧ p[d.size]'h = 47) := by
      have ht : p.data.toList.take (d.size + 1) = p.data.toList.take d.size ++ [p[d.size]'h] := by
        rw [List.take_succ_eq_append_getElem (by omega)]; rfl
      constructor
      · intro he
        have h1 := congrArg (fun s : ByteArray => s.data.toList) he
        simp only [ext_list, slash, app_list] at h1
        rw [ht] at h1
        obtain ⟨h2, h3⟩ := List.append_inj h1 (by rw [List.length_take]; omega)
        refine ⟨ba_ext (by rw [ext_list]; exact h2), ?_⟩
        simpa using h3
      · rintro ⟨h2, h3⟩
        apply ba_ext
        rw [ext_list, slash, app_list, ht, h3, ← ext_list, h2]
    simp only [e1, hb]
    have e2 : (p[d.size]'h = 47) ↔ ((p[d.size]'h).toNat = 47) := by
      rw [← UInt8.toNat_inj]; rfl
    rw [Bool.eq_iff_iff]; simp [e2, h]; omega
  · rw [Bool.eq_iff_iff]; simp; omega

theorem begins_any (p q : ByteArray) (w : World) (hp : p.size ≤ 9223372036854775807) (hq : q.size ≤ 9223372036854775807) :
    Calls Try.prog 51 #[.string p, .string q] w fun e w' => e = .returned (.bool (beginsB p q)) ∧ w = w' := by
  by_cases h : q.size ≤ p.size
  · have HB := Lib.hid (show beginsB p q = ((p.extract 0 q.size).toList == q.toList) by unfold beginsB; rw [str_beq]; simp [h])
    go_enter Try.func51, Try.ntmps51
    go_wp2
    go_returns
    exact ⟨by rw [HB.out]; rfl, rfl⟩
  · have HB := Lib.hid (show beginsB p q = false by unfold beginsB; simp [h])
    have g1 : decide ((q.size : Int) ≤ p.size) = false := by simp; omega
    go_enter Try.func51, Try.ntmps51
    go_wp2
    go_returns
    exact ⟨by rw [HB.out]; rfl, rfl⟩

theorem l30Under_any (p q : ByteArray) (w : World) (hp : p.size ≤ 9223372036854775807) (hq : q.size ≤ 9223372036854775807) :
    Calls Try.prog 41 #[.string p, .string q] w fun e w' => e = .returned (.bool (underB p q)) ∧ w = w' := by
  by_cases h : q.size < p.size
  · have hb := bAt_get h
    by_cases h2 : p.extract 0 q.size = q
    · have g2 : ((p.extract 0 q.size).toList == q.toList) = true := by rw [str_beq]; simp [h2]
      have HB := Lib.hid (show underB p q = decide (bAt p q.size = 47) by unfold underB; simp [h, h2])
      clear h2
      go_enter Try.func41, Try.ntmps41
      go_wp2
      go_returns
      refine ⟨?_, rfl⟩
      rw [HB.out]
      exact ret_bool (a := (((bAt p q.size : Nat) : Int) == 47)) (by rw [Bool.eq_iff_iff]; simp; omega)
    · have g2 : ((p.extract 0 q.size).toList == q.toList) = false := by rw [str_beq]; simp [h2]
      have HB := Lib.hid (show underB p q = false by unfold underB; simp [h2])
      clear h2
      go_enter Try.func41, Try.ntmps41
      go_wp2
      go_returns
      exact ⟨by rw [HB.out]; rfl, rfl⟩
  · have HB := Lib.hid (show underB p q = false by unfold underB; simp [h])
    have g1 : decide ((q.size : Int) < p.size) = false := by simp; omega
    go_enter Try.func41, Try.ntmps41
    go_wp2
    go_returns
    exact ⟨by rw [HB.out]; rfl, rfl⟩

/-- all texts have 8 bytes -/
def all8 (l : List ByteArray) : Bool := (List.range l.length).all (fun i => decide ((sAt l i).size = 8))
theorem areChunks_any (A : Option Addr) (n c : Nat) (l : List ByteArray) (w : World) (h : StrsAt w A n l) (hn : n ≤ 9223372036854775807) :
    Calls Try.prog 61 #[.slice A n c] w fun e w' => e = .returned (.bool (all8 l)) ∧ w = w' := by
  have HL := Lib.hid h.nn
  go_enter Try.func61, Try.ntmps61
  go_wp2
  go_loop [7] (fun i => ∃ k : Nat, k ≤ n ∧ i = .int .i64 k ∧ ∀ j, j < k → (sAt l j).size = 8) (fun i => n - (intOf i).toNat)
  case atStart => exact ⟨0, Nat.zero_le _, rfl, fun j hj => absurd hj (by omega)⟩
  case round =>
    obtain ⟨k, hk, rfl, hx⟩ := hrel
    have HX := Lib.hid hx; clear hx
    by_cases hlt : k < n
    · obtain ⟨b, off, rfl, hbl, hc⟩ := h.at_ (by omega)
      have hck := hc k hlt
      clear hc
      by_cases h8 : (sAt l k).size = 8
      · have g1 : ((((sAt l k).size : Nat) : Int) != 8) = false := by simp [h8]
        have H8 := Lib.hid h8; clear h8
        go_wp2
        refine ⟨⟨k + 1, by omega, by go_num, ?_⟩, by simp [intOf]; omega⟩
        intro j hj
        by_cases e : j = k
        · subst e; exact H8.out
        · exact HX.out j (by omega)
      · have g1 : ((((sAt l k).size : Nat) : Int) != 8) = true := by simp; omega
        have H8 := Lib.hid h8; clear h8
        go_wp2
        go_returns
        exact ⟨ret_bool (all_no (k := k) (by have := HL.out; omega) (by simpa using H8.out)).symm, rfl⟩
    · go_wp2
      go_returns
      exact ⟨ret_bool (all_yes (fun j hj => by simpa using HX.out j (by have := HL.out; omega))).symm, rfl⟩
end Go.Proofs.Ytbijkdpifnncmaa
