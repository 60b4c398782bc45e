/- Contracts and lemmas: StrOrd. -/
import Derived.Test.YtdphdnllhmnelaaJ0
import Derived.Lib.SlicesCompact
import Derived.Sort.Walk0
/- The order of texts: sorted lists without repetition; the reference's put. -/
namespace Go.Proofs.Ytdphdnllhmnelaa

abbrev By := List UInt8
def ltB (x y : By) : Prop := Op.bytesLess x y = true
theorem ltB_cons {a b : UInt8} {x y : By} : ltB (a :: x) (b :: y) ↔ a.toNat < b.toNat ∨ (a = b ∧ ltB x y) := by
  simp [ltB, Op.bytesLess, UInt8.lt_iff_toNat_lt]
theorem ltB_nil {x : By} : ¬ ltB x [] := by cases x <;> simp [ltB, Op.bytesLess]
theorem ltB_nc {b : UInt8} {y : By} : ltB [] (b :: y) := by simp [ltB, Op.bytesLess]
theorem ltB_irr : ∀ (x : By), ¬ ltB x x
  | [] => ltB_nil
  | a :: x => by rw [ltB_cons]; intro h; rcases h with h | ⟨_, h⟩; exact Nat.lt_irrefl _ h; exact ltB_irr x h
theorem ltB_trans : ∀ {x y z : By}, ltB x y → ltB y z → ltB x z
  | _, _, [], _, h => absurd h ltB_nil
  | _, [], _ :: _, h, _ => absurd h ltB_nil
  | [], _ :: _, _ :: _, _, _ => ltB_nc
  | a :: x, b :: y, c :: z, h, k => by
    rw [ltB_cons] at *
    rcases h with h | ⟨rfl, h⟩
    · rcases k with k | ⟨rfl, k⟩
      · exact .inl (by omega)
      · exact .inl h
    · rcases k with k | ⟨rfl, k⟩
      · exact .inl k
      · exact .inr ⟨rfl, ltB_trans h k⟩
theorem ltB_tri : ∀ {x y : By}, ¬ ltB x y → ¬ ltB y x → x = y
  | [], [], _, _ => rfl
  | [], _ :: _, h, _ => absurd ltB_nc h
  | _ :: _, [], _, h => absurd ltB_nc h
  | a :: x, b :: y, h, k => by
    rw [ltB_cons] at *
    have e : a = b := by
      rcases Nat.lt_trichotomy a.toNat b.toNat with h1 | h1 | h1
      · exact absurd (.inl h1) h
      · exact UInt8.toNat_inj.1 h1
      · exact absurd (.inl h1) k
    subst e
    rw [ltB_tri (fun hh => h (.inr ⟨rfl, hh⟩)) (fun hh => k (.inr ⟨rfl, hh⟩))]
def sortB (l : List By) : List By := l.mergeSort (fun x y => decide (x ≤ y))
/-! ### the reference's put -/
instance (x y : By) : Decidable (ltB x y) := inferInstanceAs (Decidable (Op.bytesLess x y = true))
/-- x ahead of the first greater one -/
def insB (x : By) : List By → List By
  | [] => [x]
  | y :: l => if ltB x y then x :: y :: l else y :: insB x l
def putB (l : List By) (x : By) : List By := if x ∈ l then l else insB x l
def putsB (ns : List By) : List By := ns.foldl putB []
end Go.Proofs.Ytdphdnllhmnelaa
