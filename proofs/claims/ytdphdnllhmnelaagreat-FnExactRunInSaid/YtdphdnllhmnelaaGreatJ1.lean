/- Contracts and lemmas: Kind, Ints, IntRow, IntList, KindS, KCSnap, KCSet. -/
import Derived.Test.YtdphdnllhmnelaaGreatJ0
import Derived.Test.YtdphdnllhmnelaaGreatRows
import Derived.BigQuiet
import Derived.Deep.QuietTactic
import Derived.StillTailTactics
import Derived.Deep.RegionHeld3
/- Data in memory: how elements of a kind lie in cells, read (R) and owned with the list of their blocks (F); rows of them. -/
namespace Go.Proofs.YtdphdnllhmnelaaGreat
open Go.RowKit

/-- the block of an address -/
def blkL : Option Addr → List Nat
  | none => []
  | some a => [a.block]
theorem mem_blkL {A : Option Addr} {b : Nat} : b ∈ blkL A ↔ BlkOf A b := by
  rcases A with _ | a
  · simp [blkL, BlkOf]
  · simp [blkL, BlkOf, eq_comm]
theorem own_raise {w : World} {base base' e sz n c : Nat} {A : Option Addr} {xs : List Value} (h : w.ownsRow base e sz (.slice A n c) n xs) (hb : ∀ b ∈ blkL A, base' ≤ b) : w.ownsRow base' e sz (.slice A n c) n xs := by
  refine ⟨h.1, ?_⟩
  rcases h.2 with h0 | ⟨g, cap, cur, hv, _, hr⟩
  · exact .inl h0
  · refine .inr ⟨g, cap, cur, hv, ?_, hr⟩
    injection hv with hA _ _
    subst hA
    exact hb g (by simp [blkL])
theorem own_lo {w : World} {base e sz n c : Nat} {A : Option Addr} {xs : List Value} (h : w.ownsRow base e sz (.slice A n c) n xs) : ∀ b ∈ blkL A, base ≤ b ∧ b < w.heap.size := by
  intro b hb
  rcases own_form h with ⟨rfl, _⟩ | ⟨g, rfl, h1, h2⟩
  · simp [blkL] at hb
  · have : b = g := by simpa [blkL] using hb
    subst this; exact ⟨h1, h2⟩
theorem own_none {w : World} {base e sz n c : Nat} {A : Option Addr} {xs : List Value} (h : w.ownsRow base e sz (.slice A n c) n xs) : A = none → c = 0 := fun hA => by
  rcases own_form h with ⟨_, _, h0, _⟩ | ⟨g, hg, _⟩
  · exact h0
  · rw [hA] at hg; cases hg
theorem own_chL {S : Nat → Prop} {w w' : World} {base e sz n c : Nat} {A : Option Addr} {xs : List Value} (h : w.ownsRow base e sz (.slice A n c) n xs) (hc : Ch S w w') (hS : ∀ b ∈ blkL A, ¬ S b) : w'.ownsRow base e sz (.slice A n c) n xs :=
  own_ch h hc (fun k hk => hS k (mem_blkL.2 (blk_of hk)))

/-- how an element of a kind lies in memory -/
structure KindOk {α : Type} (R : World → List Value → α → Prop) (F : List Nat → World → List Value → α → Prop) (sz : Nat) : Prop where
  rlen : ∀ {w cs x}, R w cs x → cs.length = sz
  rkeep : ∀ {w w' cs x}, R w cs x → Below w.heap.size w w' → R w' cs x
  flt : ∀ {fp w cs x}, F fp w cs x → ∀ b ∈ fp, b < w.heap.size
  fch : ∀ {fp w w' cs x} {S : Nat → Prop}, F fp w cs x → Ch S w w' → (∀ b ∈ fp, ¬ S b) → F fp w' cs x
  fr : ∀ {fp w cs x}, F fp w cs x → R w cs x
  one : ∀ {w cs x}, R w cs x → ∀ v ∈ cs, v.oneCell' = true

/-- elements, one by one -/
def Els {α : Type} (F : List Nat → World → List Value → α → Prop) (w : World) : List (List Value) → List (List Nat) → List α → Prop
  | [], [], [] => True
  | cs :: css, f :: fps, x :: l => F f w cs x ∧ Els F w css fps l
  | _, _, _ => False
section
variable {α : Type} {R : World → List Value → α → Prop} {F : List Nat → World → List Value → α → Prop} {sz : Nat} {w w' : World} {css : List (List Value)} {fps : List (List Nat)} {l : List α}
theorem Els.lens : ∀ {css : List (List Value)} {fps : List (List Nat)} {l : List α}, Els F w css fps l → css.length = l.length ∧ fps.length = l.length
  | [], [], [], _ => ⟨rfl, rfl⟩
  | cs :: css, f :: fps, x :: l, h => by have := Els.lens h.2; simp [this]
  | [], [], _ :: _, h => h.elim
  | [], _ :: _, _, h => h.elim
  | _ :: _, [], _, h => h.elim
  | _ :: _, _ :: _, [], h => h.elim
theorem Els.ch (K : KindOk R F sz) {S : Nat → Prop} (hc : Ch S w w') : ∀ {css : List (List Value)} {fps : List (List Nat)} {l : List α}, Els F w css fps l → (∀ b ∈ fps.flatten, ¬ S b) → Els F w' css fps l
  | [], [], [], _, _ => trivial
  | cs :: css, f :: fps, x :: l, h, hS => ⟨K.fch h.1 hc (fun b hb => hS b (by simp [hb])), Els.ch K hc h.2 (fun b hb => hS b (by rw [List.flatten_cons]; exact List.mem_append_right _ hb))⟩
  | [], [], _ :: _, h, _ => h.elim
  | [], _ :: _, _, h, _ => h.elim
  | _ :: _, [], _, h, _ => h.elim
  | _ :: _, _ :: _, [], h, _ => h.elim
theorem Els.lt (K : KindOk R F sz) : ∀ {css : List (List Value)} {fps : List (List Nat)} {l : List α}, Els F w css fps l → ∀ b ∈ fps.flatten, b < w.heap.size
  | [], [], [], _, b, hb => by simp at hb
  | cs :: css, f :: fps, x :: l, h, b, hb => by
    rw [List.flatten_cons] at hb
    rcases List.mem_append.1 hb with hb | hb
    · exact K.flt h.1 b hb
    · exact Els.lt K h.2 b hb
  | [], [], _ :: _, h, _, _ => h.elim
  | [], _ :: _, _, h, _, _ => h.elim
  | _ :: _, [], _, h, _, _ => h.elim
  | _ :: _, _ :: _, [], h, _, _ => h.elim
theorem Els.keep (K : KindOk R F sz) (h : Els F w css fps l) (hb : Below w.heap.size w w') : Els F w' css fps l := h.ch K (S := fun _ => False) (Ch.of_below hb) (fun _ _ h => h)
theorem Els.app : ∀ {css css' : List (List Value)} {fps fps' : List (List Nat)} {l l' : List α}, Els F w css fps l → Els F w css' fps' l' → Els F w (css ++ css') (fps ++ fps') (l ++ l')
  | [], css', [], fps', [], l', _, h => h
  | cs :: css, css', f :: fps, fps', x :: l, l', h, h' => ⟨h.1, Els.app h.2 h'⟩
  | [], _, [], _, _ :: _, _, h, _ => h.elim
  | [], _, _ :: _, _, _, _, h, _ => h.elim
  | _ :: _, _, [], _, _, _, h, _ => h.elim
  | _ :: _, _, _ :: _, _, [], _, h, _ => h.elim
theorem Els.one {cs : List Value} {f : List Nat} {x : α} (h : F f w cs x) : Els F w [cs] [f] [x] := ⟨h, trivial⟩
theorem Els.nil : Els F w [] [] ([] : List α) := trivial
theorem Els.cons {x : α} (h : Els F w css fps (x :: l)) : ∃ cs css' f fps', css = cs :: css' ∧ fps = f :: fps' ∧ F f w cs x ∧ Els F w css' fps' l := by
  match css, fps, h with
  | cs :: css', f :: fps', h => exact ⟨cs, css', f, fps', rfl, rfl, h.1, h.2⟩
  | [], [], h => exact h.elim
  | [], _ :: _, h => exact h.elim
  | _ :: _, [], h => exact h.elim
theorem Els.nils (h : Els F w css fps ([] : List α)) : css = [] ∧ fps = [] := by
  match css, fps, h with
  | [], [], _ => exact ⟨rfl, rfl⟩
  | _ :: _, [], h => exact h.elim
  | [], _ :: _, h => exact h.elim
  | _ :: _, _ :: _, h => exact h.elim
theorem Els.split : ∀ {l1 l2 : List α} {css : List (List Value)} {fps : List (List Nat)}, Els F w css fps (l1 ++ l2) → ∃ c1 c2 f1 f2, css = c1 ++ c2 ∧ fps = f1 ++ f2 ∧ Els F w c1 f1 l1 ∧ Els F w c2 f2 l2
  | [], l2, css, fps, h => ⟨[], css, [], fps, rfl, rfl, trivial, h⟩
  | x :: l1, l2, css, fps, h => by
    obtain ⟨cs, css', f, fps', rfl, rfl, h1, h2⟩ := Els.cons h
    obtain ⟨c1, c2, f1, f2, rfl, rfl, h3, h4⟩ := Els.split h2
    exact ⟨cs :: c1, c2, f :: f1, f2, rfl, rfl, ⟨h1, h3⟩, h4⟩
theorem Els.clen (K : KindOk R F sz) : ∀ {css : List (List Value)} {fps : List (List Nat)} {l : List α}, Els F w css fps l → ∀ cs ∈ css, cs.length = sz
  | [], [], [], _, cs, hb => by simp at hb
  | c :: css, f :: fps, x :: l, h, cs, hb => by
    rcases List.mem_cons.1 hb with rfl | hb
    · exact K.rlen (K.fr h.1)
    · exact Els.clen K h.2 cs hb
  | [], [], _ :: _, h, _, _ => h.elim
  | [], _ :: _, _, h, _, _ => h.elim
  | _ :: _, [], _, h, _, _ => h.elim
  | _ :: _, _ :: _, [], h, _, _ => h.elim
theorem Els.flat (K : KindOk R F sz) (h : Els F w css fps l) : css.flatten.length = l.length * sz := by
  rw [flat_len (h.clen K), h.lens.1]
theorem Els.ones (K : KindOk R F sz) : ∀ {css : List (List Value)} {fps : List (List Nat)} {l : List α}, Els F w css fps l → ∀ v ∈ css.flatten, v.oneCell' = true
  | [], [], [], _, v, hb => by simp at hb
  | c :: css, f :: fps, x :: l, h, v, hb => by
    rw [List.flatten_cons] at hb
    rcases List.mem_append.1 hb with hb | hb
    · exact K.one (K.fr h.1) v hb
    · exact Els.ones K h.2 v hb
  | [], [], _ :: _, h, _, _ => h.elim
  | [], _ :: _, _, h, _, _ => h.elim
  | _ :: _, [], _, h, _, _ => h.elim
  | _ :: _, _ :: _, [], h, _, _ => h.elim
theorem Els.get : ∀ {css : List (List Value)} {fps : List (List Nat)} {l : List α}, Els F w css fps l → ∀ {i : Nat} {x : α}, l[i]? = some x → ∃ cs f, css[i]? = some cs ∧ fps[i]? = some f ∧ F f w cs x
  | [], [], [], _, i, x, hx => by simp at hx
  | c :: css, f :: fps, y :: l, h, i, x, hx => by
    rcases i with _ | i
    · simp at hx; subst hx; exact ⟨c, f, rfl, rfl, h.1⟩
    · obtain ⟨cs, g, h1, h2, h3⟩ := Els.get h.2 (i := i) (x := x) (by simpa using hx)
      exact ⟨cs, g, by simpa using h1, by simpa using h2, h3⟩
  | [], [], _ :: _, h, _, _, _ => h.elim
  | [], _ :: _, _, h, _, _, _ => h.elim
  | _ :: _, [], _, h, _, _, _ => h.elim
  | _ :: _, _ :: _, [], h, _, _, _ => h.elim
end

/-- a row of elements that is read -/
def RowR {α : Type} (R : World → List Value → α → Prop) (sz : Nat) (w : World) (A : Option Addr) (n c : Nat) (l : List α) : Prop := RowAt R sz w A n l ∧ (A = none → c = 0)
/-- a row of elements that is owned: its blocks -/
def RowO {α : Type} (F : List Nat → World → List Value → α → Prop) (e sz : Nat) (fp : List Nat) (w : World) (A : Option Addr) (n c : Nat) (l : List α) : Prop :=
  ∃ css fps, fp = blkL A ++ fps.flatten ∧ w.ownsRow 0 e sz (.slice A n c) n css.flatten ∧ n = l.length ∧ Els F w css fps l
section
variable {α : Type} {R : World → List Value → α → Prop} {F : List Nat → World → List Value → α → Prop} {e sz n c : Nat} {w w' : World} {fp : List Nat} {A : Option Addr} {l : List α}
theorem RowO.intro {css : List (List Value)} {fps : List (List Nat)} (ho : w.ownsRow 0 e sz (.slice A n c) n css.flatten) (hl : n = l.length) (hE : Els F w css fps l) : RowO F e sz (blkL A ++ fps.flatten) w A n c l := ⟨css, fps, rfl, ho, hl, hE⟩
theorem RowO.ex (h : RowO F e sz fp w A n c l) : ∃ css fps, fp = blkL A ++ fps.flatten ∧ w.ownsRow 0 e sz (.slice A n c) n css.flatten ∧ n = l.length ∧ Els F w css fps l := h
theorem RowR.keep (K : KindOk R F sz) (h : RowR R sz w A n c l) (hb : Below w.heap.size w w') : RowR R sz w' A n c l := ⟨h.1.keep hb (fun _ _ _ h => K.rkeep h hb), h.2⟩
theorem RowR.len (h : RowR R sz w A n c l) : n = l.length := h.1.1
theorem RowO.len (h : RowO F e sz fp w A n c l) : n = l.length := by obtain ⟨_, _, _, _, h, _⟩ := h; exact h
theorem RowO.lt (K : KindOk R F sz) (h : RowO F e sz fp w A n c l) : ∀ b ∈ fp, b < w.heap.size := by
  obtain ⟨css, fps, rfl, ho, _, hE⟩ := h
  intro b hb
  rcases List.mem_append.1 hb with hb | hb
  · exact (own_lo ho b hb).2
  · exact hE.lt K b hb
theorem RowO.ch (K : KindOk R F sz) {S : Nat → Prop} (h : RowO F e sz fp w A n c l) (hc : Ch S w w') (hS : ∀ b ∈ fp, ¬ S b) : RowO F e sz fp w' A n c l := by
  obtain ⟨css, fps, rfl, ho, hl, hE⟩ := h
  exact ⟨css, fps, rfl, own_chL ho hc (fun b hb => hS b (List.mem_append_left _ hb)), hl, hE.ch K hc (fun b hb => hS b (List.mem_append_right _ hb))⟩
theorem RowO.keep (K : KindOk R F sz) (h : RowO F e sz fp w A n c l) (hb : Below w.heap.size w w') : RowO F e sz fp w' A n c l := h.ch K (S := fun _ => False) (Ch.of_below hb) (fun _ _ h => h)
theorem RowO.nil : RowO F e sz [] w none 0 0 ([] : List α) := ⟨[], [], rfl, World.ownsRow_nil w 0 e sz, rfl, trivial⟩
theorem RowO.at_ (K : KindOk R F sz) (h : RowO F e sz fp w A n c l) (h0 : 0 < sz) : RowR R sz w A n c l := by
  obtain ⟨css, fps, rfl, ho, hl, hE⟩ := h
  refine ⟨⟨hl, fun hn => ?_⟩, own_none ho⟩
  rcases own_form ho with ⟨_, h0, _⟩ | ⟨g, rfl, _, hg⟩
  · omega
  · refine ⟨g, 0, rfl, hg, fun i x hx => ?_⟩
    obtain ⟨cs, f, h1, _, h3⟩ := hE.get hx
    refine ⟨cs, K.fr h3, K.rlen (K.fr h3), fun j u hu => ?_⟩
    have hj : j < sz := by rw [← K.rlen (K.fr h3)]; exact (List.getElem?_eq_some_iff.1 hu).1
    have hc := ho.cells (g := g) rfl (i * sz + j) u (by rw [flat_get (hE.clen K) h1 hj]; exact hu)
    rw [Addr.add_lit] at hc
    simpa using hc
end
/-- an element, a row, in blocks of an interval, each once -/
def ElI {α : Type} (F : List Nat → World → List Value → α → Prop) (lo hi : Nat) (w : World) (cs : List Value) (x : α) : Prop := ∃ fp, fp.Nodup ∧ (∀ b ∈ fp, lo ≤ b ∧ b < hi) ∧ F fp w cs x
structure RowI {α : Type} (F : List Nat → World → List Value → α → Prop) (e sz lo hi : Nat) (w : World) (A : Option Addr) (n c : Nat) (l : List α) : Prop where
  ex : ∃ fp, fp.Nodup ∧ (∀ b ∈ fp, lo ≤ b ∧ b < hi) ∧ RowO F e sz fp w A n c l
section
variable {α : Type} {R : World → List Value → α → Prop} {F : List Nat → World → List Value → α → Prop} {e sz n c lo hi lo' hi' : Nat} {w w' : World} {fp : List Nat} {A : Option Addr} {l : List α} {cs : List Value} {x : α}
theorem ElI.ch (K : KindOk R F sz) {S : Nat → Prop} (h : ElI F lo hi w cs x) (hc : Ch S w w') (hS : ∀ k, Iv lo hi k → ¬ S k) : ElI F lo hi w' cs x := by
  obtain ⟨fp, h1, h2, h3⟩ := h
  exact ⟨fp, h1, h2, K.fch h3 hc (fun b hb => hS b (h2 b hb))⟩
theorem ElI.keep (K : KindOk R F sz) (h : ElI F lo hi w cs x) (hb : Below w.heap.size w w') : ElI F lo hi w' cs x := h.ch K (S := fun _ => False) (Ch.of_below hb) (fun _ _ h => h)
theorem ElI.wide (h : ElI F lo hi w cs x) (h1 : lo' ≤ lo) (h2 : hi ≤ hi') : ElI F lo' hi' w cs x := by
  obtain ⟨fp, k1, k2, k3⟩ := h
  exact ⟨fp, k1, fun b hb => ⟨Nat.le_trans h1 (k2 b hb).1, Nat.lt_of_lt_of_le (k2 b hb).2 h2⟩, k3⟩
theorem ElI.at_ (K : KindOk R F sz) (h : ElI F lo hi w cs x) : R w cs x := by obtain ⟨fp, _, _, h⟩ := h; exact K.fr h
theorem RowI.ch (K : KindOk R F sz) {S : Nat → Prop} (h : RowI F e sz lo hi w A n c l) (hc : Ch S w w') (hS : ∀ k, Iv lo hi k → ¬ S k) : RowI F e sz lo hi w' A n c l := by
  obtain ⟨fp, h1, h2, h3⟩ := h.ex
  exact ⟨fp, h1, h2, h3.ch K hc (fun b hb => hS b (h2 b hb))⟩
theorem RowI.keep (K : KindOk R F sz) (h : RowI F e sz lo hi w A n c l) (hb : Below w.heap.size w w') : RowI F e sz lo hi w' A n c l := h.ch K (S := fun _ => False) (Ch.of_below hb) (fun _ _ h => h)
theorem RowI.wide (h : RowI F e sz lo hi w A n c l) (h1 : lo' ≤ lo) (h2 : hi ≤ hi') : RowI F e sz lo' hi' w A n c l := by
  obtain ⟨fp, k1, k2, k3⟩ := h.ex
  exact ⟨fp, k1, fun b hb => ⟨Nat.le_trans h1 (k2 b hb).1, Nat.lt_of_lt_of_le (k2 b hb).2 h2⟩, k3⟩
theorem RowI.len (h : RowI F e sz lo hi w A n c l) : n = l.length := by obtain ⟨fp, _, _, h⟩ := h.ex; exact h.len
theorem RowI.at_ (K : KindOk R F sz) (h : RowI F e sz lo hi w A n c l) (h0 : 0 < sz) : RowR R sz w A n c l := by obtain ⟨fp, _, _, h⟩ := h.ex; exact h.at_ K h0
theorem RowI.nil : RowI F e sz lo hi w none 0 0 ([] : List α) := ⟨[], List.nodup_nil, (fun _ h => by cases h), RowO.nil⟩
end

/-! ### cells stored one behind the other -/
def setsL : List Value → Nat → List Value → List Value
  | xs, _, [] => xs
  | xs, o, v :: vs => setsL (xs.set o v) (o + 1) vs
def setsW : World → Nat → Nat → List Value → World
  | w, _, _, [] => w
  | w, g, o, v :: vs => setsW (w.setCell ⟨g, o, none⟩ v) g (o + 1) vs
theorem own_setsW {base e sz n c g : Nat} : ∀ (vs : List Value) (o : Nat) (w : World) (xs : List Value), w.ownsRow base e sz (.slice (some ⟨g, 0, none⟩) n c) n xs → (setsW w g o vs).ownsRow base e sz (.slice (some ⟨g, 0, none⟩) n c) n (setsL xs o vs)
  | [], _, _, _, h => h
  | v :: vs, o, w, xs, h => own_setsW vs (o + 1) _ _ (h.stored o v).1
theorem ch_setsW {g : Nat} : ∀ (vs : List Value) (o : Nat) (w : World), Ch (fun b => b = g) w (setsW w g o vs)
  | [], _, w => Ch.refl w
  | v :: vs, o, w => ((Ch.refl (S := fun b => b = g) w).setCell (p := ⟨g, o, none⟩) rfl v).trans (ch_setsW vs (o + 1) _)
theorem setsL_mid : ∀ (vs a b c : List Value), b.length = vs.length → setsL (a ++ (b ++ c)) a.length vs = a ++ (vs ++ c)
  | [], a, b, c, h => by
    have : b = [] := List.eq_nil_of_length_eq_zero h
    subst this; rfl
  | v :: vs, a, [], c, h => by simp at h
  | v :: vs, a, u :: b, c, h => by
    show setsL ((a ++ (u :: b ++ c)).set a.length v) (a.length + 1) vs = _
    have e1 : (a ++ (u :: b ++ c)).set a.length v = (a ++ [v]) ++ (b ++ c) := by
      rw [List.set_append_right _ _ (Nat.le_refl _), Nat.sub_self]; simp
    rw [e1]
    have := setsL_mid vs (a ++ [v]) b c (by simpa using h)
    rw [List.length_append] at this
    simpa using this
/-- the same at a place that is told -/
theorem setsL_at {vs a b c : List Value} {o : Nat} (ho : a.length = o) (h : b.length = vs.length) : setsL (a ++ (b ++ c)) o vs = a ++ (vs ++ c) := by subst ho; exact setsL_mid vs a b c h
/-- cells set within the middle -/
theorem setsL_in : ∀ {vs a b d : List Value} {o r : Nat}, a.length = o → r + vs.length ≤ b.length → setsL (a ++ (b ++ d)) (o + r) vs = a ++ (setsL b r vs ++ d)
  | [], a, b, d, o, r, _, _ => rfl
  | v :: vs, a, b, d, o, r, ho, h => by
    subst ho
    simp only [List.length_cons] at h
    show setsL ((a ++ (b ++ d)).set (a.length + r) v) (a.length + r + 1) vs = a ++ (setsL (b.set r v) (r + 1) vs ++ d)
    rw [List.set_append_right _ _ (by omega), Nat.add_sub_cancel_left, List.set_append_left _ _ (by omega), Nat.add_assoc]
    exact setsL_in rfl (by rw [List.length_set]; omega)
theorem size_setsW {g : Nat} (vs : List Value) (o : Nat) (w : World) : w.heap.size ≤ (setsW w g o vs).heap.size := (ch_setsW vs o w).size
/-- a cell in the middle of an owned row -/
theorem own_mid {w : World} {base e sz n c g o r : Nat} {a b d : List Value} {v : Value} (h : w.ownsRow base e sz (.slice (some ⟨g, 0, none⟩) n c) n (a ++ (b ++ d))) (ho : a.length = o) (hr : b[r]? = some v) : w.cell? ⟨g, o + r, none⟩ = some v := by
  subst ho
  have hrl : r < b.length := (List.getElem?_eq_some_iff.1 hr).1
  have hc := h.cells (g := g) rfl (a.length + r) v (by rw [List.getElem?_append_right (by omega), Nat.add_sub_cancel_left, List.getElem?_append_left hrl]; exact hr)
  rw [Addr.add_lit] at hc
  simpa using hc
theorem take_more {α : Type} {l : List α} {k : Nat} {x : α} (h : l[k]? = some x) : l.take (k + 1) = l.take k ++ [x] := by
  obtain ⟨h1, h2⟩ := List.getElem?_eq_some_iff.1 h
  rw [List.take_succ_eq_append_getElem h1, h2]
theorem drop_one {α : Type} {l : List α} {k : Nat} {x : α} (h : l[k]? = some x) : l.drop k = x :: l.drop (k + 1) := by
  obtain ⟨h1, h2⟩ := List.getElem?_eq_some_iff.1 h
  rw [List.drop_eq_getElem_cons h1, h2]
theorem nodup_new {a b : List Nat} {m : Nat} (ha : a.Nodup) (hb : b.Nodup) (h1 : ∀ x ∈ a, x < m) (h2 : ∀ x ∈ b, m ≤ x) : (a ++ b).Nodup :=
  List.nodup_append.2 ⟨ha, hb, fun x hx y hy e => by have := h1 x hx; have := h2 y hy; omega⟩
end Go.Proofs.YtdphdnllhmnelaaGreat
/- Contracts of the laws' helpers on []int and []bool; rows given by a function of the place. -/
namespace Go.Proofs.YtdphdnllhmnelaaGreat
open Go.RowKit

/-- n cells lie at A: cell i holds f i -/
def ValsAt (w : World) (A : Option Addr) (n : Nat) (f : Nat → Value) : Prop :=
  0 < n → ∃ b off, A = some ⟨b, off, none⟩ ∧ b < w.heap.size ∧ ∀ i, i < n → w.cell? ⟨b, off + i, none⟩ = some (f i)
section
variable {w w' : World} {A : Option Addr} {n : Nat} {f : Nat → Value}
theorem ValsAt.keep (h : ValsAt w A n f) (hb : Below w.heap.size w w') : ValsAt w' A n f := fun hn => by
  obtain ⟨b, off, rfl, hlt, hc⟩ := h hn
  exact ⟨b, off, rfl, Nat.lt_of_lt_of_le hlt hb.size, fun i hi => keep_cell hb (hc i hi)⟩
theorem ValsAt.of_own {base e c : Nat} {xs : List Value} (h : w.ownsRow base e 1 (.slice A n c) n xs) (hx : ∀ j, j < n → xs[j]? = some (f j)) : ValsAt w A n f := fun hn => by
  obtain ⟨b, off, rfl, hc⟩ := (own_cells h).2 hn
  exact ⟨b, off, rfl, cell_lt (hc 0 _ (hx 0 hn)), fun i hi => hc i _ (hx i hi)⟩
end
def intV (f : Nat → Int) (i : Nat) : Value := .int .i64 (f i)
def boolV (f : Nat → Bool) (i : Nat) : Value := .bool (f i)

theorem infoInt : (Tryz.prog.info? 3).map (fun i => (i.zero, i.size, i.bytes)) = some (some (.int .i64 0), 1, 8) := by kernel_rfl
theorem infoBool : (Tryz.prog.info? 4).map (fun i => (i.zero, i.size, i.bytes)) = some (some (.bool false), 1, 1) := by kernel_rfl


theorem toInts_any (A : Option Addr) (n c : Nat) (f : Nat → Int) (w : World) (h : ValsAt w A n (intV f)) (hn : n ≤ 16777216) :
    Calls Tryz.prog 8 #[.slice A n c] w fun e w' => ∃ g xs, e = .returned (.slice (some ⟨g, 0, none⟩) n n) ∧ w'.ownsRow w.heap.size 3 1 (.slice (some ⟨g, 0, none⟩) n n) n xs ∧ (∀ j, j < n → xs[j]? = some (intV f j)) ∧ Below w.heap.size w w' := by
  go_enter Tryz.func8, Tryz.ntmps8
  go_wp2_with (refine wpList_mk (P := Tryz.prog) _ rfl _ _ 23 rfl w.heap.size 3 _ 1 8 Tryz.underlying23 infoInt _ _ _ _ n rfl rfl rfl rfl (by omega) (by unfold maxLen; omega) (Nat.le_refl _) ?_; intro w1 hown1 hg1 hb1)
  clear hg1
  go_loopw [4] (fun i wr => ∃ (k : Nat) (xs : List Value), k ≤ n ∧ i = .int .i64 k ∧ wr.ownsRow w.heap.size 3 1 (.slice (some ⟨w.heap.size, 0, none⟩) n n) n xs ∧ (∀ j, j < k → xs[j]? = some (intV f j)) ∧ Below w.heap.size w wr) (fun i _ => n - (intOf i).toNat)
  case atStart => exact ⟨0, _, Nat.zero_le _, rfl, hown1, fun j hj => absurd hj (by omega), hb1⟩
  case round =>
    obtain ⟨k, xs, hk, rfl, hown, hx, hb⟩ := hrel
    have HX := Lib.hid hx; clear hx
    by_cases hlt : k < n
    · obtain ⟨b, off, rfl, hbl, hc⟩ := h (by omega)
      have hck := (hb.cell (p := ⟨b, off + k, none⟩) hbl).trans (hc k hlt)
      clear hc
      unfold intV at hck
      obtain ⟨old, hold⟩ := own_cell hown (j := k) (by omega)
      have hfr := hown.frozenAt k
      go_wp2
      obtain ⟨hown2, hg2⟩ := hown.stored k (.int .i64 (f k))
      exact ⟨⟨k + 1, _, by omega, by go_num, hown2, set_upto (n := n) (by simpa using hown.1) hlt HX.out rfl, hb.grown hg2 hb.size (by simp)⟩, by simp [intOf]; omega⟩
    · go_wp2
      go_returns
      have : k = n := by omega
      subst this
      exact ⟨_, xs, rfl, hown, HX.out, hb⟩

theorem eqInts_same (A A' : Option Addr) (n c c' : Nat) (f : Nat → Int) (w : World) (h : ValsAt w A n (intV f)) (h' : ValsAt w A' n (intV f)) (hn : n ≤ 1152921504606846975) :
    Calls Tryz.prog 12 #[.slice A n c, .slice A' n c'] w fun e w' => e = .returned (.bool true) ∧ Below w.heap.size w w' := by
  go_enter Tryz.func12, Tryz.ntmps12
  go_wp2
  go_loopw [5] (fun i wr => ∃ (k : Nat), k ≤ n ∧ i = .int .i64 k ∧ Below w.heap.size w wr) (fun i _ => n - (intOf i).toNat)
  case atStart => exact ⟨0, Nat.zero_le _, rfl, Below.refl _ _⟩
  case round =>
    obtain ⟨k, hk, rfl, hb⟩ := hrel
    by_cases hlt : k < n
    · obtain ⟨b, off, rfl, hbl, hc⟩ := h (by omega)
      have hck := (hb.cell (p := ⟨b, off + k, none⟩) hbl).trans (hc k hlt)
      clear hc
      obtain ⟨b', off', rfl, hbl', hc'⟩ := h' (by omega)
      have hck' := (hb.cell (p := ⟨b', off' + k, none⟩) hbl').trans (hc' k hlt)
      clear hc'
      unfold intV at hck hck'
      go_wp2
      go_quiet (fail)
      go_wp2
      exact ⟨⟨k + 1, by omega, by go_num, below_drewN hb _⟩, by simp [intOf]; omega⟩
    · go_wp2
      go_returns
      exact ⟨rfl, hb⟩
end Go.Proofs.YtdphdnllhmnelaaGreat
/- Contracts of the laws' helpers on []int and []bool of the call's own: copy, marks. -/
namespace Go.Proofs.YtdphdnllhmnelaaGreat
open Go.RowKit

/-- a row of one cell each, given by the place -/
def RowF (e lo hi : Nat) (w : World) (A : Option Addr) (n c : Nat) (f : Nat → Value) : Prop := RowIn e 1 lo hi w A n c ((List.range n).map f)
section
variable {e lo hi lo' hi' n c : Nat} {w w' : World} {A : Option Addr} {f : Nat → Value}
theorem RowF.ch {S : Nat → Prop} (h : RowF e lo hi w A n c f) (hc : Ch S w w') (hS : ∀ k, Iv lo hi k → ¬ S k) : RowF e lo hi w' A n c f := RowIn.ch h hc hS
theorem RowF.chb {S : Nat → Prop} (h : RowF e lo hi w A n c f) (hc : Ch S w w') (hS : ∀ k, BlkOf A k → ¬ S k) : RowF e lo hi w' A n c f :=
  ⟨own_ch (RowIn.own h) hc (fun k hk => hS k (blk_of hk)), RowIn.lt h⟩
theorem RowF.keep (h : RowF e lo hi w A n c f) (hb : Below w.heap.size w w') : RowF e lo hi w' A n c f := RowIn.keep h hb
theorem RowF.wide (h : RowF e lo hi w A n c f) (h1 : lo' ≤ lo) (h2 : hi ≤ hi') : RowF e lo' hi' w A n c f := RowIn.wide h h1 h2
theorem RowF.vals (h : RowF e lo hi w A n c f) : ValsAt w A n f := ValsAt.of_own (RowIn.own h) (fun j hj => by simp [hj])
theorem RowF.of_own {xs : List Value} (h : w.ownsRow lo e 1 (.slice A n c) n xs) (hx : ∀ j, j < n → xs[j]? = some (f j)) : RowF e lo w.heap.size w A n c f := by
  have e1 := list_of_get (n := n) (by simpa using h.1) hx
  subst e1
  exact RowIn.of_own h
theorem RowF.nil : RowF e lo hi w none 0 0 f := RowIn.nil
theorem RowF.blk (h : RowF e lo hi w A n c f) {g : Nat} (hg : BlkOf A g) : Iv lo hi g ∧ g < w.heap.size := RowIn.blk h hg
theorem RowF.congr {f' : Nat → Value} (h : RowF e lo hi w A n c f) (hf : ∀ j, j < n → f j = f' j) : RowF e lo hi w A n c f' := by
  unfold RowF at h ⊢
  rwa [List.map_congr_left (fun j hj => hf j (List.mem_range.1 hj))] at h
/-- a cell of a row is stored -/
theorem RowF.store {g : Nat} (h : RowF e lo hi w (some ⟨g, 0, none⟩) n c f) (j : Nat) (v : Value) :
    RowF e lo hi (w.setCell ⟨g, j, none⟩ v) (some ⟨g, 0, none⟩) n c (fun i => if i = j then v else f i) := by
  have h2 := (RowIn.store h j v).1
  unfold RowF
  have e2 : ((List.range n).map f).set j v = (List.range n).map (fun i => if i = j then v else f i) := by
    apply List.ext_getElem?
    intro i
    rw [List.getElem?_set]
    by_cases hij : j = i
    · subst hij
      by_cases hj : j < n <;> simp [hj]
    · rw [if_neg hij]
      by_cases hi : i < n
      · simp [hi, Ne.symm hij]
      · simp [hi]
  rwa [e2] at h2
end

def mkI (k : Int) (j : Nat) : Int := k + (j : Int)
def mkB (k : Int) (j : Nat) : Bool := (k + (j : Int)) % 3 == 0

theorem toInts_row (A : Option Addr) (n c : Nat) (f : Nat → Int) (w : World) (h : ValsAt w A n (intV f)) (hn : n ≤ 16777216) :
    Calls Tryz.prog 8 #[.slice A n c] w fun e w' => ∃ g, e = .returned (.slice (some ⟨g, 0, none⟩) n n) ∧ RowF 3 w.heap.size w'.heap.size w' (some ⟨g, 0, none⟩) n n (intV f) ∧ Below w.heap.size w w' :=
  (toInts_any A n c f w h hn).mono fun e w' ⟨g, xs, he, ho, hx, hb⟩ => ⟨g, he, RowF.of_own ho hx, hb⟩

theorem markInts_row (A : Option Addr) (n c : Nat) (xs : List Value) (k0 : Int) (lo hi e : Nat) (w : World) (h : RowIn e 1 lo hi w A n c xs) (hn : n ≤ 16777216) (hk0 : 0 ≤ k0) (hk1 : k0 ≤ 4611686018427387904) :
    Calls Tryz.prog 14 #[.slice A n c, .int .i64 k0] w fun e' w' => e' = .returned (.int .i64 (k0 + n)) ∧ RowF e lo hi w' A n c (intV (mkI k0)) ∧ Ch (BlkOf A) w w' := by
  go_enter Tryz.func14, Tryz.ntmps14
  go_wp2
  go_loopw [1, 5] (fun u i wr => ∃ (k : Nat) (xs : List Value), k ≤ n ∧ i = .int .i64 k ∧ u = .int .i64 (k0 + k) ∧ RowIn e 1 lo hi wr A n c xs ∧ (∀ j, j < k → xs[j]? = some (intV (mkI k0) j)) ∧ Ch (BlkOf A) w wr) (fun _ i _ => n - (intOf i).toNat)
  case atStart => exact ⟨0, xs, Nat.zero_le _, rfl, by simp, h, fun j hj => absurd hj (by omega), Ch.refl _⟩
  case round =>
    obtain ⟨k, xs, hk, rfl, rfl, hown, hx, hb⟩ := hrel
    have HX := Lib.hid hx; clear hx
    by_cases hlt : k < n
    · obtain ⟨g, rfl⟩ := hown.head (by omega)
      obtain ⟨old, hold⟩ := own_cell hown.own (j := k) (by omega)
      have hfr := hown.own.frozenAt k
      go_wp2
      obtain ⟨hown2, _⟩ := hown.store k (.int .i64 (k0 + k))
      exact ⟨⟨k + 1, _, by omega, by go_num, by congr 1; push_cast; omega, hown2, set_upto (n := n) (by simpa using hown.len) hlt HX.out rfl, hb.setCell (p := ⟨g, k, none⟩) rfl _⟩, by simp [intOf]; omega⟩
    · go_wp2
      go_returns
      have : k = n := by omega
      subst this
      refine ⟨rfl, ?_, hb⟩
      have e1 := list_of_get (n := k) (by simpa using hown.len) HX.out
      subst e1
      exact hown

end Go.Proofs.YtdphdnllhmnelaaGreat
/- The laws' helpers on []int in one shape. -/
namespace Go.Proofs.YtdphdnllhmnelaaGreat
open Go.RowKit

def iAt (l : List Int) (i : Nat) : Int := l.getD i 0
theorem iAt_get {l : List Int} {k : Nat} (h : k < l.length) : iAt l k = l[k] := by simp [iAt, h]
theorem map_iAt (l : List Int) : (List.range l.length).map (intV (iAt l)) = l.map (Value.int .i64) := by
  apply List.ext_getElem?
  intro j
  rcases Nat.lt_or_ge j l.length with hj | hj
  · simp [hj, iAt, intV]
  · rw [List.getElem?_eq_none (by simp; omega), List.getElem?_eq_none (by simp; omega)]
/-- a row of ints -/
def IntsAt (w : World) (A : Option Addr) (n : Nat) (l : List Int) : Prop := n = l.length ∧ ValsAt w A n (intV (iAt l))
theorem IntsAt.keep {w w' : World} {A : Option Addr} {n : Nat} {l : List Int} (h : IntsAt w A n l) (hb : Below w.heap.size w w') : IntsAt w' A n l := ⟨h.1, h.2.keep hb⟩
theorem IntsAt.at_ {w : World} {A : Option Addr} {n : Nat} {l : List Int} (h : IntsAt w A n l) (hn : 0 < n) :
    ∃ b off, A = some ⟨b, off, none⟩ ∧ b < w.heap.size ∧ ∀ i, i < n → w.cell? ⟨b, off + i, none⟩ = some (.int .i64 (iAt l i)) := h.2 hn
structure IntsOk (w : World) (A : Option Addr) (n : Nat) (l : List Int) : Prop where
  at_ : IntsAt w A n l
  bn : n ≤ 9223372036854775807
theorem IntsOk.keep {w w' : World} {A : Option Addr} {n : Nat} {l : List Int} (h : IntsOk w A n l) (hb : Below w.heap.size w w') : IntsOk w' A n l := ⟨h.at_.keep hb, h.bn⟩
structure IntsIn (lo hi : Nat) (w : World) (A : Option Addr) (n c : Nat) (l : List Int) : Prop where
  row : RowIn 3 1 lo hi w A n c (l.map (Value.int .i64))
section
variable {lo hi lo' hi' n c : Nat} {w w' : World} {A : Option Addr} {l : List Int}
theorem IntsIn.keep (h : IntsIn lo hi w A n c l) (hb : Below w.heap.size w w') : IntsIn lo hi w' A n c l := ⟨h.row.keep hb⟩
theorem IntsIn.ch {S : Nat → Prop} (h : IntsIn lo hi w A n c l) (hc : Ch S w w') (hS : ∀ k, Iv lo hi k → ¬ S k) : IntsIn lo hi w' A n c l := ⟨h.row.ch hc hS⟩
theorem IntsIn.wide (h : IntsIn lo hi w A n c l) (h1 : lo' ≤ lo) (h2 : hi ≤ hi') : IntsIn lo' hi' w A n c l := ⟨h.row.wide h1 h2⟩
theorem IntsIn.len (h : IntsIn lo hi w A n c l) : n = l.length := by have := h.row.len; simp at this; omega
theorem IntsIn.rowF (h : IntsIn lo hi w A n c l) : RowF 3 lo hi w A n c (intV (iAt l)) := by
  have hr := h.row
  unfold RowF
  rw [h.len, map_iAt]
  rwa [h.len] at hr
theorem IntsIn.of_rowF (h : RowF 3 lo hi w A n c (intV (iAt l))) (hn : n = l.length) : IntsIn lo hi w A n c l := by
  subst hn
  unfold RowF at h
  rw [map_iAt] at h
  exact ⟨h⟩
theorem IntsIn.at_ (h : IntsIn lo hi w A n c l) : IntsAt w A n l := ⟨h.len, h.rowF.vals⟩
theorem IntsIn.of_own (h : w.ownsRow lo 3 1 (.slice A n c) n (l.map (Value.int .i64))) : IntsIn lo w.heap.size w A n c l := ⟨RowIn.of_own h⟩
theorem IntsIn.nil : IntsIn lo hi w none 0 0 [] := ⟨RowIn.nil⟩
end
/-- the answer is ints in memory of the call's own -/
def IntsR (l : List Int) (w : World) (e : Ending) (w' : World) : Prop :=
  ∃ A n c, e = .returned (.slice A n c) ∧ IntsIn w.heap.size w'.heap.size w' A n c l ∧ Below w.heap.size w w'
def intsSz (l : List Int) : Nat := l.length
def intsMk (k : Int) (l : List Int) : List Int := (List.range l.length).map (mkI k)
def intsCnt (l : List Int) : Nat := l.length
theorem ints_cnt (l : List Int) : intsCnt l ≤ intsSz l := Nat.le_refl _
theorem iAt_mk {k : Int} {l : List Int} {j : Nat} (h : j < l.length) : iAt (intsMk k l) j = mkI k j := by simp [iAt, intsMk, h]
theorem ints_n {w : World} {A : Option Addr} {n : Nat} {l : List Int} {m : Nat} (h : IntsAt w A n l) (hs : intsSz l ≤ m) : n ≤ m := by
  have := h.1; unfold intsSz at hs; omega
theorem ints_to (A : Option Addr) (n c : Nat) (l : List Int) (w : World) (h : IntsAt w A n l) (hs : intsSz l ≤ 1048576) :
    Calls Tryz.prog 8 #[.slice A n c] w fun e w' => ∃ A' n' c', e = .returned (.slice A' n' c') ∧ IntsIn w.heap.size w'.heap.size w' A' n' c' l ∧ Below w.heap.size w w' :=
  (toInts_row A n c (iAt l) w h.2 (by have := ints_n h hs; omega)).mono fun e w' ⟨g, he, hr, hb⟩ => ⟨_, _, _, he, IntsIn.of_rowF hr h.1, hb⟩
theorem ints_eq (A : Option Addr) (n c : Nat) (A' : Option Addr) (n' c' : Nat) (l : List Int) (w : World) (h : IntsAt w A n l) (h' : IntsAt w A' n' l) (hs : intsSz l ≤ 16777216) :
    Calls Tryz.prog 12 #[.slice A n c, .slice A' n' c'] w fun e w' => e = .returned (.bool true) ∧ Below w.heap.size w w' := by
  obtain rfl : n = n' := h.1.trans h'.1.symm
  exact eqInts_same A A' n c c' (iAt l) w h.2 h'.2 (by have := ints_n h hs; omega)
theorem ints_markb (A : Option Addr) (n c : Nat) (l : List Int) (k : Int) (lo hi : Nat) (w : World) (h : IntsIn lo hi w A n c l) (hs : intsSz l ≤ 16777216) (hk0 : 0 < k) (hk1 : k ≤ 576460752303423488) :
    Calls Tryz.prog 14 #[.slice A n c, .int .i64 k] w fun e w' => e = .returned (.int .i64 (k + (intsCnt l : Nat))) ∧ IntsIn lo hi w' A n c (intsMk k l) ∧ Ch (BlkOf A) w w' :=
  (markInts_row A n c _ k lo hi _ w h.row (ints_n h.at_ hs) (by omega) (by omega)).mono fun e w' ⟨h1, h2, h3⟩ =>
    ⟨by rw [h1]; unfold intsCnt; rw [← h.len], IntsIn.of_rowF (h2.congr fun j hj => by unfold intV; rw [iAt_mk (by have := h.len; omega)]) (by rw [h.len]; simp [intsMk]), h3⟩
theorem ints_mark (A : Option Addr) (n c : Nat) (l : List Int) (k : Int) (lo hi : Nat) (w : World) (h : IntsIn lo hi w A n c l) (hs : intsSz l ≤ 16777216) (hk0 : 0 < k) (hk1 : k ≤ 576460752303423488) :
    Calls Tryz.prog 14 #[.slice A n c, .int .i64 k] w fun e w' => e = .returned (.int .i64 (k + (intsCnt l : Nat))) ∧ IntsIn lo hi w' A n c (intsMk k l) ∧ Ch (Iv lo hi) w w' :=
  (markInts_row A n c _ k lo hi _ w h.row (ints_n h.at_ hs) (by omega) (by omega)).mono fun e w' ⟨h1, h2, h3⟩ =>
    ⟨by rw [h1]; unfold intsCnt; rw [← h.len], IntsIn.of_rowF (h2.congr fun j hj => by unfold intV; rw [iAt_mk (by have := h.len; omega)]) (by rw [h.len]; simp [intsMk]), h3.mono fun g hg => (h.row.blk hg).1⟩
end Go.Proofs.YtdphdnllhmnelaaGreat
/- The laws' helpers on []string and []int in the shape of kinds; rows read element by element. -/
namespace Go.Proofs.YtdphdnllhmnelaaGreat
open Go.RowKit

/-! ### texts -/
def StrR (w : World) (A : Option Addr) (n c : Nat) (l : List ByteArray) : Prop := StrsAt w A n l ∧ (A = none → c = 0)
def StrO (fp : List Nat) (w : World) (A : Option Addr) (n c : Nat) (l : List ByteArray) : Prop := fp = blkL A ∧ w.ownsRow 0 9 1 (.slice A n c) n (l.map Value.string)
def strB (l : List ByteArray) : Prop := l.length ≤ 9223372036854775807 ∧ ∀ y ∈ l, y.size ≤ 9223372036854775807
section
variable {fp : List Nat} {w w' : World} {A : Option Addr} {n c lo hi : Nat} {l : List ByteArray}
theorem StrR.len (h : StrR w A n c l) : n = l.length := h.1.1
theorem StrR.keep (h : StrR w A n c l) (hb : Below w.heap.size w w') : StrR w' A n c l := ⟨h.1.keep hb, h.2⟩
theorem StrR.ok (h : StrR w A n c l) (hb : strB l) : StrsOk w A n l := ⟨h.1, by have := h.len; have := hb.1; omega, fun i hi => by
  have hl : i < l.length := by have := h.len; omega
  have : sAt l i = l[i] := by simp [sAt, hl]
  rw [this]; exact hb.2 _ (List.getElem_mem hl)⟩
theorem StrO.ch {S : Nat → Prop} (h : StrO fp w A n c l) (hc : Ch S w w') (hS : ∀ b ∈ fp, ¬ S b) : StrO fp w' A n c l := by
  obtain ⟨rfl, h⟩ := h; exact ⟨rfl, own_chL h hc hS⟩
theorem StrO.keep (h : StrO fp w A n c l) (hb : Below w.heap.size w w') : StrO fp w' A n c l := h.ch (S := fun _ => False) (Ch.of_below hb) (fun _ _ h => h)
theorem StrO.lt (h : StrO fp w A n c l) : ∀ b ∈ fp, b < w.heap.size := by obtain ⟨rfl, h⟩ := h; exact fun b hb => (own_lo h b hb).2
theorem StrO.at_ (h : StrO fp w A n c l) : StrR w A n c l := ⟨(StrsIn.of_own h.2).at_, own_none h.2⟩
theorem StrO.nil : StrO [] w none 0 0 [] := ⟨rfl, World.ownsRow_nil w 0 _ 1⟩
theorem StrO.of_in (h : StrsIn lo hi w A n c l) : ∃ fp, fp.Nodup ∧ (∀ b ∈ fp, lo ≤ b ∧ b < hi) ∧ StrO fp w A n c l :=
  ⟨blkL A, by cases A <;> simp [blkL], fun b hb => (h.row.blk (mem_blkL.1 hb)).1, rfl, own_up h.row.own (Nat.zero_le _)⟩
theorem StrO.row (h : StrO fp w A n c l) (hf : ∀ b ∈ fp, lo ≤ b ∧ b < hi) : StrsIn lo hi w A n c l := by
  obtain ⟨rfl, h⟩ := h
  exact ⟨⟨own_raise h (fun b hb => (hf b hb).1), fun g hg => (hf g (mem_blkL.2 hg)).2⟩⟩
end
theorem strsR_sz (l : List ByteArray) (A : Option Addr) (n c : Nat) (left : Int) (w : World) (h : StrR w A n c l) (hb : strB l) (hl0 : 0 ≤ left) (hl1 : left ≤ 4611686018427387904) :
    Calls Tryz.prog 78 #[.slice A n c, .int .i64 left] w fun e w' => e = .returned (.int .i64 (szR left (strsSz l))) ∧ Below w.heap.size w w' := strs_sz A n c l left w (h.ok hb) hl0 hl1
theorem strsR_to (l : List ByteArray) (A : Option Addr) (n c : Nat) (w : World) (h : StrR w A n c l) (hs : strsSz l ≤ 1048576) :
    Calls Tryz.prog 80 #[.slice A n c] w fun e w' => ∃ A' n' c', e = .returned (.slice A' n' c') ∧ (∃ fp, fp.Nodup ∧ (∀ b ∈ fp, w.heap.size ≤ b ∧ b < w'.heap.size) ∧ StrO fp w' A' n' c' l) ∧ Below w.heap.size w w' :=
  (strs_to A n c l w h.1 hs).mono fun e w' ⟨A', n', c', h1, h2, h3⟩ => ⟨A', n', c', h1, StrO.of_in h2, h3⟩
theorem strsR_eq (l : List ByteArray) (A : Option Addr) (n c : Nat) (A' : Option Addr) (n' c' : Nat) (w : World) (h : StrR w A n c l) (h' : StrR w A' n' c' l) (hs : strsSz l ≤ 16777216) :
    Calls Tryz.prog 84 #[.slice A n c, .slice A' n' c'] w fun e w' => e = .returned (.bool true) ∧ Below w.heap.size w w' := strs_eq A n c A' n' c' l w h.1 h'.1 hs
theorem strsR_mark (l : List ByteArray) (fp : List Nat) (A : Option Addr) (n c : Nat) (k : Int) (w : World) (h : StrO fp w A n c l) (hs : strsSz l ≤ 16777216) (hk0 : 0 < k) (hk1 : k ≤ 576460752303423488) :
    Calls Tryz.prog 42 #[.slice A n c, .int .i64 k] w fun e w' => e = .returned (.int .i64 (k + (strsCnt l : Nat))) ∧ StrO fp w' A n c (strsMk k l) ∧ Ch (fun b => b ∈ fp) w w' := by
  obtain ⟨rfl, h⟩ := h
  have hin := StrsIn.of_own h
  refine (markStrs_row A n c _ k 0 w.heap.size _ w hin.row (strs_n hin.at_ hs) hk0 hk1).mono ?_
  rintro e w' ⟨h1, h2, h3⟩
  exact ⟨by rw [h1]; unfold strsCnt; rw [← hin.at_.1], ⟨rfl, by unfold strsMk; rw [← hin.at_.1]; exact h2.own⟩, h3.mono fun g hg => mem_blkL.2 hg⟩
theorem strsR_held (l : List ByteArray) (A : Option Addr) (n c : Nat) (k : Int) (w : World) (h : StrR w A n c (strsMk k l)) (hs : strsSz l ≤ 16777216) (hk0 : 0 < k) (hk1 : k ≤ 576460752303423488) :
    Calls Tryz.prog 181 #[.slice A n c, .int .i64 k] w fun e w' => e = .returned (.int .i64 (k + (strsCnt l : Nat))) ∧ Below w.heap.size w w' := strs_held A n c l k w h.1 hs hk0 hk1

/-! ### ints -/
def IntR (w : World) (A : Option Addr) (n c : Nat) (l : List Int) : Prop := IntsAt w A n l ∧ (A = none → c = 0)
def IntO (fp : List Nat) (w : World) (A : Option Addr) (n c : Nat) (l : List Int) : Prop := fp = blkL A ∧ w.ownsRow 0 3 1 (.slice A n c) n (l.map (Value.int .i64))
def intB (l : List Int) : Prop := l.length ≤ 9223372036854775807
section
variable {fp : List Nat} {w w' : World} {A : Option Addr} {n c lo hi : Nat} {l : List Int}
theorem IntR.len (h : IntR w A n c l) : n = l.length := h.1.1
theorem IntR.keep (h : IntR w A n c l) (hb : Below w.heap.size w w') : IntR w' A n c l := ⟨h.1.keep hb, h.2⟩
theorem IntR.ok (h : IntR w A n c l) (hb : intB l) : IntsOk w A n l := ⟨h.1, by have := h.len; unfold intB at hb; omega⟩
theorem IntO.ch {S : Nat → Prop} (h : IntO fp w A n c l) (hc : Ch S w w') (hS : ∀ b ∈ fp, ¬ S b) : IntO fp w' A n c l := by
  obtain ⟨rfl, h⟩ := h; exact ⟨rfl, own_chL h hc hS⟩
theorem IntO.keep (h : IntO fp w A n c l) (hb : Below w.heap.size w w') : IntO fp w' A n c l := h.ch (S := fun _ => False) (Ch.of_below hb) (fun _ _ h => h)
theorem IntO.lt (h : IntO fp w A n c l) : ∀ b ∈ fp, b < w.heap.size := by obtain ⟨rfl, h⟩ := h; exact fun b hb => (own_lo h b hb).2
theorem IntO.at_ (h : IntO fp w A n c l) : IntR w A n c l := ⟨(IntsIn.of_own h.2).at_, own_none h.2⟩
theorem IntO.nil : IntO [] w none 0 0 [] := ⟨rfl, World.ownsRow_nil w 0 _ 1⟩
theorem IntO.of_in (h : IntsIn lo hi w A n c l) : ∃ fp, fp.Nodup ∧ (∀ b ∈ fp, lo ≤ b ∧ b < hi) ∧ IntO fp w A n c l :=
  ⟨blkL A, by cases A <;> simp [blkL], fun b hb => (h.row.blk (mem_blkL.1 hb)).1, rfl, own_up h.row.own (Nat.zero_le _)⟩
theorem IntO.row (h : IntO fp w A n c l) (hf : ∀ b ∈ fp, lo ≤ b ∧ b < hi) : IntsIn lo hi w A n c l := by
  obtain ⟨rfl, h⟩ := h
  exact ⟨⟨own_raise h (fun b hb => (hf b hb).1), fun g hg => (hf g (mem_blkL.2 hg)).2⟩⟩
end
theorem intsR_to (l : List Int) (A : Option Addr) (n c : Nat) (w : World) (h : IntR w A n c l) (hs : intsSz l ≤ 1048576) :
    Calls Tryz.prog 8 #[.slice A n c] w fun e w' => ∃ A' n' c', e = .returned (.slice A' n' c') ∧ (∃ fp, fp.Nodup ∧ (∀ b ∈ fp, w.heap.size ≤ b ∧ b < w'.heap.size) ∧ IntO fp w' A' n' c' l) ∧ Below w.heap.size w w' :=
  (ints_to A n c l w h.1 hs).mono fun e w' ⟨A', n', c', h1, h2, h3⟩ => ⟨A', n', c', h1, IntO.of_in h2, h3⟩
theorem intsR_eq (l : List Int) (A : Option Addr) (n c : Nat) (A' : Option Addr) (n' c' : Nat) (w : World) (h : IntR w A n c l) (h' : IntR w A' n' c' l) (hs : intsSz l ≤ 16777216) :
    Calls Tryz.prog 12 #[.slice A n c, .slice A' n' c'] w fun e w' => e = .returned (.bool true) ∧ Below w.heap.size w w' := ints_eq A n c A' n' c' l w h.1 h'.1 hs
theorem intsR_mark (l : List Int) (fp : List Nat) (A : Option Addr) (n c : Nat) (k : Int) (w : World) (h : IntO fp w A n c l) (hs : intsSz l ≤ 16777216) (hk0 : 0 < k) (hk1 : k ≤ 576460752303423488) :
    Calls Tryz.prog 14 #[.slice A n c, .int .i64 k] w fun e w' => e = .returned (.int .i64 (k + (intsCnt l : Nat))) ∧ IntO fp w' A n c (intsMk k l) ∧ Ch (fun b => b ∈ fp) w w' := by
  obtain ⟨rfl, h⟩ := h
  have hin := IntsIn.of_own h
  refine (markInts_row A n c _ k 0 w.heap.size _ w hin.row (ints_n hin.at_ hs) (by omega) (by omega)).mono ?_
  rintro e w' ⟨h1, h2, h3⟩
  have hl := hin.len
  exact ⟨by rw [h1]; unfold intsCnt; rw [← hl], ⟨rfl, by
    have := h2.own
    unfold intsMk
    rw [List.map_map, ← hl]
    exact this⟩, h3.mono fun g hg => mem_blkL.2 hg⟩

section
variable {α : Type} {R : World → List Value → α → Prop} {sz n c : Nat} {w : World} {A : Option Addr} {l : List α}
/-- element i of a row that is read -/
theorem RowR.elem (h : RowR R sz w A n c l) {i : Nat} (hi : i < n) : ∃ b off x cs, A = some ⟨b, off, none⟩ ∧ b < w.heap.size ∧ l[i]? = some x ∧ R w cs x ∧ ∀ j u, cs[j]? = some u → w.cell? ⟨b, off + i * sz + j, none⟩ = some u := by
  obtain ⟨b, off, hA, hb, hc⟩ := h.1.2 (by omega)
  have hl := h.1.1
  have hx : l[i]? = some (l[i]'(by omega)) := List.getElem?_eq_getElem (by omega)
  obtain ⟨cs, h1, _, h3⟩ := hc i _ hx
  exact ⟨b, off, _, cs, hA, hb, hx, h1, h3⟩
/-- the same, with the row's place told ahead -/
theorem RowR.elem_at {b off : Nat} (h : RowR R sz w (some ⟨b, off, none⟩) n c l) {i : Nat} (hi : i < n) : b < w.heap.size ∧ ∃ x cs, l[i]? = some x ∧ R w cs x ∧ ∀ j u, cs[j]? = some u → w.cell? ⟨b, off + i * sz + j, none⟩ = some u := by
  obtain ⟨b', off', x, cs, hA, hb, h1⟩ := h.elem hi
  injection hA with hA; injection hA with e1 e2 _
  subst e1 e2
  exact ⟨hb, x, cs, h1⟩
theorem RowR.head (h : RowR R sz w A n c l) (hn : 0 < n) : ∃ b off, A = some ⟨b, off, none⟩ := by
  obtain ⟨b, off, hA, _⟩ := h.1.2 hn; exact ⟨b, off, hA⟩
end
theorem setsW_cell {g : Nat} : ∀ (vs : List Value) (o : Nat) (w : World), (∀ j, j < vs.length → ∃ u, w.cell? ⟨g, o + j, none⟩ = some u) → ∀ j v, vs[j]? = some v → (setsW w g o vs).cell? ⟨g, o + j, none⟩ = some v
  | [], _, _, _, j, v, h => by simp at h
  | u :: vs, o, w, hx, j, v, h => by
    show (setsW (w.setCell ⟨g, o, none⟩ u) g (o + 1) vs).cell? _ = _
    rcases j with _ | j
    · simp at h; subst h
      obtain ⟨u0, hu0⟩ := hx 0 (by simp)
      have h0 : (w.setCell ⟨g, o, none⟩ u).cell? ⟨g, o, none⟩ = some u := sethere hu0
      have : ∀ (ws : List Value) (p : Nat) (W : World), o < p → W.cell? ⟨g, o, none⟩ = some u → (setsW W g p ws).cell? ⟨g, o, none⟩ = some u := by
        intro ws
        induction ws with
        | nil => intro p W _ h; exact h
        | cons y ws ih => intro p W hp h; exact ih (p + 1) _ (by omega) (setoff h (.inr (by omega)))
      exact this vs (o + 1) _ (by omega) h0
    · have hx' : ∀ j, j < vs.length → ∃ u', (w.setCell ⟨g, o, none⟩ u).cell? ⟨g, o + 1 + j, none⟩ = some u' := fun j hj => by
        obtain ⟨u', hu'⟩ := hx (j + 1) (by simpa using hj)
        exact ⟨u', setoff (by rw [show o + 1 + j = o + (j + 1) by omega]; exact hu') (.inr (by omega))⟩
      have := setsW_cell vs (o + 1) _ hx' j v (by simpa using h)
      rwa [show o + 1 + j = o + (j + 1) by omega] at this
theorem bounds_el {α : Type} {P : α → Prop} {l : List α} {i : Nat} {x : α} (h : ∀ y ∈ l, P y) (hx : l[i]? = some x) : P x := h x (List.mem_of_getElem? hx)
/-- an element's size is below the row's -/
theorem sum_el {α : Type} (f : α → Nat) {l : List α} {i : Nat} {x : α} (hx : l[i]? = some x) : f x ≤ (l.map f).sum ∧ sumTo f l (i + 1) = sumTo f l i + f x := by
  obtain ⟨h1, h2⟩ := List.getElem?_eq_some_iff.1 hx
  have e := sumTo_succ f l i h1
  have e2 := sumTo_le f l (i + 1)
  rw [h2] at e
  exact ⟨by omega, e⟩
end Go.Proofs.YtdphdnllhmnelaaGreat
/- CSnap: how it lies in memory, the laws' helpers on it. -/
namespace Go.Proofs.YtdphdnllhmnelaaGreat
open Go.RowKit
structure Snp where
  nm : ByteArray
  tg : ByteArray
  ch : List ByteArray
def snpNil : Snp := ⟨ByteArray.empty, ByteArray.empty, []⟩
def snpAt (l : List Snp) (i : Nat) : Snp := l.getD i snpNil
theorem snpAt_get {l : List Snp} {k : Nat} (h : k < l.length) : snpAt l k = l[k] := by simp [snpAt, h]
theorem snpAt_of {l : List Snp} {k : Nat} {x : Snp} (h : l[k]? = some x) : snpAt l k = x := by simp [snpAt, h]
/-- its cells, its value -/
def snpL (x : Snp) (s1 : Value) : List Value := [.string x.nm, .string x.tg, s1]
def snpV (x : Snp) (s1 : Value) : Value := .agg #[.string x.nm, .string x.tg, s1]
def snpR (w : World) (cs : List Value) (x : Snp) : Prop := ∃ (A1 : Option Addr) (n1 c1 : Nat), cs = snpL x (.slice A1 n1 c1) ∧ StrR w A1 n1 c1 x.ch
def snpF (fp : List Nat) (w : World) (cs : List Value) (x : Snp) : Prop := ∃ (A1 : Option Addr) (n1 c1 : Nat) (f1 : List Nat), cs = snpL x (.slice A1 n1 c1) ∧ fp = f1 ∧ StrO f1 w A1 n1 c1 x.ch
theorem snpK : KindOk snpR snpF 3 where
  rlen := fun h => by obtain ⟨A1, n1, c1, rfl, h1⟩ := h; rfl
  rkeep := fun h hb => by obtain ⟨A1, n1, c1, rfl, h1⟩ := h; exact ⟨A1, n1, c1, rfl, h1.keep hb⟩
  flt := fun h b hb => by
    obtain ⟨A1, n1, c1, f1, rfl, rfl, h1⟩ := h
    exact h1.lt b hb
  fch := fun h hc hS => by
    obtain ⟨A1, n1, c1, f1, rfl, rfl, h1⟩ := h
    exact ⟨A1, n1, c1, _, rfl, rfl, h1.ch hc (fun b hb => hS b (by simp [hb]))⟩
  fr := fun h => by obtain ⟨A1, n1, c1, f1, rfl, rfl, h1⟩ := h; exact ⟨A1, n1, c1, rfl, h1.at_⟩
  one := fun h v hv => by
    obtain ⟨A1, n1, c1, rfl, h1⟩ := h
    simp only [snpL, List.mem_cons, List.not_mem_nil, or_false] at hv
    rcases hv with rfl | rfl | rfl <;> rfl
/-- its bounds -/
def snpB (x : Snp) : Prop := x.nm.size ≤ 9223372036854775807 ∧ x.tg.size ≤ 9223372036854775807 ∧ strB x.ch
def snpsB (l : List Snp) : Prop := l.length ≤ 9223372036854775807 ∧ ∀ y ∈ l, snpB y
def snpSz (x : Snp) : Nat := x.nm.size + x.tg.size + strsSz x.ch
def snpsSz (l : List Snp) : Nat := l.length + (l.map snpSz).sum
theorem snps_el {l : List Snp} {i : Nat} {x : Snp} (hx : l[i]? = some x) : snpSz x ≤ snpsSz l := by have := (sum_el snpSz hx).1; unfold snpsSz; omega
/-- its marks -/
def snpCnt (x : Snp) : Nat := 1 + 1 + strsCnt x.ch
def snpTop (x : Snp) : Nat := strsCnt x.ch
def snpsCnt (l : List Snp) : Nat := (l.map snpCnt).sum
def snpMk (k : Int) (x : Snp) : Snp := ⟨mtx k, mtx (k + 1), strsMk (k + 1 + 1) x.ch⟩
def snpsMk (k : Int) : List Snp → List Snp
  | [] => []
  | x :: l => snpMk k x :: snpsMk (k + (snpCnt x : Nat)) l
def snpTopMk (k : Int) (x : Snp) : Snp := ⟨x.nm, x.tg, strsMk k x.ch⟩
theorem snpsMk_len (k : Int) : ∀ l : List Snp, (snpsMk k l).length = l.length
  | [] => rfl
  | x :: l => by simp [snpsMk, snpsMk_len]
theorem snpsMk_snoc (k : Int) (x : Snp) : ∀ l : List Snp, snpsMk k (l ++ [x]) = snpsMk k l ++ [snpMk (k + (snpsCnt l : Nat)) x]
  | [] => by simp [snpsMk, snpsCnt]
  | y :: l => by
    have := snpsMk_snoc (k + (snpCnt y : Nat)) x l
    have e : k + (snpCnt y : Nat) + ((snpsCnt l : Nat) : Int) = k + ((snpsCnt (y :: l) : Nat) : Int) := by simp only [snpsCnt, List.map_cons, List.sum_cons]; push_cast; omega
    simp only [List.cons_append, snpsMk, this, e]
theorem snpsMk_at (k : Int) : ∀ (l : List Snp) (i : Nat) (x : Snp), l[i]? = some x → (snpsMk k l)[i]? = some (snpMk (k + (sumTo snpCnt l i : Nat)) x)
  | [], i, x, h => by simp at h
  | y :: l, 0, x, h => by simp at h; subst h; simp [snpsMk, sumTo]
  | y :: l, i + 1, x, h => by
    have := snpsMk_at (k + (snpCnt y : Nat)) l i x (by simpa using h)
    have e : k + (snpCnt y : Nat) + ((sumTo snpCnt l i : Nat) : Int) = k + ((sumTo snpCnt (y :: l) (i + 1) : Nat) : Int) := by simp only [sumTo, List.take_succ_cons, List.map_cons, List.sum_cons]; push_cast; omega
    simp only [snpsMk, List.getElem?_cons_succ, this, e]
theorem snp_cnt (x : Snp) : snpCnt x ≤ 2 * (1 + snpSz x) := by have g0 := strs_cnt x.ch; unfold snpCnt snpSz; omega
theorem snps_cnt : ∀ l : List Snp, snpsCnt l ≤ 2 * snpsSz l
  | [] => by simp [snpsCnt]
  | x :: l => by have h1 := snps_cnt l; have h2 := snp_cnt x; simp only [snpsCnt, snpsSz, List.map_cons, List.sum_cons, List.length_cons] at *; omega
theorem snp_top (x : Snp) : snpTop x ≤ 2 * snpSz x := by have t2 := strs_cnt x.ch; unfold snpTop snpSz; omega
attribute [local irreducible] StrR IntR StrO IntO RowR RowO StrsAt IntsAt
set_option maxRecDepth 8000 in
theorem snp_eq (x : Snp) (A1 : Option Addr) (n1 c1 : Nat) (A1' : Option Addr) (n1' c1' : Nat) (w : World) (h1 : StrR w A1 n1 c1 x.ch) (h1' : StrR w A1' n1' c1' x.ch) (hs : snpSz x ≤ 16777216) :
    Calls Tryz.prog 208 #[(snpV x (.slice A1 n1 c1)), (snpV x (.slice A1' n1' c1'))] w fun e w' => e = .returned (.bool true) ∧ Below w.heap.size w w' := by
  unfold snpSz at hs
  unfold snpV
  go_enter Tryz.func208, Tryz.ntmps208
  go_wp2_with fail
  refine (strsR_eq x.ch _ _ _ _ _ _ _ (h1.keep (by go_grown)) (h1'.keep (by go_grown)) (by omega)).mono ?_
  rintro e w1 ⟨rfl, hb1⟩
  obtain ⟨hc_w1, hf_w1⟩ := bcell hb1
  have hz_w1 := hb1.size
  try simp at hz_w1
  have hB_w1 : Below w.heap.size w w1 := bthen (by go_grown) hb1
  have hz_w1_0 : w.heap.size < w1.heap.size := by omega
  have hz_w1_1 : w.heap.size + 1 < w1.heap.size := by omega
  go_wp2
  go_returns
  exact ⟨rfl, hB_w1⟩
set_option maxRecDepth 8000 in
set_option maxHeartbeats 1000000 in
theorem snps_eq (l : List Snp) (A : Option Addr) (n c : Nat) (A' : Option Addr) (n' c' : Nat) (w : World) (h : RowR snpR 3 w A n c l) (h' : RowR snpR 3 w A' n' c' l) (hs : snpsSz l ≤ 16777216) :
    Calls Tryz.prog 180 #[.slice A n c, .slice A' n' c'] w fun e w' => e = .returned (.bool true) ∧ Below w.heap.size w w' := by
  obtain rfl : n = n' := h.len.trans h'.len.symm
  have hn : n ≤ 16777216 := by have h1 := h.len; unfold snpsSz at hs; omega
  go_enter Tryz.func180, Tryz.ntmps180
  go_wp2
  go_loopw [5] (fun i wr => ∃ (k : Nat), k ≤ n ∧ i = .int .i64 k ∧ Below w.heap.size w wr) (fun i _ => n - (intOf i).toNat)
  case atStart => exact ⟨0, Nat.zero_le _, rfl, Below.refl _ _⟩
  case round =>
    obtain ⟨k, hk, rfl, hb⟩ := hrel
    by_cases hlt : k < n
    · obtain ⟨b, off, rfl⟩ := h.head (by omega)
      obtain ⟨bl, x, cs, hx, hR, hcell⟩ := h.elem_at hlt
      obtain ⟨A1, n1, c1, rfl, h1⟩ := hR
      have e0 := (hb.cell (p := ⟨b, off + k * 3, none⟩) bl).trans (show w.cell? ⟨b, off + k * 3, none⟩ = some (.string x.nm) from hcell 0 _ rfl)
      have e1 := (hb.cell (p := ⟨b, off + k * 3 + 1, none⟩) bl).trans (show w.cell? ⟨b, off + k * 3 + 1, none⟩ = some (.string x.tg) from hcell 1 _ rfl)
      have e2 := (hb.cell (p := ⟨b, off + k * 3 + 2, none⟩) bl).trans (show w.cell? ⟨b, off + k * 3 + 2, none⟩ = some (.slice A1 n1 c1) from hcell 2 _ rfl)
      clear hcell
      obtain ⟨b', off', rfl⟩ := h'.head (by omega)
      obtain ⟨b'l, x', cs', hx', hR', hcell'⟩ := h'.elem_at hlt
      obtain rfl : x' = x := Option.some.inj (hx'.symm.trans hx)
      obtain ⟨A1', n1', c1', rfl, h1'⟩ := hR'
      have e0' := (hb.cell (p := ⟨b', off' + k * 3, none⟩) b'l).trans (show w.cell? ⟨b', off' + k * 3, none⟩ = some (.string x'.nm) from hcell' 0 _ rfl)
      have e1' := (hb.cell (p := ⟨b', off' + k * 3 + 1, none⟩) b'l).trans (show w.cell? ⟨b', off' + k * 3 + 1, none⟩ = some (.string x'.tg) from hcell' 1 _ rfl)
      have e2' := (hb.cell (p := ⟨b', off' + k * 3 + 2, none⟩) b'l).trans (show w.cell? ⟨b', off' + k * 3 + 2, none⟩ = some (.slice A1' n1' c1') from hcell' 2 _ rfl)
      clear hcell' hx'
      have hek := snps_el hx
      have hn63 : (k : Int) < n := by omega
      go_wp2
      go_still_tail 8, (by kernel_rfl)
      change wpList _ _ _ _ _ wr.drew
      have hbd : Below w.heap.size w wr.drew := hb.drew
      generalize wr.drew = w2 at *
      go_wp2_with fail
      refine (snp_eq x' _ _ _ _ _ _ _ (h1.keep hbd) (h1'.keep hbd) (by omega)).mono ?_
      rintro e w3 ⟨rfl, hb3⟩
      go_wp2
      exact ⟨⟨k + 1, by omega, by go_num, bthen hbd hb3⟩, by simp [intOf]; omega⟩
    · go_wp2
      go_returns
      exact ⟨rfl, hb⟩
set_option maxRecDepth 8000 in
set_option maxHeartbeats 4000000 in
theorem snps_mark (l : List Snp) (fp : List Nat) (A : Option Addr) (n c : Nat) (k : Int) (w : World) (h : RowO snpF 195 3 fp w A n c l) (hN : fp.Nodup) (hs : snpsSz l ≤ 16777216) (hk0 : 0 < k) (hk1 : k ≤ 288230376151711744) :
    Calls Tryz.prog 137 #[.slice A n c, .int .i64 k] w fun e w' => e = .returned (.int .i64 (k + (snpsCnt l : Nat))) ∧ RowO snpF 195 3 fp w' A n c (snpsMk k l) ∧ Ch (fun b => b ∈ fp) w w' := by
  obtain ⟨css0, fps0, rfl, hown0, hl0, hE0⟩ := h.ex
  have HL := Lib.hid hl0; clear hl0
  have hn : n ≤ 16777216 := by have h1 := HL.out; unfold snpsSz at hs; omega
  have hcs := snps_cnt l
  go_enter Tryz.func137, Tryz.ntmps137
  go_wp2
  go_loopw [1, 5] (fun u i wr => ∃ (q : Nat) (css1 css2 : List (List Value)) (fps1 fps2 : List (List Nat)), q ≤ n ∧ i = .int .i64 q ∧ u = .int .i64 (k + ((sumTo snpCnt l q : Nat) : Int)) ∧ fps0 = fps1 ++ fps2 ∧ wr.ownsRow 0 195 3 (.slice A n c) n (css1.flatten ++ css2.flatten) ∧ Els snpF wr css1 fps1 (snpsMk k (l.take q)) ∧ Els snpF wr css2 fps2 (l.drop q) ∧ Ch (fun b => b ∈ blkL A ++ fps0.flatten) w wr) (fun _ i _ => n - (intOf i).toNat)
  case atStart => exact ⟨0, [], css0, [], fps0, Nat.zero_le _, rfl, by rw [sumTo_zero]; simp, rfl, by simpa using hown0, Els.nil, by simpa using hE0, Ch.refl _⟩
  case round =>
    clear hown0 hE0 h
    obtain ⟨q, css1, css2, fps1, fps2, hq, rfl, rfl, rfl, ho, hE1, hE2, hC⟩ := hrel
    by_cases hlt : q < n
    · obtain ⟨x, hx⟩ : ∃ x, l[q]? = some x := ⟨_, List.getElem?_eq_getElem (by have := HL.out; omega)⟩
      rw [drop_one hx] at hE2
      obtain ⟨cs, css2, f, fps2, rfl, rfl, hF, hE2t⟩ := hE2.cons
      clear hE2
      obtain ⟨A1, n1, c1, f1, rfl, hf1, o1⟩ := hF
      replace hf1 := hf1.symm
      subst hf1
      obtain ⟨g, hA, hg0⟩ : ∃ g, A = some ⟨g, 0, none⟩ ∧ g < wr.heap.size := by rcases own_form ho with ⟨_, h0, _⟩ | ⟨g, h1, _, h2⟩ <;> first | omega | exact ⟨g, h1, h2⟩
      subst hA
      have hP : css1.flatten.length = q * 3 := by rw [hE1.flat snpK, snpsMk_len, List.length_take]; have := HL.out; rw [Nat.min_eq_left (by omega)]
      rw [List.flatten_cons] at ho
      unfold snpL at ho
      have hek := snps_el hx
      unfold snpSz at hek
      obtain ⟨HSM, HSS⟩ := sum_el snpCnt hx
      have HSU := Lib.hid HSS
      have hle := sumTo_le snpCnt l (q + 1)
      unfold snpsCnt at hcs
      have hcb : sumTo snpCnt l q + snpCnt x ≤ 33554432 := by omega
      clear HSM HSS hle
      have hcx : snpCnt x = 1 + 1 + strsCnt x.ch := rfl
      rw [hcx] at hcb
      have hN' := hN
      simp only [blkL, List.flatten_append, List.flatten_cons, List.nodup_append, List.nodup_cons, List.mem_append, List.mem_cons, List.not_mem_nil, or_false, not_or, List.append_assoc, List.cons_append, List.nil_append] at hN'
      have hg1 : ∀ b ∈ f1, ¬ b = g := fun b hb e => by subst e; grind
      have hx1 : ∀ b ∈ fps1.flatten, ¬ (b = g ∨ b ∈ f1) := fun b h1 h2 => by (try simp only [List.mem_append] at h2); grind
      have hx2 : ∀ b ∈ fps2.flatten, ¬ (b = g ∨ b ∈ f1) := fun b h1 h2 => by (try simp only [List.mem_append] at h2); grind
      clear hN'
      have hT : Ch (fun b => b = g ∨ b ∈ f1) wr wr := Ch.refl _
      go_wp2_with fail
      refine (markText_any _ _ (by omega) (by omega)).mono ?_
      rintro e v1 ⟨rfl, hb1⟩
      have ho1 := own_ch ho (Ch.of_below (S := fun _ => False) hb1) (fun _ _ h => h)
      clear ho
      have hT1 := hT.trans (Ch.of_below hb1); clear hT; have hT := hT1; clear hT1
      have hgz1 : g < v1.heap.size := Nat.lt_of_lt_of_le hg0 hb1.size; clear hg0; have hg0 := hgz1; clear hgz1
      have o1' := o1.keep hb1; clear o1; have o1 := o1'; clear o1'
      clear hb1
      have e0 : v1.cell? ⟨g, q * 3, none⟩ = some (.string x.nm) := own_mid ho1 hP (r := 0) rfl
      have y0 := ho1.frozenAt (q * 3)
      go_wp2_with fail
      obtain ⟨v2, hv2⟩ : ∃ W, W = (v1.setCell ⟨g, q * 3, none⟩ (.string (mtx (k + ((sumTo snpCnt l q : Nat) : Int))))) := ⟨_, rfl⟩
      have hs2 : v2 = setsW v1 g (q * 3 + 0) ([.string (mtx (k + ((sumTo snpCnt l q : Nat) : Int)))] : List Value) := hv2
      rw [← hv2]
      clear hv2
      have hc2 : Ch (fun b => b = g) v1 v2 := by rw [hs2]; exact ch_setsW _ _ _
      have ho2 : v2.ownsRow 0 195 3 (.slice (some ⟨g, 0, none⟩) n c) n (css1.flatten ++ (([(.string (mtx (k + ((sumTo snpCnt l q : Nat) : Int)))), (.string x.tg), (.slice A1 n1 c1)] : List Value) ++ css2.flatten)) := by
        have hh := own_setsW ([.string (mtx (k + ((sumTo snpCnt l q : Nat) : Int)))] : List Value) (q * 3 + 0) v1 _ ho1
        rw [setsL_in hP (r := 0) (vs := ([.string (mtx (k + ((sumTo snpCnt l q : Nat) : Int)))] : List Value)) (by simp)] at hh
        rw [hs2]; exact hh
      clear e0 y0
      clear hs2 ho1
      have hT2 := hT.trans (hc2.mono (fun b hb => .inl hb)); clear hT; have hT := hT2; clear hT2
      have hgz2 : g < v2.heap.size := Nat.lt_of_lt_of_le hg0 hc2.size; clear hg0; have hg0 := hgz2; clear hgz2
      have o1' := o1.ch hc2 hg1; clear o1; have o1 := o1'; clear o1'
      clear hc2
      refine (markText_any _ _ (by omega) (by omega)).mono ?_
      rintro e v3 ⟨rfl, hb3⟩
      have ho3 := own_ch ho2 (Ch.of_below (S := fun _ => False) hb3) (fun _ _ h => h)
      clear ho2
      have hT3 := hT.trans (Ch.of_below hb3); clear hT; have hT := hT3; clear hT3
      have hgz3 : g < v3.heap.size := Nat.lt_of_lt_of_le hg0 hb3.size; clear hg0; have hg0 := hgz3; clear hgz3
      have o1' := o1.keep hb3; clear o1; have o1 := o1'; clear o1'
      clear hb3
      have e1 : v3.cell? ⟨g, q * 3 + 1, none⟩ = some (.string x.tg) := own_mid ho3 hP (r := 1) rfl
      have y1 := ho3.frozenAt (q * 3 + 1)
      have e2 : v3.cell? ⟨g, q * 3 + 2, none⟩ = some (.slice A1 n1 c1) := own_mid ho3 hP (r := 2) rfl
      go_wp2_with fail
      obtain ⟨v4, hv4⟩ : ∃ W, W = (v3.setCell ⟨g, q * 3 + 1, none⟩ (.string (mtx (k + ((sumTo snpCnt l q : Nat) : Int) + 1)))) := ⟨_, rfl⟩
      have hs4 : v4 = setsW v3 g (q * 3 + 1) ([.string (mtx (k + ((sumTo snpCnt l q : Nat) : Int) + 1))] : List Value) := hv4
      rw [← hv4]
      clear hv4
      have hc4 : Ch (fun b => b = g) v3 v4 := by rw [hs4]; exact ch_setsW _ _ _
      have ho4 : v4.ownsRow 0 195 3 (.slice (some ⟨g, 0, none⟩) n c) n (css1.flatten ++ (([(.string (mtx (k + ((sumTo snpCnt l q : Nat) : Int)))), (.string (mtx (k + ((sumTo snpCnt l q : Nat) : Int) + 1))), (.slice A1 n1 c1)] : List Value) ++ css2.flatten)) := by
        have hh := own_setsW ([.string (mtx (k + ((sumTo snpCnt l q : Nat) : Int) + 1))] : List Value) (q * 3 + 1) v3 _ ho3
        rw [setsL_in hP (r := 1) (vs := ([.string (mtx (k + ((sumTo snpCnt l q : Nat) : Int) + 1))] : List Value)) (by simp)] at hh
        rw [hs4]; exact hh
      clear e1 y1
      clear e2
      clear hs4 ho3
      have hT4 := hT.trans (hc4.mono (fun b hb => .inl hb)); clear hT; have hT := hT4; clear hT4
      have hgz4 : g < v4.heap.size := Nat.lt_of_lt_of_le hg0 hc4.size; clear hg0; have hg0 := hgz4; clear hgz4
      have o1' := o1.ch hc4 hg1; clear o1; have o1 := o1'; clear o1'
      clear hc4
      refine (strsR_mark x.ch f1 _ _ _ _ _ o1 (by omega) (by omega) (by omega)).mono ?_
      rintro e v5 ⟨rfl, o1', hc5⟩
      clear o1; have o1 := o1'; clear o1'
      have ho5 := own_ch ho4 hc5 (fun b hb h2 => hg1 b h2 (by simpa [Value.ownBlock, eq_comm] using hb))
      clear ho4
      have hT5 := hT.trans (hc5.mono (fun b hb => .inr (by simp [hb]))); clear hT; have hT := hT5; clear hT5
      have hgz5 : g < v5.heap.size := Nat.lt_of_lt_of_le hg0 hc5.size; clear hg0; have hg0 := hgz5; clear hgz5
      clear hc5
      go_wp2
      have hE1' := hE1.ch snpK hT hx1
      have hE2' := hE2t.ch snpK hT hx2
      have hE3 := hE1'.app (Els.one (⟨A1, n1, c1, f1, rfl, rfl, o1⟩ : snpF (f1) v5 ([(.string (mtx (k + ((sumTo snpCnt l q : Nat) : Int)))), (.string (mtx (k + ((sumTo snpCnt l q : Nat) : Int) + 1))), (.slice A1 n1 c1)] : List Value) (snpMk (k + ((sumTo snpCnt l q : Nat) : Int)) x)))
      have hsm := snpsMk_snoc k x (l.take q)
      rw [← take_more hx] at hsm
      have hct : ((snpsCnt (l.take q) : Nat) : Int) = ((sumTo snpCnt l q : Nat) : Int) := rfl
      rw [hct] at hsm
      rw [← hsm] at hE3
      refine ⟨⟨q + 1, css1 ++ [([(.string (mtx (k + ((sumTo snpCnt l q : Nat) : Int)))), (.string (mtx (k + ((sumTo snpCnt l q : Nat) : Int) + 1))), (.slice A1 n1 c1)] : List Value)], css2, fps1 ++ [f1], fps2, by omega, by go_num, ?_, by simp, ?_, hE3, hE2', hC.trans (hT.mono (fun b hb => ?_))⟩, by simp [intOf]; omega⟩
      · rw [HSU.out]; congr 1; rw [hcx]; push_cast; omega
      · rw [flat_snoc, List.append_assoc]; exact ho5
      · simp only [blkL, List.flatten_append, List.flatten_cons, List.mem_append, List.mem_cons, List.not_mem_nil, or_false] at hb ⊢
        grind
    · go_wp2
      go_returns
      have hqn : q = n := by omega
      subst hqn
      have hql : l.length ≤ q := by have := HL.out; omega
      rw [List.take_of_length_le hql] at hE1
      rw [List.drop_eq_nil_of_le hql] at hE2
      obtain ⟨rfl, rfl⟩ := hE2.nils
      refine ⟨ret_int ?_, ?_, hC⟩
      · rw [sumTo_all _ _ _ hql]; rfl
      · rw [List.append_nil]; exact RowO.intro (by simpa using ho) (by rw [snpsMk_len]; exact HL.out) hE1
set_option maxRecDepth 8000 in
set_option maxHeartbeats 4000000 in
theorem snps_held (l : List Snp) (A : Option Addr) (n c : Nat) (k : Int) (w : World) (h : RowR snpR 3 w A n c (snpsMk k l)) (hs : snpsSz l ≤ 16777216) (hk0 : 0 < k) (hk1 : k ≤ 288230376151711744) :
    Calls Tryz.prog 138 #[.slice A n c, .int .i64 k] w fun e w' => e = .returned (.int .i64 (k + (snpsCnt l : Nat))) ∧ Below w.heap.size w w' := by
  have HL := Lib.hid (show n = l.length by rw [h.len, snpsMk_len])
  have hn : n ≤ 16777216 := by have h1 := HL.out; unfold snpsSz at hs; omega
  have hcs := snps_cnt l
  go_enter Tryz.func138, Tryz.ntmps138
  go_wp2
  go_loopw [1, 5] (fun u i wr => ∃ (q : Nat), q ≤ n ∧ i = .int .i64 q ∧ u = .int .i64 (k + ((sumTo snpCnt l q : Nat) : Int)) ∧ Below w.heap.size w wr) (fun _ i _ => n - (intOf i).toNat)
  case atStart => exact ⟨0, Nat.zero_le _, rfl, by rw [sumTo_zero]; simp, Below.refl _ _⟩
  case round =>
    obtain ⟨q, hq, rfl, rfl, hb⟩ := hrel
    by_cases hlt : q < n
    · obtain ⟨x, hx⟩ : ∃ x, l[q]? = some x := ⟨_, List.getElem?_eq_getElem (by have := HL.out; omega)⟩
      obtain ⟨b, off, rfl⟩ := h.head (by omega)
      obtain ⟨bl, x', cs, hx', hR, hcell⟩ := h.elem_at hlt
      obtain rfl : x' = snpMk (k + ((sumTo snpCnt l q : Nat) : Int)) x := Option.some.inj (hx'.symm.trans (snpsMk_at k l q x hx))
      obtain ⟨A1, n1, c1, rfl, h1⟩ := hR
      have k0 : w.cell? ⟨b, off + q * 3, none⟩ = some (.string (mtx (k + ((sumTo snpCnt l q : Nat) : Int)))) := hcell 0 _ rfl
      have k1 : w.cell? ⟨b, off + q * 3 + 1, none⟩ = some (.string (mtx (k + ((sumTo snpCnt l q : Nat) : Int) + 1))) := hcell 1 _ rfl
      have k2 : w.cell? ⟨b, off + q * 3 + 2, none⟩ = some (.slice A1 n1 c1) := hcell 2 _ rfl
      clear hcell hx'
      have hek := snps_el hx
      unfold snpSz at hek
      obtain ⟨HSM, HSS⟩ := sum_el snpCnt hx
      have HSU := Lib.hid HSS
      have hle := sumTo_le snpCnt l (q + 1)
      unfold snpsCnt at hcs
      have hcb : sumTo snpCnt l q + snpCnt x ≤ 33554432 := by omega
      clear HSM HSS hle
      have hcx : snpCnt x = 1 + 1 + strsCnt x.ch := rfl
      rw [hcx] at hcb
      have e0 := (hb.cell (p := ⟨b, off + q * 3, none⟩) bl).trans k0
      go_wp2
      go_region_held3 (fun w' => w'.cell? ⟨b, off + q * 3, none⟩ = some (.string (mtx (k + ((sumTo snpCnt l q : Nat) : Int)))) ∧ Below w.heap.size w w') (first | (have hh := ‹_ ∧ _›; exact ⟨keep_cell hbw hh.1, bthen hh.2 hbw⟩) | (have hh := ‹_ ∧ _›; exact ⟨hh.1, hh.2.drew⟩) | exact ⟨e0, hb.drew⟩ | exact ⟨e0, hb⟩) (first | (go_at_call 41; refine (markText_any _ _ (by omega) (by omega)).mono ?_; rintro e w1 ⟨rfl, hbw⟩))
      have hr1 := (by have hh := ‹_ ∧ _›; exact hh.2 : Below w.heap.size w _)
      clear e0
      replace hbw := hr1
      have e1 := (hr1.cell (p := ⟨b, off + q * 3 + 1, none⟩) bl).trans k1
      go_wp2
      go_region_held3 (fun w' => w'.cell? ⟨b, off + q * 3 + 1, none⟩ = some (.string (mtx (k + ((sumTo snpCnt l q : Nat) : Int) + 1))) ∧ Below w.heap.size w w') (first | (have hh := ‹_ ∧ _›; exact ⟨keep_cell hbw hh.1, bthen hh.2 hbw⟩) | (have hh := ‹_ ∧ _›; exact ⟨hh.1, hh.2.drew⟩) | exact ⟨e1, hr1.drew⟩ | exact ⟨e1, hr1⟩) (first | (go_at_call 41; refine (markText_any _ _ (by omega) (by omega)).mono ?_; rintro e w2 ⟨rfl, hbw⟩))
      have hr2 := (by have hh := ‹_ ∧ _›; exact hh.2 : Below w.heap.size w _)
      clear e1
      replace hbw := hr2
      have e2 := (hr2.cell (p := ⟨b, off + q * 3 + 2, none⟩) bl).trans k2
      go_wp2_with fail
      refine (strsR_held x.ch _ _ _ _ _ (h1.keep hr2) (by omega) (by omega) (by omega)).mono ?_
      rintro e w3 ⟨rfl, hb3⟩
      have hr3 := bthen hr2 hb3
      clear e2
      go_wp2
      refine ⟨⟨q + 1, by omega, by go_num, ?_, hr3⟩, by simp [intOf]; omega⟩
      rw [HSU.out]; congr 1; rw [hcx]; push_cast; omega
    · go_wp2
      go_returns
      have hql : l.length ≤ q := by have := HL.out; omega
      refine ⟨ret_int ?_, hb⟩
      rw [sumTo_all _ _ _ hql]; rfl
end Go.Proofs.YtdphdnllhmnelaaGreat
/- CSet: how it lies in memory, the laws' helpers on it. -/
namespace Go.Proofs.YtdphdnllhmnelaaGreat
open Go.RowKit
structure Cst where
  nm : ByteArray
  snaps : List Snp
def cstNil : Cst := ⟨ByteArray.empty, []⟩
def cstAt (l : List Cst) (i : Nat) : Cst := l.getD i cstNil
theorem cstAt_get {l : List Cst} {k : Nat} (h : k < l.length) : cstAt l k = l[k] := by simp [cstAt, h]
theorem cstAt_of {l : List Cst} {k : Nat} {x : Cst} (h : l[k]? = some x) : cstAt l k = x := by simp [cstAt, h]
/-- its cells, its value -/
def cstL (x : Cst) (s1 : Value) : List Value := [.string x.nm, s1]
def cstV (x : Cst) (s1 : Value) : Value := .agg #[.string x.nm, s1]
def cstR (w : World) (cs : List Value) (x : Cst) : Prop := ∃ (A1 : Option Addr) (n1 c1 : Nat), cs = cstL x (.slice A1 n1 c1) ∧ RowR snpR 3 w A1 n1 c1 x.snaps
def cstF (fp : List Nat) (w : World) (cs : List Value) (x : Cst) : Prop := ∃ (A1 : Option Addr) (n1 c1 : Nat) (f1 : List Nat), cs = cstL x (.slice A1 n1 c1) ∧ fp = f1 ∧ RowO snpF 195 3 f1 w A1 n1 c1 x.snaps
theorem cstK : KindOk cstR cstF 2 where
  rlen := fun h => by obtain ⟨A1, n1, c1, rfl, h1⟩ := h; rfl
  rkeep := fun h hb => by obtain ⟨A1, n1, c1, rfl, h1⟩ := h; exact ⟨A1, n1, c1, rfl, h1.keep snpK hb⟩
  flt := fun h b hb => by
    obtain ⟨A1, n1, c1, f1, rfl, rfl, h1⟩ := h
    exact h1.lt snpK b hb
  fch := fun h hc hS => by
    obtain ⟨A1, n1, c1, f1, rfl, rfl, h1⟩ := h
    exact ⟨A1, n1, c1, _, rfl, rfl, h1.ch snpK hc (fun b hb => hS b (by simp [hb]))⟩
  fr := fun h => by obtain ⟨A1, n1, c1, f1, rfl, rfl, h1⟩ := h; exact ⟨A1, n1, c1, rfl, h1.at_ snpK (by omega)⟩
  one := fun h v hv => by
    obtain ⟨A1, n1, c1, rfl, h1⟩ := h
    simp only [cstL, List.mem_cons, List.not_mem_nil, or_false] at hv
    rcases hv with rfl | rfl <;> rfl
/-- its bounds -/
def cstB (x : Cst) : Prop := x.nm.size ≤ 9223372036854775807 ∧ snpsB x.snaps
def cstsB (l : List Cst) : Prop := l.length ≤ 9223372036854775807 ∧ ∀ y ∈ l, cstB y
def cstSz (x : Cst) : Nat := x.nm.size + snpsSz x.snaps
def cstsSz (l : List Cst) : Nat := l.length + (l.map cstSz).sum
theorem csts_el {l : List Cst} {i : Nat} {x : Cst} (hx : l[i]? = some x) : cstSz x ≤ cstsSz l := by have := (sum_el cstSz hx).1; unfold cstsSz; omega
/-- its marks -/
def cstCnt (x : Cst) : Nat := 1 + snpsCnt x.snaps
def cstTop (x : Cst) : Nat := snpsCnt x.snaps
def cstsCnt (l : List Cst) : Nat := (l.map cstCnt).sum
def cstMk (k : Int) (x : Cst) : Cst := ⟨mtx k, snpsMk (k + 1) x.snaps⟩
def cstsMk (k : Int) : List Cst → List Cst
  | [] => []
  | x :: l => cstMk k x :: cstsMk (k + (cstCnt x : Nat)) l
def cstTopMk (k : Int) (x : Cst) : Cst := ⟨x.nm, snpsMk k x.snaps⟩
theorem cstsMk_len (k : Int) : ∀ l : List Cst, (cstsMk k l).length = l.length
  | [] => rfl
  | x :: l => by simp [cstsMk, cstsMk_len]
theorem cstsMk_snoc (k : Int) (x : Cst) : ∀ l : List Cst, cstsMk k (l ++ [x]) = cstsMk k l ++ [cstMk (k + (cstsCnt l : Nat)) x]
  | [] => by simp [cstsMk, cstsCnt]
  | y :: l => by
    have := cstsMk_snoc (k + (cstCnt y : Nat)) x l
    have e : k + (cstCnt y : Nat) + ((cstsCnt l : Nat) : Int) = k + ((cstsCnt (y :: l) : Nat) : Int) := by simp only [cstsCnt, List.map_cons, List.sum_cons]; push_cast; omega
    simp only [List.cons_append, cstsMk, this, e]
theorem cstsMk_at (k : Int) : ∀ (l : List Cst) (i : Nat) (x : Cst), l[i]? = some x → (cstsMk k l)[i]? = some (cstMk (k + (sumTo cstCnt l i : Nat)) x)
  | [], i, x, h => by simp at h
  | y :: l, 0, x, h => by simp at h; subst h; simp [cstsMk, sumTo]
  | y :: l, i + 1, x, h => by
    have := cstsMk_at (k + (cstCnt y : Nat)) l i x (by simpa using h)
    have e : k + (cstCnt y : Nat) + ((sumTo cstCnt l i : Nat) : Int) = k + ((sumTo cstCnt (y :: l) (i + 1) : Nat) : Int) := by simp only [sumTo, List.take_succ_cons, List.map_cons, List.sum_cons]; push_cast; omega
    simp only [cstsMk, List.getElem?_cons_succ, this, e]
theorem cst_cnt (x : Cst) : cstCnt x ≤ 2 * (1 + cstSz x) := by have g0 := snps_cnt x.snaps; unfold cstCnt cstSz; omega
theorem csts_cnt : ∀ l : List Cst, cstsCnt l ≤ 2 * cstsSz l
  | [] => by simp [cstsCnt]
  | x :: l => by have h1 := csts_cnt l; have h2 := cst_cnt x; simp only [cstsCnt, cstsSz, List.map_cons, List.sum_cons, List.length_cons] at *; omega
theorem cst_top (x : Cst) : cstTop x ≤ 2 * cstSz x := by have t1 := snps_cnt x.snaps; unfold cstTop cstSz; omega
attribute [local irreducible] StrR IntR StrO IntO RowR RowO StrsAt IntsAt
set_option maxRecDepth 8000 in
theorem cst_eq (x : Cst) (A1 : Option Addr) (n1 c1 : Nat) (A1' : Option Addr) (n1' c1' : Nat) (w : World) (h1 : RowR snpR 3 w A1 n1 c1 x.snaps) (h1' : RowR snpR 3 w A1' n1' c1' x.snaps) (hs : cstSz x ≤ 16777216) :
    Calls Tryz.prog 136 #[(cstV x (.slice A1 n1 c1)), (cstV x (.slice A1' n1' c1'))] w fun e w' => e = .returned (.bool true) ∧ Below w.heap.size w w' := by
  unfold cstSz at hs
  unfold cstV
  go_enter Tryz.func136, Tryz.ntmps136
  go_wp2_with fail
  refine (snps_eq x.snaps _ _ _ _ _ _ _ (h1.keep snpK (by go_grown)) (h1'.keep snpK (by go_grown)) (by omega)).mono ?_
  rintro e w1 ⟨rfl, hb1⟩
  obtain ⟨hc_w1, hf_w1⟩ := bcell hb1
  have hz_w1 := hb1.size
  try simp at hz_w1
  have hB_w1 : Below w.heap.size w w1 := bthen (by go_grown) hb1
  have hz_w1_0 : w.heap.size < w1.heap.size := by omega
  have hz_w1_1 : w.heap.size + 1 < w1.heap.size := by omega
  go_wp2
  go_returns
  exact ⟨rfl, hB_w1⟩
set_option maxRecDepth 8000 in
set_option maxHeartbeats 1000000 in
theorem csts_eq (l : List Cst) (A : Option Addr) (n c : Nat) (A' : Option Addr) (n' c' : Nat) (w : World) (h : RowR cstR 2 w A n c l) (h' : RowR cstR 2 w A' n' c' l) (hs : cstsSz l ≤ 16777216) :
    Calls Tryz.prog 82 #[.slice A n c, .slice A' n' c'] w fun e w' => e = .returned (.bool true) ∧ Below w.heap.size w w' := by
  obtain rfl : n = n' := h.len.trans h'.len.symm
  have hn : n ≤ 16777216 := by have h1 := h.len; unfold cstsSz at hs; omega
  go_enter Tryz.func82, Tryz.ntmps82
  go_wp2
  go_loopw [5] (fun i wr => ∃ (k : Nat), k ≤ n ∧ i = .int .i64 k ∧ Below w.heap.size w wr) (fun i _ => n - (intOf i).toNat)
  case atStart => exact ⟨0, Nat.zero_le _, rfl, Below.refl _ _⟩
  case round =>
    obtain ⟨k, hk, rfl, hb⟩ := hrel
    by_cases hlt : k < n
    · obtain ⟨b, off, rfl⟩ := h.head (by omega)
      obtain ⟨bl, x, cs, hx, hR, hcell⟩ := h.elem_at hlt
      obtain ⟨A1, n1, c1, rfl, h1⟩ := hR
      have e0 := (hb.cell (p := ⟨b, off + k * 2, none⟩) bl).trans (show w.cell? ⟨b, off + k * 2, none⟩ = some (.string x.nm) from hcell 0 _ rfl)
      have e1 := (hb.cell (p := ⟨b, off + k * 2 + 1, none⟩) bl).trans (show w.cell? ⟨b, off + k * 2 + 1, none⟩ = some (.slice A1 n1 c1) from hcell 1 _ rfl)
      clear hcell
      obtain ⟨b', off', rfl⟩ := h'.head (by omega)
      obtain ⟨b'l, x', cs', hx', hR', hcell'⟩ := h'.elem_at hlt
      obtain rfl : x' = x := Option.some.inj (hx'.symm.trans hx)
      obtain ⟨A1', n1', c1', rfl, h1'⟩ := hR'
      have e0' := (hb.cell (p := ⟨b', off' + k * 2, none⟩) b'l).trans (show w.cell? ⟨b', off' + k * 2, none⟩ = some (.string x'.nm) from hcell' 0 _ rfl)
      have e1' := (hb.cell (p := ⟨b', off' + k * 2 + 1, none⟩) b'l).trans (show w.cell? ⟨b', off' + k * 2 + 1, none⟩ = some (.slice A1' n1' c1') from hcell' 1 _ rfl)
      clear hcell' hx'
      have hek := csts_el hx
      have hn63 : (k : Int) < n := by omega
      go_wp2
      go_still_tail 8, (by kernel_rfl)
      change wpList _ _ _ _ _ wr.drew
      have hbd : Below w.heap.size w wr.drew := hb.drew
      generalize wr.drew = w2 at *
      go_wp2_with fail
      refine (cst_eq x' _ _ _ _ _ _ _ (h1.keep snpK hbd) (h1'.keep snpK hbd) (by omega)).mono ?_
      rintro e w3 ⟨rfl, hb3⟩
      go_wp2
      exact ⟨⟨k + 1, by omega, by go_num, bthen hbd hb3⟩, by simp [intOf]; omega⟩
    · go_wp2
      go_returns
      exact ⟨rfl, hb⟩
set_option maxRecDepth 8000 in
set_option maxHeartbeats 4000000 in
theorem csts_mark (l : List Cst) (fp : List Nat) (A : Option Addr) (n c : Nat) (k : Int) (w : World) (h : RowO cstF 165 2 fp w A n c l) (hN : fp.Nodup) (hs : cstsSz l ≤ 16777216) (hk0 : 0 < k) (hk1 : k ≤ 144115188075855872) :
    Calls Tryz.prog 85 #[.slice A n c, .int .i64 k] w fun e w' => e = .returned (.int .i64 (k + (cstsCnt l : Nat))) ∧ RowO cstF 165 2 fp w' A n c (cstsMk k l) ∧ Ch (fun b => b ∈ fp) w w' := by
  obtain ⟨css0, fps0, rfl, hown0, hl0, hE0⟩ := h.ex
  have HL := Lib.hid hl0; clear hl0
  have hn : n ≤ 16777216 := by have h1 := HL.out; unfold cstsSz at hs; omega
  have hcs := csts_cnt l
  go_enter Tryz.func85, Tryz.ntmps85
  go_wp2
  go_loopw [1, 5] (fun u i wr => ∃ (q : Nat) (css1 css2 : List (List Value)) (fps1 fps2 : List (List Nat)), q ≤ n ∧ i = .int .i64 q ∧ u = .int .i64 (k + ((sumTo cstCnt l q : Nat) : Int)) ∧ fps0 = fps1 ++ fps2 ∧ wr.ownsRow 0 165 2 (.slice A n c) n (css1.flatten ++ css2.flatten) ∧ Els cstF wr css1 fps1 (cstsMk k (l.take q)) ∧ Els cstF wr css2 fps2 (l.drop q) ∧ Ch (fun b => b ∈ blkL A ++ fps0.flatten) w wr) (fun _ i _ => n - (intOf i).toNat)
  case atStart => exact ⟨0, [], css0, [], fps0, Nat.zero_le _, rfl, by rw [sumTo_zero]; simp, rfl, by simpa using hown0, Els.nil, by simpa using hE0, Ch.refl _⟩
  case round =>
    clear hown0 hE0 h
    obtain ⟨q, css1, css2, fps1, fps2, hq, rfl, rfl, rfl, ho, hE1, hE2, hC⟩ := hrel
    by_cases hlt : q < n
    · obtain ⟨x, hx⟩ : ∃ x, l[q]? = some x := ⟨_, List.getElem?_eq_getElem (by have := HL.out; omega)⟩
      rw [drop_one hx] at hE2
      obtain ⟨cs, css2, f, fps2, rfl, rfl, hF, hE2t⟩ := hE2.cons
      clear hE2
      obtain ⟨A1, n1, c1, f1, rfl, hf1, o1⟩ := hF
      replace hf1 := hf1.symm
      subst hf1
      obtain ⟨g, hA, hg0⟩ : ∃ g, A = some ⟨g, 0, none⟩ ∧ g < wr.heap.size := by rcases own_form ho with ⟨_, h0, _⟩ | ⟨g, h1, _, h2⟩ <;> first | omega | exact ⟨g, h1, h2⟩
      subst hA
      have hP : css1.flatten.length = q * 2 := by rw [hE1.flat cstK, cstsMk_len, List.length_take]; have := HL.out; rw [Nat.min_eq_left (by omega)]
      rw [List.flatten_cons] at ho
      unfold cstL at ho
      have hek := csts_el hx
      unfold cstSz at hek
      obtain ⟨HSM, HSS⟩ := sum_el cstCnt hx
      have HSU := Lib.hid HSS
      have hle := sumTo_le cstCnt l (q + 1)
      unfold cstsCnt at hcs
      have hcb : sumTo cstCnt l q + cstCnt x ≤ 33554432 := by omega
      clear HSM HSS hle
      have hcx : cstCnt x = 1 + snpsCnt x.snaps := rfl
      rw [hcx] at hcb
      have hN' := hN
      simp only [blkL, List.flatten_append, List.flatten_cons, List.nodup_append, List.nodup_cons, List.mem_append, List.mem_cons, List.not_mem_nil, or_false, not_or, List.append_assoc, List.cons_append, List.nil_append] at hN'
      have hg1 : ∀ b ∈ f1, ¬ b = g := fun b hb e => by subst e; grind
      have hx1 : ∀ b ∈ fps1.flatten, ¬ (b = g ∨ b ∈ f1) := fun b h1 h2 => by (try simp only [List.mem_append] at h2); grind
      have hx2 : ∀ b ∈ fps2.flatten, ¬ (b = g ∨ b ∈ f1) := fun b h1 h2 => by (try simp only [List.mem_append] at h2); grind
      clear hN'
      have hT : Ch (fun b => b = g ∨ b ∈ f1) wr wr := Ch.refl _
      go_wp2_with fail
      refine (markText_any _ _ (by omega) (by omega)).mono ?_
      rintro e v1 ⟨rfl, hb1⟩
      have ho1 := own_ch ho (Ch.of_below (S := fun _ => False) hb1) (fun _ _ h => h)
      clear ho
      have hT1 := hT.trans (Ch.of_below hb1); clear hT; have hT := hT1; clear hT1
      have hgz1 : g < v1.heap.size := Nat.lt_of_lt_of_le hg0 hb1.size; clear hg0; have hg0 := hgz1; clear hgz1
      have o1' := o1.keep snpK hb1; clear o1; have o1 := o1'; clear o1'
      clear hb1
      have e0 : v1.cell? ⟨g, q * 2, none⟩ = some (.string x.nm) := own_mid ho1 hP (r := 0) rfl
      have y0 := ho1.frozenAt (q * 2)
      have e1 : v1.cell? ⟨g, q * 2 + 1, none⟩ = some (.slice A1 n1 c1) := own_mid ho1 hP (r := 1) rfl
      go_wp2_with fail
      obtain ⟨v2, hv2⟩ : ∃ W, W = (v1.setCell ⟨g, q * 2, none⟩ (.string (mtx (k + ((sumTo cstCnt l q : Nat) : Int))))) := ⟨_, rfl⟩
      have hs2 : v2 = setsW v1 g (q * 2 + 0) ([.string (mtx (k + ((sumTo cstCnt l q : Nat) : Int)))] : List Value) := hv2
      rw [← hv2]
      clear hv2
      have hc2 : Ch (fun b => b = g) v1 v2 := by rw [hs2]; exact ch_setsW _ _ _
      have ho2 : v2.ownsRow 0 165 2 (.slice (some ⟨g, 0, none⟩) n c) n (css1.flatten ++ (([(.string (mtx (k + ((sumTo cstCnt l q : Nat) : Int)))), (.slice A1 n1 c1)] : List Value) ++ css2.flatten)) := by
        have hh := own_setsW ([.string (mtx (k + ((sumTo cstCnt l q : Nat) : Int)))] : List Value) (q * 2 + 0) v1 _ ho1
        rw [setsL_in hP (r := 0) (vs := ([.string (mtx (k + ((sumTo cstCnt l q : Nat) : Int)))] : List Value)) (by simp)] at hh
        rw [hs2]; exact hh
      clear e0 y0
      clear e1
      clear hs2 ho1
      have hT2 := hT.trans (hc2.mono (fun b hb => .inl hb)); clear hT; have hT := hT2; clear hT2
      have hgz2 : g < v2.heap.size := Nat.lt_of_lt_of_le hg0 hc2.size; clear hg0; have hg0 := hgz2; clear hgz2
      have o1' := o1.ch snpK hc2 hg1; clear o1; have o1 := o1'; clear o1'
      clear hc2
      refine (snps_mark x.snaps f1 _ _ _ _ _ o1 (by grind) (by omega) (by omega) (by omega)).mono ?_
      rintro e v3 ⟨rfl, o1', hc3⟩
      clear o1; have o1 := o1'; clear o1'
      have ho3 := own_ch ho2 hc3 (fun b hb h2 => hg1 b h2 (by simpa [Value.ownBlock, eq_comm] using hb))
      clear ho2
      have hT3 := hT.trans (hc3.mono (fun b hb => .inr (by simp [hb]))); clear hT; have hT := hT3; clear hT3
      have hgz3 : g < v3.heap.size := Nat.lt_of_lt_of_le hg0 hc3.size; clear hg0; have hg0 := hgz3; clear hgz3
      clear hc3
      go_wp2
      have hE1' := hE1.ch cstK hT hx1
      have hE2' := hE2t.ch cstK hT hx2
      have hE3 := hE1'.app (Els.one (⟨A1, n1, c1, f1, rfl, rfl, o1⟩ : cstF (f1) v3 ([(.string (mtx (k + ((sumTo cstCnt l q : Nat) : Int)))), (.slice A1 n1 c1)] : List Value) (cstMk (k + ((sumTo cstCnt l q : Nat) : Int)) x)))
      have hsm := cstsMk_snoc k x (l.take q)
      rw [← take_more hx] at hsm
      have hct : ((cstsCnt (l.take q) : Nat) : Int) = ((sumTo cstCnt l q : Nat) : Int) := rfl
      rw [hct] at hsm
      rw [← hsm] at hE3
      refine ⟨⟨q + 1, css1 ++ [([(.string (mtx (k + ((sumTo cstCnt l q : Nat) : Int)))), (.slice A1 n1 c1)] : List Value)], css2, fps1 ++ [f1], fps2, by omega, by go_num, ?_, by simp, ?_, hE3, hE2', hC.trans (hT.mono (fun b hb => ?_))⟩, by simp [intOf]; omega⟩
      · rw [HSU.out]; congr 1; rw [hcx]; push_cast; omega
      · rw [flat_snoc, List.append_assoc]; exact ho3
      · simp only [blkL, List.flatten_append, List.flatten_cons, List.mem_append, List.mem_cons, List.not_mem_nil, or_false] at hb ⊢
        grind
    · go_wp2
      go_returns
      have hqn : q = n := by omega
      subst hqn
      have hql : l.length ≤ q := by have := HL.out; omega
      rw [List.take_of_length_le hql] at hE1
      rw [List.drop_eq_nil_of_le hql] at hE2
      obtain ⟨rfl, rfl⟩ := hE2.nils
      refine ⟨ret_int ?_, ?_, hC⟩
      · rw [sumTo_all _ _ _ hql]; rfl
      · rw [List.append_nil]; exact RowO.intro (by simpa using ho) (by rw [cstsMk_len]; exact HL.out) hE1
set_option maxRecDepth 8000 in
set_option maxHeartbeats 4000000 in
theorem csts_held (l : List Cst) (A : Option Addr) (n c : Nat) (k : Int) (w : World) (h : RowR cstR 2 w A n c (cstsMk k l)) (hs : cstsSz l ≤ 16777216) (hk0 : 0 < k) (hk1 : k ≤ 144115188075855872) :
    Calls Tryz.prog 86 #[.slice A n c, .int .i64 k] w fun e w' => e = .returned (.int .i64 (k + (cstsCnt l : Nat))) ∧ Below w.heap.size w w' := by
  have HL := Lib.hid (show n = l.length by rw [h.len, cstsMk_len])
  have hn : n ≤ 16777216 := by have h1 := HL.out; unfold cstsSz at hs; omega
  have hcs := csts_cnt l
  go_enter Tryz.func86, Tryz.ntmps86
  go_wp2
  go_loopw [1, 5] (fun u i wr => ∃ (q : Nat), q ≤ n ∧ i = .int .i64 q ∧ u = .int .i64 (k + ((sumTo cstCnt l q : Nat) : Int)) ∧ Below w.heap.size w wr) (fun _ i _ => n - (intOf i).toNat)
  case atStart => exact ⟨0, Nat.zero_le _, rfl, by rw [sumTo_zero]; simp, Below.refl _ _⟩
  case round =>
    obtain ⟨q, hq, rfl, rfl, hb⟩ := hrel
    by_cases hlt : q < n
    · obtain ⟨x, hx⟩ : ∃ x, l[q]? = some x := ⟨_, List.getElem?_eq_getElem (by have := HL.out; omega)⟩
      obtain ⟨b, off, rfl⟩ := h.head (by omega)
      obtain ⟨bl, x', cs, hx', hR, hcell⟩ := h.elem_at hlt
      obtain rfl : x' = cstMk (k + ((sumTo cstCnt l q : Nat) : Int)) x := Option.some.inj (hx'.symm.trans (cstsMk_at k l q x hx))
      obtain ⟨A1, n1, c1, rfl, h1⟩ := hR
      have k0 : w.cell? ⟨b, off + q * 2, none⟩ = some (.string (mtx (k + ((sumTo cstCnt l q : Nat) : Int)))) := hcell 0 _ rfl
      have k1 : w.cell? ⟨b, off + q * 2 + 1, none⟩ = some (.slice A1 n1 c1) := hcell 1 _ rfl
      clear hcell hx'
      have hek := csts_el hx
      unfold cstSz at hek
      obtain ⟨HSM, HSS⟩ := sum_el cstCnt hx
      have HSU := Lib.hid HSS
      have hle := sumTo_le cstCnt l (q + 1)
      unfold cstsCnt at hcs
      have hcb : sumTo cstCnt l q + cstCnt x ≤ 33554432 := by omega
      clear HSM HSS hle
      have hcx : cstCnt x = 1 + snpsCnt x.snaps := rfl
      rw [hcx] at hcb
      have e0 := (hb.cell (p := ⟨b, off + q * 2, none⟩) bl).trans k0
      go_wp2
      go_region_held3 (fun w' => w'.cell? ⟨b, off + q * 2, none⟩ = some (.string (mtx (k + ((sumTo cstCnt l q : Nat) : Int)))) ∧ Below w.heap.size w w') (first | (have hh := ‹_ ∧ _›; exact ⟨keep_cell hbw hh.1, bthen hh.2 hbw⟩) | (have hh := ‹_ ∧ _›; exact ⟨hh.1, hh.2.drew⟩) | exact ⟨e0, hb.drew⟩ | exact ⟨e0, hb⟩) (first | (go_at_call 41; refine (markText_any _ _ (by omega) (by omega)).mono ?_; rintro e w1 ⟨rfl, hbw⟩))
      have hr1 := (by have hh := ‹_ ∧ _›; exact hh.2 : Below w.heap.size w _)
      clear e0
      replace hbw := hr1
      have e1 := (hr1.cell (p := ⟨b, off + q * 2 + 1, none⟩) bl).trans k1
      go_wp2_with fail
      refine (snps_held x.snaps _ _ _ _ _ (h1.keep snpK hr1) (by omega) (by omega) (by omega)).mono ?_
      rintro e w2 ⟨rfl, hb2⟩
      have hr2 := bthen hr1 hb2
      clear e1
      go_wp2
      refine ⟨⟨q + 1, by omega, by go_num, ?_, hr2⟩, by simp [intOf]; omega⟩
      rw [HSU.out]; congr 1; rw [hcx]; push_cast; omega
    · go_wp2
      go_returns
      have hql : l.length ≤ q := by have := HL.out; omega
      refine ⟨ret_int ?_, hb⟩
      rw [sumTo_all _ _ _ hql]; rfl
end Go.Proofs.YtdphdnllhmnelaaGreat
