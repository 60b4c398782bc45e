/- Contracts and lemmas: Kind. -/
import Derived.Test.YtdphdnllhmnelaaJ7
import Derived.Test.YtdphdnllhmnelaaJ1
import Derived.Test.YtdphdnllhmnelaaJ12
import Derived.Test.YtdphdnllhmnelaaJ13
/- Data in memory: how elements of a kind lie in cells, read (R) and owned with the list of their blocks (F); rows of them. -/
namespace Go.Proofs.Ytdphdnllhmnelaa
open Go.RowKit

/-- the block of an address -/
def blkL : Option Addr → List Nat
  | none => []
  | some a => [a.block]
theorem mem_blkL {A : Option Addr} {b : Nat} : b ∈ blkL A ↔ BlkOf A b := by
  rcases A with _ | a
  · simp [blkL, BlkOf]
  · simp [blkL, BlkOf, eq_comm]
theorem own_raise {w : World} {base base' e sz n c : Nat} {A : Option Addr} {xs : List Value} (h : w.ownsRow base e sz (.slice A n c) n xs) (hb : ∀ b ∈ blkL A, base' ≤ b) : w.ownsRow base' e sz (.slice A n c) n xs := by
  refine ⟨h.1, ?_⟩
  rcases h.2 with h0 | ⟨g, cap, cur, hv, _, hr⟩
  · exact .inl h0
  · refine .inr ⟨g, cap, cur, hv, ?_, hr⟩
    injection hv with hA _ _
    subst hA
    exact hb g (by simp [blkL])
theorem own_lo {w : World} {base e sz n c : Nat} {A : Option Addr} {xs : List Value} (h : w.ownsRow base e sz (.slice A n c) n xs) : ∀ b ∈ blkL A, base ≤ b ∧ b < w.heap.size := by
  intro b hb
  rcases own_form h with ⟨rfl, _⟩ | ⟨g, rfl, h1, h2⟩
  · simp [blkL] at hb
  · have : b = g := by simpa [blkL] using hb
    subst this; exact ⟨h1, h2⟩
theorem own_none {w : World} {base e sz n c : Nat} {A : Option Addr} {xs : List Value} (h : w.ownsRow base e sz (.slice A n c) n xs) : A = none → c = 0 := fun hA => by
  rcases own_form h with ⟨_, _, h0, _⟩ | ⟨g, hg, _⟩
  · exact h0
  · rw [hA] at hg; cases hg
theorem own_chL {S : Nat → Prop} {w w' : World} {base e sz n c : Nat} {A : Option Addr} {xs : List Value} (h : w.ownsRow base e sz (.slice A n c) n xs) (hc : Ch S w w') (hS : ∀ b ∈ blkL A, ¬ S b) : w'.ownsRow base e sz (.slice A n c) n xs :=
  own_ch h hc (fun k hk => hS k (mem_blkL.2 (blk_of hk)))

/-- how an element of a kind lies in memory -/
structure KindOk {α : Type} (R : World → List Value → α → Prop) (F : List Nat → World → List Value → α → Prop) (sz : Nat) : Prop where
  rlen : ∀ {w cs x}, R w cs x → cs.length = sz
  rkeep : ∀ {w w' cs x}, R w cs x → Below w.heap.size w w' → R w' cs x
  flt : ∀ {fp w cs x}, F fp w cs x → ∀ b ∈ fp, b < w.heap.size
  fch : ∀ {fp w w' cs x} {S : Nat → Prop}, F fp w cs x → Ch S w w' → (∀ b ∈ fp, ¬ S b) → F fp w' cs x
  fr : ∀ {fp w cs x}, F fp w cs x → R w cs x
  one : ∀ {w cs x}, R w cs x → ∀ v ∈ cs, v.oneCell' = true

/-- elements, one by one -/
def Els {α : Type} (F : List Nat → World → List Value → α → Prop) (w : World) : List (List Value) → List (List Nat) → List α → Prop
  | [], [], [] => True
  | cs :: css, f :: fps, x :: l => F f w cs x ∧ Els F w css fps l
  | _, _, _ => False
section
variable {α : Type} {R : World → List Value → α → Prop} {F : List Nat → World → List Value → α → Prop} {sz : Nat} {w w' : World} {css : List (List Value)} {fps : List (List Nat)} {l : List α}
theorem Els.lens : ∀ {css : List (List Value)} {fps : List (List Nat)} {l : List α}, Els F w css fps l → css.length = l.length ∧ fps.length = l.length
  | [], [], [], _ => ⟨rfl, rfl⟩
  | cs :: css, f :: fps, x :: l, h => by have := Els.lens h.2; simp [this]
  | [], [], _ :: _, h => h.elim
  | [], _ :: _, _, h => h.elim
  | _ :: _, [], _, h => h.elim
  | _ :: _, _ :: _, [], h => h.elim
theorem Els.ch (K : KindOk R F sz) {S : Nat → Prop} (hc : Ch S w w') : ∀ {css : List (List Value)} {fps : List (List Nat)} {l : List α}, Els F w css fps l → (∀ b ∈ fps.flatten, ¬ S b) → Els F w' css fps l
  | [], [], [], _, _ => trivial
  | cs :: css, f :: fps, x :: l, h, hS => ⟨K.fch h.1 hc (fun b hb => hS b (by simp [hb])), Els.ch K hc h.2 (fun b hb => hS b (by rw [List.flatten_cons]; exact List.mem_append_right _ hb))⟩
  | [], [], _ :: _, h, _ => h.elim
  | [], _ :: _, _, h, _ => h.elim
  | _ :: _, [], _, h, _ => h.elim
  | _ :: _, _ :: _, [], h, _ => h.elim
theorem Els.lt (K : KindOk R F sz) : ∀ {css : List (List Value)} {fps : List (List Nat)} {l : List α}, Els F w css fps l → ∀ b ∈ fps.flatten, b < w.heap.size
  | [], [], [], _, b, hb => by simp at hb
  | cs :: css, f :: fps, x :: l, h, b, hb => by
    rw [List.flatten_cons] at hb
    rcases List.mem_append.1 hb with hb | hb
    · exact K.flt h.1 b hb
    · exact Els.lt K h.2 b hb
  | [], [], _ :: _, h, _, _ => h.elim
  | [], _ :: _, _, h, _, _ => h.elim
  | _ :: _, [], _, h, _, _ => h.elim
  | _ :: _, _ :: _, [], h, _, _ => h.elim
theorem Els.keep (K : KindOk R F sz) (h : Els F w css fps l) (hb : Below w.heap.size w w') : Els F w' css fps l := h.ch K (S := fun _ => False) (Ch.of_below hb) (fun _ _ h => h)
theorem Els.app : ∀ {css css' : List (List Value)} {fps fps' : List (List Nat)} {l l' : List α}, Els F w css fps l → Els F w css' fps' l' → Els F w (css ++ css') (fps ++ fps') (l ++ l')
  | [], css', [], fps', [], l', _, h => h
  | cs :: css, css', f :: fps, fps', x :: l, l', h, h' => ⟨h.1, Els.app h.2 h'⟩
  | [], _, [], _, _ :: _, _, h, _ => h.elim
  | [], _, _ :: _, _, _, _, h, _ => h.elim
  | _ :: _, _, [], _, _, _, h, _ => h.elim
  | _ :: _, _, _ :: _, _, [], _, h, _ => h.elim
theorem Els.one {cs : List Value} {f : List Nat} {x : α} (h : F f w cs x) : Els F w [cs] [f] [x] := ⟨h, trivial⟩
theorem Els.nil : Els F w [] [] ([] : List α) := trivial
theorem Els.cons {x : α} (h : Els F w css fps (x :: l)) : ∃ cs css' f fps', css = cs :: css' ∧ fps = f :: fps' ∧ F f w cs x ∧ Els F w css' fps' l := by
  match css, fps, h with
  | cs :: css', f :: fps', h => exact ⟨cs, css', f, fps', rfl, rfl, h.1, h.2⟩
  | [], [], h => exact h.elim
  | [], _ :: _, h => exact h.elim
  | _ :: _, [], h => exact h.elim
theorem Els.split : ∀ {l1 l2 : List α} {css : List (List Value)} {fps : List (List Nat)}, Els F w css fps (l1 ++ l2) → ∃ c1 c2 f1 f2, css = c1 ++ c2 ∧ fps = f1 ++ f2 ∧ Els F w c1 f1 l1 ∧ Els F w c2 f2 l2
  | [], l2, css, fps, h => ⟨[], css, [], fps, rfl, rfl, trivial, h⟩
  | x :: l1, l2, css, fps, h => by
    obtain ⟨cs, css', f, fps', rfl, rfl, h1, h2⟩ := Els.cons h
    obtain ⟨c1, c2, f1, f2, rfl, rfl, h3, h4⟩ := Els.split h2
    exact ⟨cs :: c1, c2, f :: f1, f2, rfl, rfl, ⟨h1, h3⟩, h4⟩
theorem Els.clen (K : KindOk R F sz) : ∀ {css : List (List Value)} {fps : List (List Nat)} {l : List α}, Els F w css fps l → ∀ cs ∈ css, cs.length = sz
  | [], [], [], _, cs, hb => by simp at hb
  | c :: css, f :: fps, x :: l, h, cs, hb => by
    rcases List.mem_cons.1 hb with rfl | hb
    · exact K.rlen (K.fr h.1)
    · exact Els.clen K h.2 cs hb
  | [], [], _ :: _, h, _, _ => h.elim
  | [], _ :: _, _, h, _, _ => h.elim
  | _ :: _, [], _, h, _, _ => h.elim
  | _ :: _, _ :: _, [], h, _, _ => h.elim
theorem Els.flat (K : KindOk R F sz) (h : Els F w css fps l) : css.flatten.length = l.length * sz := by
  rw [flat_len (h.clen K), h.lens.1]
theorem Els.ones (K : KindOk R F sz) : ∀ {css : List (List Value)} {fps : List (List Nat)} {l : List α}, Els F w css fps l → ∀ v ∈ css.flatten, v.oneCell' = true
  | [], [], [], _, v, hb => by simp at hb
  | c :: css, f :: fps, x :: l, h, v, hb => by
    rw [List.flatten_cons] at hb
    rcases List.mem_append.1 hb with hb | hb
    · exact K.one (K.fr h.1) v hb
    · exact Els.ones K h.2 v hb
  | [], [], _ :: _, h, _, _ => h.elim
  | [], _ :: _, _, h, _, _ => h.elim
  | _ :: _, [], _, h, _, _ => h.elim
  | _ :: _, _ :: _, [], h, _, _ => h.elim
theorem Els.get : ∀ {css : List (List Value)} {fps : List (List Nat)} {l : List α}, Els F w css fps l → ∀ {i : Nat} {x : α}, l[i]? = some x → ∃ cs f, css[i]? = some cs ∧ fps[i]? = some f ∧ F f w cs x
  | [], [], [], _, i, x, hx => by simp at hx
  | c :: css, f :: fps, y :: l, h, i, x, hx => by
    rcases i with _ | i
    · simp at hx; subst hx; exact ⟨c, f, rfl, rfl, h.1⟩
    · obtain ⟨cs, g, h1, h2, h3⟩ := Els.get h.2 (i := i) (x := x) (by simpa using hx)
      exact ⟨cs, g, by simpa using h1, by simpa using h2, h3⟩
  | [], [], _ :: _, h, _, _, _ => h.elim
  | [], _ :: _, _, h, _, _, _ => h.elim
  | _ :: _, [], _, h, _, _, _ => h.elim
  | _ :: _, _ :: _, [], h, _, _, _ => h.elim
end

/-- a row of elements that is read -/
def RowR {α : Type} (R : World → List Value → α → Prop) (sz : Nat) (w : World) (A : Option Addr) (n c : Nat) (l : List α) : Prop := RowAt R sz w A n l ∧ (A = none → c = 0)
/-- a row of elements that is owned: its blocks -/
def RowO {α : Type} (F : List Nat → World → List Value → α → Prop) (e sz : Nat) (fp : List Nat) (w : World) (A : Option Addr) (n c : Nat) (l : List α) : Prop :=
  ∃ css fps, fp = blkL A ++ fps.flatten ∧ w.ownsRow 0 e sz (.slice A n c) n css.flatten ∧ n = l.length ∧ Els F w css fps l
section
variable {α : Type} {R : World → List Value → α → Prop} {F : List Nat → World → List Value → α → Prop} {e sz n c : Nat} {w w' : World} {fp : List Nat} {A : Option Addr} {l : List α}
theorem RowO.intro {css : List (List Value)} {fps : List (List Nat)} (ho : w.ownsRow 0 e sz (.slice A n c) n css.flatten) (hl : n = l.length) (hE : Els F w css fps l) : RowO F e sz (blkL A ++ fps.flatten) w A n c l := ⟨css, fps, rfl, ho, hl, hE⟩
theorem RowO.ex (h : RowO F e sz fp w A n c l) : ∃ css fps, fp = blkL A ++ fps.flatten ∧ w.ownsRow 0 e sz (.slice A n c) n css.flatten ∧ n = l.length ∧ Els F w css fps l := h
theorem RowR.keep (K : KindOk R F sz) (h : RowR R sz w A n c l) (hb : Below w.heap.size w w') : RowR R sz w' A n c l := ⟨h.1.keep hb (fun _ _ _ h => K.rkeep h hb), h.2⟩
theorem RowR.len (h : RowR R sz w A n c l) : n = l.length := h.1.1
theorem RowO.len (h : RowO F e sz fp w A n c l) : n = l.length := by obtain ⟨_, _, _, _, h, _⟩ := h; exact h
theorem RowO.lt (K : KindOk R F sz) (h : RowO F e sz fp w A n c l) : ∀ b ∈ fp, b < w.heap.size := by
  obtain ⟨css, fps, rfl, ho, _, hE⟩ := h
  intro b hb
  rcases List.mem_append.1 hb with hb | hb
  · exact (own_lo ho b hb).2
  · exact hE.lt K b hb
theorem RowO.ch (K : KindOk R F sz) {S : Nat → Prop} (h : RowO F e sz fp w A n c l) (hc : Ch S w w') (hS : ∀ b ∈ fp, ¬ S b) : RowO F e sz fp w' A n c l := by
  obtain ⟨css, fps, rfl, ho, hl, hE⟩ := h
  exact ⟨css, fps, rfl, own_chL ho hc (fun b hb => hS b (List.mem_append_left _ hb)), hl, hE.ch K hc (fun b hb => hS b (List.mem_append_right _ hb))⟩
theorem RowO.keep (K : KindOk R F sz) (h : RowO F e sz fp w A n c l) (hb : Below w.heap.size w w') : RowO F e sz fp w' A n c l := h.ch K (S := fun _ => False) (Ch.of_below hb) (fun _ _ h => h)
theorem RowO.nil : RowO F e sz [] w none 0 0 ([] : List α) := ⟨[], [], rfl, World.ownsRow_nil w 0 e sz, rfl, trivial⟩
theorem RowO.at_ (K : KindOk R F sz) (h : RowO F e sz fp w A n c l) (h0 : 0 < sz) : RowR R sz w A n c l := by
  obtain ⟨css, fps, rfl, ho, hl, hE⟩ := h
  refine ⟨⟨hl, fun hn => ?_⟩, own_none ho⟩
  rcases own_form ho with ⟨_, h0, _⟩ | ⟨g, rfl, _, hg⟩
  · omega
  · refine ⟨g, 0, rfl, hg, fun i x hx => ?_⟩
    obtain ⟨cs, f, h1, _, h3⟩ := hE.get hx
    refine ⟨cs, K.fr h3, K.rlen (K.fr h3), fun j u hu => ?_⟩
    have hj : j < sz := by rw [← K.rlen (K.fr h3)]; exact (List.getElem?_eq_some_iff.1 hu).1
    have hc := ho.cells (g := g) rfl (i * sz + j) u (by rw [flat_get (hE.clen K) h1 hj]; exact hu)
    rw [Addr.add_lit] at hc
    simpa using hc
end
/-- an element, a row, in blocks of an interval, each once -/
def ElI {α : Type} (F : List Nat → World → List Value → α → Prop) (lo hi : Nat) (w : World) (cs : List Value) (x : α) : Prop := ∃ fp, fp.Nodup ∧ (∀ b ∈ fp, lo ≤ b ∧ b < hi) ∧ F fp w cs x
structure RowI {α : Type} (F : List Nat → World → List Value → α → Prop) (e sz lo hi : Nat) (w : World) (A : Option Addr) (n c : Nat) (l : List α) : Prop where
  ex : ∃ fp, fp.Nodup ∧ (∀ b ∈ fp, lo ≤ b ∧ b < hi) ∧ RowO F e sz fp w A n c l
section
variable {α : Type} {R : World → List Value → α → Prop} {F : List Nat → World → List Value → α → Prop} {e sz n c lo hi lo' hi' : Nat} {w w' : World} {fp : List Nat} {A : Option Addr} {l : List α} {cs : List Value} {x : α}
theorem ElI.ch (K : KindOk R F sz) {S : Nat → Prop} (h : ElI F lo hi w cs x) (hc : Ch S w w') (hS : ∀ k, Iv lo hi k → ¬ S k) : ElI F lo hi w' cs x := by
  obtain ⟨fp, h1, h2, h3⟩ := h
  exact ⟨fp, h1, h2, K.fch h3 hc (fun b hb => hS b (h2 b hb))⟩
theorem ElI.keep (K : KindOk R F sz) (h : ElI F lo hi w cs x) (hb : Below w.heap.size w w') : ElI F lo hi w' cs x := h.ch K (S := fun _ => False) (Ch.of_below hb) (fun _ _ h => h)
theorem ElI.wide (h : ElI F lo hi w cs x) (h1 : lo' ≤ lo) (h2 : hi ≤ hi') : ElI F lo' hi' w cs x := by
  obtain ⟨fp, k1, k2, k3⟩ := h
  exact ⟨fp, k1, fun b hb => ⟨Nat.le_trans h1 (k2 b hb).1, Nat.lt_of_lt_of_le (k2 b hb).2 h2⟩, k3⟩
theorem ElI.at_ (K : KindOk R F sz) (h : ElI F lo hi w cs x) : R w cs x := by obtain ⟨fp, _, _, h⟩ := h; exact K.fr h
theorem RowI.ch (K : KindOk R F sz) {S : Nat → Prop} (h : RowI F e sz lo hi w A n c l) (hc : Ch S w w') (hS : ∀ k, Iv lo hi k → ¬ S k) : RowI F e sz lo hi w' A n c l := by
  obtain ⟨fp, h1, h2, h3⟩ := h.ex
  exact ⟨fp, h1, h2, h3.ch K hc (fun b hb => hS b (h2 b hb))⟩
theorem RowI.keep (K : KindOk R F sz) (h : RowI F e sz lo hi w A n c l) (hb : Below w.heap.size w w') : RowI F e sz lo hi w' A n c l := h.ch K (S := fun _ => False) (Ch.of_below hb) (fun _ _ h => h)
theorem RowI.wide (h : RowI F e sz lo hi w A n c l) (h1 : lo' ≤ lo) (h2 : hi ≤ hi') : RowI F e sz lo' hi' w A n c l := by
  obtain ⟨fp, k1, k2, k3⟩ := h.ex
  exact ⟨fp, k1, fun b hb => ⟨Nat.le_trans h1 (k2 b hb).1, Nat.lt_of_lt_of_le (k2 b hb).2 h2⟩, k3⟩
theorem RowI.len (h : RowI F e sz lo hi w A n c l) : n = l.length := by obtain ⟨fp, _, _, h⟩ := h.ex; exact h.len
theorem RowI.at_ (K : KindOk R F sz) (h : RowI F e sz lo hi w A n c l) (h0 : 0 < sz) : RowR R sz w A n c l := by obtain ⟨fp, _, _, h⟩ := h.ex; exact h.at_ K h0
theorem RowI.nil : RowI F e sz lo hi w none 0 0 ([] : List α) := ⟨[], List.nodup_nil, (fun _ h => by cases h), RowO.nil⟩
end

/-! ### cells stored one behind the other -/
def setsL : List Value → Nat → List Value → List Value
  | xs, _, [] => xs
  | xs, o, v :: vs => setsL (xs.set o v) (o + 1) vs
def setsW : World → Nat → Nat → List Value → World
  | w, _, _, [] => w
  | w, g, o, v :: vs => setsW (w.setCell ⟨g, o, none⟩ v) g (o + 1) vs
theorem own_setsW {base e sz n c g : Nat} : ∀ (vs : List Value) (o : Nat) (w : World) (xs : List Value), w.ownsRow base e sz (.slice (some ⟨g, 0, none⟩) n c) n xs → (setsW w g o vs).ownsRow base e sz (.slice (some ⟨g, 0, none⟩) n c) n (setsL xs o vs)
  | [], _, _, _, h => h
  | v :: vs, o, w, xs, h => own_setsW vs (o + 1) _ _ (h.stored o v).1
theorem ch_setsW {g : Nat} : ∀ (vs : List Value) (o : Nat) (w : World), Ch (fun b => b = g) w (setsW w g o vs)
  | [], _, w => Ch.refl w
  | v :: vs, o, w => ((Ch.refl (S := fun b => b = g) w).setCell (p := ⟨g, o, none⟩) rfl v).trans (ch_setsW vs (o + 1) _)
theorem setsL_mid : ∀ (vs a b c : List Value), b.length = vs.length → setsL (a ++ (b ++ c)) a.length vs = a ++ (vs ++ c)
  | [], a, b, c, h => by
    have : b = [] := List.eq_nil_of_length_eq_zero h
    subst this; rfl
  | v :: vs, a, [], c, h => by simp at h
  | v :: vs, a, u :: b, c, h => by
    show setsL ((a ++ (u :: b ++ c)).set a.length v) (a.length + 1) vs = _
    have e1 : (a ++ (u :: b ++ c)).set a.length v = (a ++ [v]) ++ (b ++ c) := by
      rw [List.set_append_right _ _ (Nat.le_refl _), Nat.sub_self]; simp
    rw [e1]
    have := setsL_mid vs (a ++ [v]) b c (by simpa using h)
    rw [List.length_append] at this
    simpa using this
/-- the same at a place that is told -/
theorem setsL_at {vs a b c : List Value} {o : Nat} (ho : a.length = o) (h : b.length = vs.length) : setsL (a ++ (b ++ c)) o vs = a ++ (vs ++ c) := by subst ho; exact setsL_mid vs a b c h
/-- cells set within the middle -/
theorem setsL_in : ∀ {vs a b d : List Value} {o r : Nat}, a.length = o → r + vs.length ≤ b.length → setsL (a ++ (b ++ d)) (o + r) vs = a ++ (setsL b r vs ++ d)
  | [], a, b, d, o, r, _, _ => rfl
  | v :: vs, a, b, d, o, r, ho, h => by
    subst ho
    simp only [List.length_cons] at h
    show setsL ((a ++ (b ++ d)).set (a.length + r) v) (a.length + r + 1) vs = a ++ (setsL (b.set r v) (r + 1) vs ++ d)
    rw [List.set_append_right _ _ (by omega), Nat.add_sub_cancel_left, List.set_append_left _ _ (by omega), Nat.add_assoc]
    exact setsL_in rfl (by rw [List.length_set]; omega)
/-- a cell in the middle of an owned row -/
theorem own_mid {w : World} {base e sz n c g o r : Nat} {a b d : List Value} {v : Value} (h : w.ownsRow base e sz (.slice (some ⟨g, 0, none⟩) n c) n (a ++ (b ++ d))) (ho : a.length = o) (hr : b[r]? = some v) : w.cell? ⟨g, o + r, none⟩ = some v := by
  subst ho
  have hrl : r < b.length := (List.getElem?_eq_some_iff.1 hr).1
  have hc := h.cells (g := g) rfl (a.length + r) v (by rw [List.getElem?_append_right (by omega), Nat.add_sub_cancel_left, List.getElem?_append_left hrl]; exact hr)
  rw [Addr.add_lit] at hc
  simpa using hc
theorem take_more {α : Type} {l : List α} {k : Nat} {x : α} (h : l[k]? = some x) : l.take (k + 1) = l.take k ++ [x] := by
  obtain ⟨h1, h2⟩ := List.getElem?_eq_some_iff.1 h
  rw [List.take_succ_eq_append_getElem h1, h2]
theorem drop_one {α : Type} {l : List α} {k : Nat} {x : α} (h : l[k]? = some x) : l.drop k = x :: l.drop (k + 1) := by
  obtain ⟨h1, h2⟩ := List.getElem?_eq_some_iff.1 h
  rw [List.drop_eq_getElem_cons h1, h2]
theorem nodup_new {a b : List Nat} {m : Nat} (ha : a.Nodup) (hb : b.Nodup) (h1 : ∀ x ∈ a, x < m) (h2 : ∀ x ∈ b, m ≤ x) : (a ++ b).Nodup :=
  List.nodup_append.2 ⟨ha, hb, fun x hx y hy e => by have := h1 x hx; have := h2 y hy; omega⟩
end Go.Proofs.Ytdphdnllhmnelaa
