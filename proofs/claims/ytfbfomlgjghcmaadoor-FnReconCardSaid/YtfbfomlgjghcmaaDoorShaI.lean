/- Contracts of the program's Sha: RotateLeft32, fourBytes, shaBlock, Sha. -/
import Derived.Test.YtfbfomlgjghcmaaDoorShaT
import Derived.Test.YtfbfomlgjghcmaaDoorInts
import Derived.Test.YtfbfomlgjghcmaaDoorGrow
import Derived.Test.YtfbfomlgjghcmaaDoorLast
import Derived.Test.YtfbfomlgjghcmaaDoorRow
import Derived.Deep.LoopGhost
namespace Go.Proofs.YtfbfomlgjghcmaaDoor
open Go.RowKit

theorem and31 {n : Nat} (h1 : 1 ≤ n) (h2 : n ≤ 31) : bits .and .u64 (IntKind.u64.wrap (-(n : Int))) 31 = ((32 - n : Nat) : Int) := by
  have : n = 1 ∨ n = 2 ∨ n = 3 ∨ n = 4 ∨ n = 5 ∨ n = 6 ∨ n = 7 ∨ n = 8 ∨ n = 9 ∨ n = 10 ∨ n = 11 ∨ n = 12 ∨ n = 13 ∨ n = 14 ∨ n = 15 ∨ n = 16 ∨ n = 17 ∨ n = 18 ∨ n = 19 ∨ n = 20 ∨ n = 21 ∨ n = 22 ∨ n = 23 ∨ n = 24 ∨ n = 25 ∨ n = 26 ∨ n = 27 ∨ n = 28 ∨ n = 29 ∨ n = 30 ∨ n = 31 := by omega
  rcases this with rfl | rfl | rfl | rfl | rfl | rfl | rfl | rfl | rfl | rfl | rfl | rfl | rfl | rfl | rfl | rfl | rfl | rfl | rfl | rfl | rfl | rfl | rfl | rfl | rfl | rfl | rfl | rfl | rfl | rfl | rfl <;> decide +kernel
theorem rotl_any (x n : Nat) (k : Int) (hk : k = -(n : Int)) (hx : x < 4294967296) (h1 : 1 ≤ n) (h2 : n ≤ 31) (w : World) :
    Calls Tryd.prog 73 #[.int .u32 x, .int .i64 k] w fun e w' => e = .returned (.int .u32 ((rr x n : Nat) : Int)) ∧ w = w' := by
  subst hk
  have ha := and31 h1 h2
  have e2 : bits .or .u32 ((x : Int) * 2 ^ (32 - n) % 4294967296) ((x : Int) / 2 ^ (32 - (32 - n))) = ((rr x n : Nat) : Int) := by
    rw [show 32 - (32 - n) = n by omega, show (x : Int) * 2 ^ (32 - n) % 4294967296 = ((x * 2 ^ (32 - n) % 4294967296 : Nat) : Int) by rw [Int.natCast_emod, Int.natCast_mul, Int.natCast_pow]; rfl,
      show (x : Int) / 2 ^ n = ((x / 2 ^ n : Nat) : Int) by push_cast; rfl, or_u32 (Nat.mod_lt _ (by decide)) (Nat.lt_of_le_of_lt (Nat.div_le_self _ _) hx), rr_left hx]
  have HE := Lib.hid e2
  clear e2
  go_enter Tryd.func73, Tryd.ntmps73
  go_wp2
  rw [HE.out]
  go_returns
  exact ⟨rfl, rfl⟩
theorem w4_u32 {a b c d : Nat} (ha : a < 256) (hb : b < 256) (hc : c < 256) (hd : d < 256) :
    bits .or .u32 (bits .or .u32 (bits .or .u32 ((a : Int) * 16777216) ((b : Int) * 65536)) ((c : Int) * 256)) (d : Int) = ((w4 a b c d : Nat) : Int) := by
  have h1 := or_lt (n := 32) (show a * 16777216 < 2 ^ 32 by omega) (show b * 65536 < 2 ^ 32 by omega)
  have h2 := or_lt (n := 32) h1 (show c * 256 < 2 ^ 32 by omega)
  rw [show (a : Int) * 16777216 = ((a * 16777216 : Nat) : Int) by omega, show (b : Int) * 65536 = ((b * 65536 : Nat) : Int) by omega, show (c : Int) * 256 = ((c * 256 : Nat) : Int) by omega,
    or_u32 (by omega) (by omega), or_u32 h1 (by omega), or_u32 h2 (by omega)]
  rfl
theorem fourBytes_any (s : ByteArray) (w : World) (hs : 4 ≤ s.size) :
    Calls Tryd.prog 72 #[.string s] w fun e w' => e = .returned (.int .u32 ((bW s 0 : Nat) : Int)) ∧ Below w.heap.size w w' := by
  have l0 := bAt_lt s 0
  have l1 := bAt_lt s 1
  have l2 := bAt_lt s 2
  have l3 := bAt_lt s 3
  have b0 := bAt_get (s := s) (i := 0) (by omega)
  have b1 := bAt_get (s := s) (i := 1) (by omega)
  have b2 := bAt_get (s := s) (i := 2) (by omega)
  have b3 := bAt_get (s := s) (i := 3) (by omega)
  have HO := Lib.hid (w4_u32 l0 l1 l2 l3)
  have v0 : s.size > 0 := by omega
  have v1 : s.size > 1 := by omega
  have v2 : s.size > 2 := by omega
  have v3 : s.size > 3 := by omega
  go_enter Tryd.func72, Tryd.ntmps72
  go_wp2
  go_quiet (fail)
  go_wp2
  rw [HO.out]
  go_returns
  exact ⟨rfl, below_drewN (Below.refl _ _) _⟩
def u32V (f : Nat → Nat) (i : Nat) : Value := .int .u32 ((f i : Nat) : Int)
def agg8 (f : Nat → Nat) : Value := .agg #[u32V f 0, u32V f 1, u32V f 2, u32V f 3, u32V f 4, u32V f 5, u32V f 6, u32V f 7]
/-- the table of the 64 keys lies in block 0 -/
def KeysAt (w : World) : Prop := ∀ j, j < 64 → w.cell? ⟨0, j, none⟩ = some (u32V kF j)
theorem KeysAt.keep {w w' : World} (h : KeysAt w) (hb : Below w.heap.size w w') : KeysAt w' := fun j hj => keep_cell hb (h j hj)
/-- n cells of block g, none of them frozen -/
def Arr (w : World) (g n : Nat) (F : Nat → Value) : Prop := ∀ j, j < n → w.cell? ⟨g, j, none⟩ = some (F j) ∧ w.frozen? ⟨g, j, none⟩ = false
section
variable {w w' : World} {g n : Nat} {F : Nat → Value}
theorem Arr.keep (h : Arr w g n F) (hb : Below w.heap.size w w') : Arr w' g n F := fun j hj =>
  ⟨keep_cell hb (h j hj).1, (hb.frozen (p := ⟨g, j, none⟩) (cell_lt (h j hj).1)).trans (h j hj).2⟩
theorem Arr.set (h : Arr w g n F) {k : Nat} (hk : k < n) (u : Value) : Arr (w.setCell ⟨g, k, none⟩ u) g n (fun j => if j = k then u else F j) := fun j hj => by
  refine ⟨?_, (World.frozen?_setCell _ _ _ _).trans (h j hj).2⟩
  by_cases e : j = k
  · subst e; simp only [if_pos]; exact sethere (h j hj).1
  · simp only [if_neg e]; exact setoff (h j hj).1 (.inr (fun h => e h.symm))
theorem Arr.off (h : Arr w g n F) {g' k : Nat} (hg : g' ≠ g) (u : Value) : Arr (w.setCell ⟨g', k, none⟩ u) g n F := fun j hj =>
  ⟨setoff (h j hj).1 (.inl hg), (World.frozen?_setCell _ _ _ _).trans (h j hj).2⟩
theorem Arr.lt (h : Arr w g n F) (hn : 0 < n) : g < w.heap.size := cell_lt (h 0 hn).1
theorem Arr.mono (h : Arr w g n F) {G : Nat → Value} (e : ∀ j, j < n → F j = G j) : Arr w g n G := fun j hj => by rw [← e j hj]; exact h j hj
end
/-- what shaBlock holds in memory: the state, the result's place, the words -/
structure ShaW (w wr : World) (h : Nat → Nat) (F : Nat → Value) : Prop where
  st : Arr wr w.heap.size 8 (u32V h)
  rs : Arr wr (w.heap.size + 1) 8 (fun _ => .int .u32 0)
  ws : Arr wr (w.heap.size + 1 + 1) 64 F
  keys : KeysAt wr
  below : Below w.heap.size w wr
  pos : 0 < w.heap.size
section
variable {w wr w' : World} {h : Nat → Nat} {F : Nat → Value}
theorem ShaW.keep (q : ShaW w wr h F) (hb : Below wr.heap.size wr w') : ShaW w w' h F :=
  ⟨q.st.keep hb, q.rs.keep hb, q.ws.keep hb, q.keys.keep hb, bthen q.below hb, q.pos⟩
theorem ShaW.setw (q : ShaW w wr h F) {k : Nat} (hk : k < 64) (u : Value) : ShaW w (wr.setCell ⟨w.heap.size + 1 + 1, k, none⟩ u) h (fun j => if j = k then u else F j) :=
  ⟨q.st.off (by omega) u, q.rs.off (by omega) u, q.ws.set hk u, fun j hj => setoff (q.keys j hj) (.inl (by have := q.below.size; have := q.ws.lt (by decide); omega)), q.below.setCell (by simp; omega) u, q.pos⟩
end
theorem ShaW.drewN {w wr : World} {h : Nat → Nat} {F : Nat → Value} (q : ShaW w wr h F) (n : Nat) : ShaW w (wr.drewN n) h F :=
  ⟨q.st, q.rs, q.ws, q.keys, below_drewN q.below n, q.pos⟩
theorem ShaW.mono {w wr : World} {h : Nat → Nat} {F G : Nat → Value} (q : ShaW w wr h F) (e : ∀ j, j < 64 → F j = G j) : ShaW w wr h G :=
  ⟨q.st, q.rs, q.ws.mono e, q.keys, q.below, q.pos⟩
theorem Arr.new (w : World) (a : Array Value) (t : TypeId) (F : Nat → Value) (hF : ∀ j, j < a.size → a[j]? = some (F j)) : Arr (w.alloc (.cells a t)) w.heap.size a.size F := fun j hj =>
  ⟨by rw [World.cell?_alloc_new]; exact hF j hj, World.frozen?_alloc_at _ _ _ _ rfl⟩
theorem Arr.old {w : World} {g n : Nat} {F : Nat → Value} (h : Arr w g n F) (o : Obj) : Arr (w.alloc o) g n F := h.keep ((Below.refl _ _).alloc (Nat.le_refl _) o)
theorem eight {F : Nat → Value} {x0 x1 x2 x3 x4 x5 x6 x7 : Value} (h0 : x0 = F 0) (h1 : x1 = F 1) (h2 : x2 = F 2) (h3 : x3 = F 3) (h4 : x4 = F 4) (h5 : x5 = F 5) (h6 : x6 = F 6) (h7 : x7 = F 7) :
    ∀ j, j < (#[x0, x1, x2, x3, x4, x5, x6, x7] : Array Value).size → (#[x0, x1, x2, x3, x4, x5, x6, x7] : Array Value)[j]? = some (F j) := by
  subst h0 h1 h2 h3 h4 h5 h6 h7
  intro j hj
  have hj' : j < 8 := hj
  have : j = 0 ∨ j = 1 ∨ j = 2 ∨ j = 3 ∨ j = 4 ∨ j = 5 ∨ j = 6 ∨ j = 7 := by omega
  rcases this with rfl | rfl | rfl | rfl | rfl | rfl | rfl | rfl <;> rfl
theorem same_cells (n : Nat) (z : Value) : ∀ j, j < (Array.replicate n z).size → (Array.replicate n z)[j]? = some ((fun _ => z) j) := fun j hj => by
  rw [Array.getElem?_eq_getElem hj]; simp
theorem ShaW.start (w : World) (h : Nat → Nat) (hk : KeysAt w) (a b c : TypeId) :
    ShaW w (((w.alloc (.cells #[u32V h 0, u32V h 1, u32V h 2, u32V h 3, u32V h 4, u32V h 5, u32V h 6, u32V h 7] a)).alloc (.cells (Array.replicate 8 (.int .u32 0)) b)).alloc (.cells (Array.replicate 64 (.int .u32 0)) c)) h (fun _ => .int .u32 0) := by
  have s1 := ((Below.refl w.heap.size w).alloc (Nat.le_refl _) (.cells #[u32V h 0, u32V h 1, u32V h 2, u32V h 3, u32V h 4, u32V h 5, u32V h 6, u32V h 7] a))
  have s2 := s1.alloc s1.size (.cells (Array.replicate 8 (.int .u32 0)) b)
  have s3 := s2.alloc s2.size (.cells (Array.replicate 64 (.int .u32 0)) c)
  refine ⟨?_, ?_, ?_, hk.keep s3, s3, cell_lt (hk 0 (by decide))⟩
  · exact ((Arr.new w _ a (u32V h) (eight rfl rfl rfl rfl rfl rfl rfl rfl)).old _).old _
  · have := (Arr.new (w.alloc (.cells #[u32V h 0, u32V h 1, u32V h 2, u32V h 3, u32V h 4, u32V h 5, u32V h 6, u32V h 7] a)) _ b _ (same_cells 8 (.int .u32 0))).old (.cells (Array.replicate 64 (.int .u32 0)) c)
    simpa using this
  · have := Arr.new ((w.alloc (.cells #[u32V h 0, u32V h 1, u32V h 2, u32V h 3, u32V h 4, u32V h 5, u32V h 6, u32V h 7] a)).alloc (.cells (Array.replicate 8 (.int .u32 0)) b)) _ c _ (same_cells 64 (.int .u32 0))
    simpa using this
theorem ShaW.offs {w wr : World} {h : Nat → Nat} {F : Nat → Value} (q : ShaW w wr h F) {g k : Nat} (hg : w.heap.size + 2 < g) (u : Value) : ShaW w (wr.setCell ⟨g, k, none⟩ u) h F :=
  ⟨q.st.off (by omega) u, q.rs.off (by omega) u, q.ws.off (by omega) u, fun j hj => setoff (q.keys j hj) (.inl (by omega)), q.below.setCell (by simp; omega) u, q.pos⟩
theorem Arr.set8 {w : World} {g : Nat} {F N : Nat → Value} (h : Arr w g 8 F) {x0 x1 x2 x3 x4 x5 x6 x7 : Value} (h0 : x0 = N 0) (h1 : x1 = N 1) (h2 : x2 = N 2) (h3 : x3 = N 3) (h4 : x4 = N 4) (h5 : x5 = N 5) (h6 : x6 = N 6) (h7 : x7 = N 7) :
    Arr ((((((((w.setCell ⟨g, 0, none⟩ x0).setCell ⟨g, 1, none⟩ x1).setCell ⟨g, 2, none⟩ x2).setCell ⟨g, 3, none⟩ x3).setCell ⟨g, 4, none⟩ x4).setCell ⟨g, 5, none⟩ x5).setCell ⟨g, 6, none⟩ x6).setCell ⟨g, 7, none⟩ x7) g 8 N := by
  subst h0 h1 h2 h3 h4 h5 h6 h7
  refine (((((((((h.set (k := 0) (by decide) _).set (k := 1) (by decide) _).set (k := 2) (by decide) _).set (k := 3) (by decide) _).set (k := 4) (by decide) _).set (k := 5) (by decide) _).set (k := 6) (by decide) _).set (k := 7) (by decide) _).mono ?_)
  intro j hj
  have : j = 0 ∨ j = 1 ∨ j = 2 ∨ j = 3 ∨ j = 4 ∨ j = 5 ∨ j = 6 ∨ j = 7 := by omega
  rcases this with rfl | rfl | rfl | rfl | rfl | rfl | rfl | rfl <;> simp
theorem ShaW.offs8 {w wr : World} {h : Nat → Nat} {F : Nat → Value} (q : ShaW w wr h F) {g : Nat} (hg : w.heap.size + 2 < g) (x0 x1 x2 x3 x4 x5 x6 x7 : Value) :
    ShaW w ((((((((wr.setCell ⟨g, 0, none⟩ x0).setCell ⟨g, 1, none⟩ x1).setCell ⟨g, 2, none⟩ x2).setCell ⟨g, 3, none⟩ x3).setCell ⟨g, 4, none⟩ x4).setCell ⟨g, 5, none⟩ x5).setCell ⟨g, 6, none⟩ x6).setCell ⟨g, 7, none⟩ x7) h F :=
  (((((((q.offs hg x0).offs hg x1).offs hg x2).offs hg x3).offs hg x4).offs hg x5).offs hg x6).offs hg x7
theorem ShaW.same {w wr : World} {h h' : Nat → Nat} {F : Nat → Value} (q : ShaW w wr h F) (e : ∀ j, j < 8 → h j = h' j) : ShaW w wr h' F :=
  ⟨q.st.mono (fun j hj => by rw [u32V, u32V, e j hj]), q.rs, q.ws, q.keys, q.below, q.pos⟩
theorem ShaW.setst {w wr : World} {h h' : Nat → Nat} {F : Nat → Value} (q : ShaW w wr h F) {k : Nat} (hk : k < 8) (u : Value) (e : ∀ j, j < 8 → (if j = k then u else u32V h j) = u32V h' j) : ShaW w (wr.setCell ⟨w.heap.size, k, none⟩ u) h' F :=
  ⟨(q.st.set hk u).mono e, q.rs.off (by omega) u, q.ws.off (by omega) u, fun j hj => setoff (q.keys j hj) (.inl (by have := q.pos; omega)), q.below.setCell (by simp) u, q.pos⟩
theorem below_set8 {w wr : World} {B g : Nat} (q : Below B w wr) (hg : B ≤ g) (x0 x1 x2 x3 x4 x5 x6 x7 : Value) :
    Below B w ((((((((wr.setCell ⟨g, 0, none⟩ x0).setCell ⟨g, 1, none⟩ x1).setCell ⟨g, 2, none⟩ x2).setCell ⟨g, 3, none⟩ x3).setCell ⟨g, 4, none⟩ x4).setCell ⟨g, 5, none⟩ x5).setCell ⟨g, 6, none⟩ x6).setCell ⟨g, 7, none⟩ x7) :=
  (((((((q.setCell (p := ⟨g, 0, none⟩) hg x0).setCell (p := ⟨g, 1, none⟩) hg x1).setCell (p := ⟨g, 2, none⟩) hg x2).setCell (p := ⟨g, 3, none⟩) hg x3).setCell (p := ⟨g, 4, none⟩) hg x4).setCell (p := ⟨g, 5, none⟩) hg x5).setCell (p := ⟨g, 6, none⟩) hg x6).setCell (p := ⟨g, 7, none⟩) hg x7
theorem Arr.drewN {w : World} {g n : Nat} {F : Nat → Value} (h : Arr w g n F) (k : Nat) : Arr (w.drewN k) g n F := h
theorem urnd_0 {kk ww T1 T2 T3 T4 U1 U2 : Nat} {R : Nat → Nat} (h1 : T1 = (R 7 + bg1 (R 4)) % 4294967296) (h2 : T2 = (T1 + chF (R 4) (R 5) (R 6)) % 4294967296) (h3 : T3 = (T2 + kk) % 4294967296) (h4 : T4 = (T3 + ww) % 4294967296)
    (h5 : U1 = (T4 + bg0 (R 0)) % 4294967296) (h6 : U2 = (U1 + mjF (R 0) (R 1) (R 2)) % 4294967296) : Value.int .u32 (U2 : Int) = u32V (rnd kk ww R) 0 := by
  have e : rnd kk ww R 0 = ((R 7 + bg1 (R 4) + chF (R 4) (R 5) (R 6) + kk + ww) % 4294967296 + (bg0 (R 0) + mjF (R 0) (R 1) (R 2)) % 4294967296) % 4294967296 := rfl
  rw [u32V, e]; congr 2; omega
theorem urnd_4 {kk ww T1 T2 T3 T4 V4 : Nat} {R : Nat → Nat} (h1 : T1 = (R 7 + bg1 (R 4)) % 4294967296) (h2 : T2 = (T1 + chF (R 4) (R 5) (R 6)) % 4294967296) (h3 : T3 = (T2 + kk) % 4294967296) (h4 : T4 = (T3 + ww) % 4294967296)
    (h5 : V4 = (R 3 + T4) % 4294967296) : Value.int .u32 (V4 : Int) = u32V (rnd kk ww R) 4 := by
  have e : rnd kk ww R 4 = (R 3 + (R 7 + bg1 (R 4) + chF (R 4) (R 5) (R 6) + kk + ww) % 4294967296) % 4294967296 := rfl
  rw [u32V, e]; congr 2; omega
theorem sum_cast {a b c : Nat} (h : c = (a + b) % 4294967296) : ((a : Int) + (b : Int)) % 4294967296 = (c : Int) := by omega
theorem upto_snoc {F : Nat → Value} {G : Nat → Value} {k : Nat} (h : ∀ j, j < k → F j = G j) {u : Value} (hu : u = G k) : ∀ j, j < k + 1 → (fun j => if j = k then u else F j) j = G j := fun j hj => by
  show (if j = k then u else F j) = G j
  split
  · next e => rw [e]; exact hu
  · exact h j (by omega)

theorem bW_extract (s : ByteArray) (k : Nat) (hk : 4 * k + 4 ≤ s.size) : bW (s.extract (4 * k) s.size) 0 = bW s k := by
  have e : ∀ i, i < 4 → bAt (s.extract (4 * k) s.size) i = bAt s (4 * k + i) := fun i hi => by
    unfold bAt
    rw [dif_pos (by rw [ByteArray.size_extract]; omega), dif_pos (by omega), ByteArray.getElem_extract]
  unfold bW
  rw [e _ (by omega), e _ (by omega), e _ (by omega), e _ (by omega)]
  rfl

set_option maxRecDepth 8000 in
set_option maxHeartbeats 4000000 in
theorem shaBlock_any (h : Nat → Nat) (s : ByteArray) (w : World) (hlt : ∀ j, j < 8 → h j < 4294967296) (hs0 : s.size = 64) (hk : KeysAt w) :
    Calls Tryd.prog 56 #[agg8 h, .string s] w fun e w' => e = .returned (agg8 (blk kF (bW s) h)) ∧ Below w.heap.size w w' := by
  have hs : 64 ≤ s.size := by omega
  have hs9 : s.size ≤ 64 := by omega
  have HS0 := Lib.hid hs0
  clear hs0
  go_enter Tryd.func56, Tryd.ntmps56
  simp only [agg8]
  go_wp2
  go_loopw [22] (fun i wr => ∃ (k : Nat) (F : Nat → Value), k ≤ 16 ∧ i = .int .i64 k ∧ ShaW w wr h F ∧ (∀ j, j < k → F j = u32V (wS (bW s)) j)) (fun i _ => 16 - (intOf i).toNat)
  case atStart => exact ⟨0, _, Nat.zero_le _, rfl, ShaW.start w h hk _ _ _, fun j hj => absurd hj (by omega)⟩
  case round =>
    obtain ⟨k, F, hk16, rfl, hw, hF⟩ := hrel
    have HF := Lib.hid hF; clear hF
    by_cases hlt16 : k < 16
    · have hw4 : IntKind.i64.wrap ((4 : Int) * (k : Int)) = ((4 * k : Nat) : Int) := by rw [IntKind.wrap_i64]; omega
      have HW := Lib.hid (bW_extract s k (by omega))
      obtain ⟨m, hm⟩ : ∃ m : Nat, m = 4 * k := ⟨_, rfl⟩
      have hm4 : (4 : Int) * (k : Int) = (m : Int) := by omega
      have hml : m ≤ 60 := by omega
      have hmw : IntKind.i64.wrap (m : Int) = (m : Int) := i64_nat (by omega)
      have hmi : (m : Int) ≤ 64 := by omega
      have hk64 : (k : Int) < 64 := by omega
      have hx4 : 4 ≤ (s.extract m s.size).size := by rw [ByteArray.size_extract]; omega
      rw [← hm] at HW hw4
      have HM := Lib.hid hm; clear hm
      go_wp2_with fail
      refine (fourBytes_any _ wr hx4).mono ?_
      rintro e w1 ⟨rfl, hb1⟩
      rw [HW.out]
      have hw1 := hw.keep hb1
      obtain ⟨hc, hf⟩ := hw1.ws k (by omega)
      go_wp2
      refine ⟨⟨k + 1, _, by omega, by go_num, hw1.setw (by omega) _, upto_snoc HF.out ?_⟩, by simp [intOf]; omega⟩
      rw [u32V, wS_lo hlt16]
    · have hk0 : k = 16 := by omega
      have HF2 := HF.out
      subst hk0
      go_wp2
      go_loopg [7] 48 (fun gk i wr => ∃ (k : Nat) (F : Nat → Value), 16 ≤ k ∧ k ≤ 64 ∧ gk = 64 - k ∧ i = .int .i64 k ∧ ShaW w wr h F ∧ (∀ j, j < k → F j = u32V (wS (bW s)) j))
      case atStart => exact ⟨16, F, Nat.le_refl _, by omega, rfl, rfl, hw, HF2⟩
      case round =>
        clear hw HF HF2 F
        obtain ⟨k, F, hk16, hk64, hgk, rfl, hw, hF⟩ := hrel
        have HG := Lib.hid hgk; clear hgk
        have HF := Lib.hid hF; clear hF
        by_cases hlt64 : k < 64
        · obtain ⟨hck, hfk⟩ := hw.ws k hlt64
          obtain ⟨p15, hp15⟩ : ∃ p, p + 15 = k := ⟨k - 15, by omega⟩
          obtain ⟨p2, hp2⟩ : ∃ p, p + 2 = k := ⟨k - 2, by omega⟩
          obtain ⟨p16, hp16⟩ : ∃ p, p + 16 = k := ⟨k - 16, by omega⟩
          obtain ⟨p7, hp7⟩ : ∃ p, p + 7 = k := ⟨k - 7, by omega⟩
          have HS := Lib.hid (wS_hi (b := bW s) hk16)
          rw [show k - 15 = p15 by omega, show k - 2 = p2 by omega, show k - 16 = p16 by omega, show k - 7 = p7 by omega] at HS
          have hw15 : IntKind.i64.wrap ((k : Int) - 15) = (p15 : Int) := by rw [IntKind.wrap_i64]; omega
          have hw2 : IntKind.i64.wrap ((k : Int) - 2) = (p2 : Int) := by rw [IntKind.wrap_i64]; omega
          have hw16 : IntKind.i64.wrap ((k : Int) - 16) = (p16 : Int) := by rw [IntKind.wrap_i64]; omega
          have hw7 : IntKind.i64.wrap ((k : Int) - 7) = (p7 : Int) := by rw [IntKind.wrap_i64]; omega
          have i15 : (p15 : Int) < 64 := by omega
          have i2 : (p2 : Int) < 64 := by omega
          have i16 : (p16 : Int) < 64 := by omega
          have i7 : (p7 : Int) < 64 := by omega
          have ik : (k : Int) < 64 := by omega
          have c15 := (hw.ws p15 (by omega)).1.trans (congrArg some (HF.out p15 (by omega)))
          have c2 := (hw.ws p2 (by omega)).1.trans (congrArg some (HF.out p2 (by omega)))
          have c16 := (hw.ws p16 (by omega)).1.trans (congrArg some (HF.out p16 (by omega)))
          have c7 := (hw.ws p7 (by omega)).1.trans (congrArg some (HF.out p7 (by omega)))
          have l15 := wS_lt (b := bW s) (fun t _ => bW_lt s t) p15
          have l2 := wS_lt (b := bW s) (fun t _ => bW_lt s t) p2
          have l16 := wS_lt (b := bW s) (fun t _ => bW_lt s t) p16
          have l7 := wS_lt (b := bW s) (fun t _ => bW_lt s t) p7
          simp only [u32V] at c15 c2 c16 c7
          generalize wS (bW s) p15 = x15 at *
          generalize wS (bW s) p2 = x2 at *
          generalize wS (bW s) p16 = x16 at *
          generalize wS (bW s) p7 = x7 at *
          have ea1 := xor_u32 (rr_lt x15 7) (rr_lt x15 18)
          have ea2 := xor_u32 (xor_lt (n := 32) (rr_lt x15 7) (rr_lt x15 18)) (show x15 / 8 < 4294967296 by omega)
          have eb1 := xor_u32 (rr_lt x2 17) (rr_lt x2 19)
          have eb2 := xor_u32 (xor_lt (n := 32) (rr_lt x2 17) (rr_lt x2 19)) (show x2 / 1024 < 4294967296 by omega)
          have la := sg0_lt l15
          have lb := sg1_lt l2
          rw [show rr x15 7 ^^^ rr x15 18 ^^^ x15 / 8 = sg0 x15 from rfl, show ((x15 / 8 : Nat) : Int) = (x15 : Int) / 8 by omega] at ea2
          rw [show rr x2 17 ^^^ rr x2 19 ^^^ x2 / 1024 = sg1 x2 from rfl, show ((x2 / 1024 : Nat) : Int) = (x2 : Int) / 1024 by omega] at eb2
          generalize rr x15 7 ^^^ rr x15 18 = ya at *
          generalize rr x2 17 ^^^ rr x2 19 = yb at *
          generalize sg0 x15 = a at *
          generalize sg1 x2 = b at *
          have H15 := Lib.hid hp15; have H2 := Lib.hid hp2; have H16 := Lib.hid hp16; have H7 := Lib.hid hp7
          clear hp15 hp2 hp16 hp7
          have r7 := rotl_any x15 7 (-7) rfl l15 (by decide) (by decide)
          have r18 := rotl_any x15 18 (-18) rfl l15 (by decide) (by decide)
          have r17 := rotl_any x2 17 (-17) rfl l2 (by decide) (by decide)
          have r19 := rotl_any x2 19 (-19) rfl l2 (by decide) (by decide)
          go_wp2
          go_quiet (fail)
          go_wp2_with (first | (go_at_call 73; with_reducible refine (r7 _).mono ?_; rintro e w' ⟨rfl, rfl⟩) | (go_at_call 73; with_reducible refine (r18 _).mono ?_; rintro e w' ⟨rfl, rfl⟩) | (go_at_call 73; with_reducible refine (r17 _).mono ?_; rintro e w' ⟨rfl, rfl⟩) | (go_at_call 73; with_reducible refine (r19 _).mono ?_; rintro e w' ⟨rfl, rfl⟩))
          refine wp_region_last rfl (by kernel_rfl) (by kernel_rfl) (by kernel_rfl) (by kernel_rfl) ?_
          simp only [List.dropLast]
          repeat (quiet_step (fail))
          refine wpQuiet_nil ?_
          intro _ hw'
          obtain ⟨nq2, rfl⟩ := hw'
          refine wpOp_at rfl rfl (fun K' hK' => ?_)
          go_simp
          go_wp2
          have hgk := HG.out
          go_roundg (63 - k)
          case measure => omega
          case rel =>
            refine ⟨k + 1, _, by omega, by omega, by omega, by go_num, (hw.drewN _).setw hlt64 _, upto_snoc HF.out ?_⟩
            rw [u32V, HS.out]
            congr 1
            omega
        · have hk0 : k = 64 := by omega
          subst hk0
          clear hk16 hk64 hlt64 HG
          have hw := hw.mono HF.out
          clear HF
          have hz := hw.below.size
          have hz3 := hw.ws.lt (by decide)
          have hgt : w.heap.size + 2 < wr.heap.size := by omega
          have hst := fun j hj => (hw.st j hj).1
          have s0 := hst 0 (by decide)
          have s1 := hst 1 (by decide)
          have s2 := hst 2 (by decide)
          have s3 := hst 3 (by decide)
          have s4 := hst 4 (by decide)
          have s5 := hst 5 (by decide)
          have s6 := hst 6 (by decide)
          have s7 := hst 7 (by decide)
          clear hst
          simp only [u32V] at s0 s1 s2 s3 s4 s5 s6 s7
          have h8 := (Arr.new wr #[u32V h 0, u32V h 1, u32V h 2, u32V h 3, u32V h 4, u32V h 5, u32V h 6, u32V h 7] 61 (u32V h) (eight rfl rfl rfl rfl rfl rfl rfl rfl))
          simp only [u32V] at h8
          have hwa := hw.keep ((Below.refl wr.heap.size wr).alloc (Nat.le_refl _) (.cells #[u32V h 0, u32V h 1, u32V h 2, u32V h 3, u32V h 4, u32V h 5, u32V h 6, u32V h 7] 61))
          generalize wr = W2 at *
          go_wp2
          go_loopg [77] 64 (fun gk i w3 => ∃ k : Nat, k ≤ 64 ∧ gk = 64 - k ∧ i = .int .i64 k ∧ Arr w3 W2.heap.size 8 (u32V (rnds kF (wS (bW s)) h k)) ∧ ShaW w w3 h (u32V (wS (bW s))))
          case atStart => exact ⟨0, by omega, rfl, rfl, h8, hwa⟩
          case round =>
            obtain ⟨k, hk64, hgk, rfl, hv, hw3⟩ := hrel
            clear hw h8 hwa s0 s1 s2 s3 s4 s5 s6 s7
            have HG := Lib.hid hgk; clear hgk
            by_cases hlt64 : k < 64
            · have ik : (k : Int) < 64 := by omega
              have cK := hw3.keys k hlt64
              have cW := (hw3.ws k hlt64).1
              have hR := rnds_lt (K := kF) (W := wS (bW s)) hlt k
              have hSt : rnds kF (wS (bW s)) h (k + 1) = rnd (kF k) (wS (bW s) k) (rnds kF (wS (bW s)) h k) := rfl
              generalize rnds kF (wS (bW s)) h k = R at *
              have lk := kF_lt k
              have lw := wS_lt (b := bW s) (fun t _ => bW_lt s t) k
              simp only [u32V] at cK cW
              generalize kF k = kk at *
              generalize wS (bW s) k = ww at *
              have HSt := Lib.hid hSt; clear hSt
              obtain ⟨c0, f0⟩ := hv 0 (by decide)
              obtain ⟨c1, f1⟩ := hv 1 (by decide)
              obtain ⟨c2, f2⟩ := hv 2 (by decide)
              obtain ⟨c3, f3⟩ := hv 3 (by decide)
              obtain ⟨c4, f4⟩ := hv 4 (by decide)
              obtain ⟨c5, f5⟩ := hv 5 (by decide)
              obtain ⟨c6, f6⟩ := hv 6 (by decide)
              obtain ⟨c7, f7⟩ := hv 7 (by decide)
              have HV := Lib.hid hv; clear hv
              have l0 := hR 0 (by decide)
              have l1 := hR 1 (by decide)
              have l2 := hR 2 (by decide)
              have l3 := hR 3 (by decide)
              have l4 := hR 4 (by decide)
              have l5 := hR 5 (by decide)
              have l6 := hR 6 (by decide)
              have l7 := hR 7 (by decide)
              simp only [u32V] at c0 c1 c2 c3 c4 c5 c6 c7
              clear hR
              obtain ⟨T1, hT1⟩ : ∃ T, T = (R 7 + bg1 (R 4)) % 4294967296 := ⟨_, rfl⟩
              obtain ⟨T2, hT2⟩ : ∃ T, T = (T1 + chF (R 4) (R 5) (R 6)) % 4294967296 := ⟨_, rfl⟩
              obtain ⟨T3, hT3⟩ : ∃ T, T = (T2 + kk) % 4294967296 := ⟨_, rfl⟩
              obtain ⟨T4, hT4⟩ : ∃ T, T = (T3 + ww) % 4294967296 := ⟨_, rfl⟩
              obtain ⟨U1, hU1⟩ : ∃ T, T = (T4 + bg0 (R 0)) % 4294967296 := ⟨_, rfl⟩
              obtain ⟨U2, hU2⟩ : ∃ T, T = (U1 + mjF (R 0) (R 1) (R 2)) % 4294967296 := ⟨_, rfl⟩
              obtain ⟨V4, hV4⟩ : ∃ x, x = (R 3 + T4) % 4294967296 := ⟨_, rfl⟩
              have HN0 := Lib.hid (urnd_0 hT1 hT2 hT3 hT4 hU1 hU2)
              have HN4 := Lib.hid (urnd_4 hT1 hT2 hT3 hT4 hV4)
              have HN1 := Lib.hid (show Value.int .u32 ((R 0 : Nat) : Int) = u32V (rnd kk ww R) 1 from rfl)
              have HN2 := Lib.hid (show Value.int .u32 ((R 1 : Nat) : Int) = u32V (rnd kk ww R) 2 from rfl)
              have HN3 := Lib.hid (show Value.int .u32 ((R 2 : Nat) : Int) = u32V (rnd kk ww R) 3 from rfl)
              have HN5 := Lib.hid (show Value.int .u32 ((R 4 : Nat) : Int) = u32V (rnd kk ww R) 5 from rfl)
              have HN6 := Lib.hid (show Value.int .u32 ((R 5 : Nat) : Int) = u32V (rnd kk ww R) 6 from rfl)
              have HN7 := Lib.hid (show Value.int .u32 ((R 6 : Nat) : Int) = u32V (rnd kk ww R) 7 from rfl)
              generalize hN : u32V (rnd kk ww R) = N at *
              have HNN := Lib.hid hN; clear hN
              have q1 := sum_cast hT1
              have q2 := sum_cast hT2
              have q3 := sum_cast hT3
              have q4 := sum_cast hT4
              have q5 := sum_cast hU1
              have q6 := sum_cast hU2
              have q7 := sum_cast hV4
              clear hT1 hT2 hT3 hT4 hU1 hU2 hV4
              generalize R 0 = v0 at *
              generalize R 1 = v1 at *
              generalize R 2 = v2 at *
              generalize R 3 = v3 at *
              generalize R 4 = v4 at *
              generalize R 5 = v5 at *
              generalize R 6 = v6 at *
              generalize R 7 = v7 at *
              have n1 : bits .xor .u32 IntKind.u32.max (v4 : Int) = ((4294967295 - v4 : Nat) : Int) := not_u32 l4
              obtain ⟨nv, hnv⟩ : ∃ x, x = 4294967295 - v4 := ⟨_, rfl⟩
              have lnv : nv < 4294967296 := by omega
              rw [← hnv] at n1
              have x1 := xor_u32 (rr_lt v4 6) (rr_lt v4 11)
              have x2 := xor_u32 (xor_lt (n := 32) (rr_lt v4 6) (rr_lt v4 11)) (rr_lt v4 25)
              rw [show rr v4 6 ^^^ rr v4 11 ^^^ rr v4 25 = bg1 v4 from rfl] at x2
              have y1 := xor_u32 (rr_lt v0 2) (rr_lt v0 13)
              have y2 := xor_u32 (xor_lt (n := 32) (rr_lt v0 2) (rr_lt v0 13)) (rr_lt v0 22)
              rw [show rr v0 2 ^^^ rr v0 13 ^^^ rr v0 22 = bg0 v0 from rfl] at y2
              have p1 := and_u32 l4 l5
              have p2 := and_u32 lnv l6
              have p3 := xor_u32 (and_lt (n := 32) v5 l4) (and_lt (n := 32) v6 lnv)
              rw [show (v4 &&& v5) ^^^ (nv &&& v6) = chF v4 v5 v6 by rw [hnv]; rfl] at p3
              have m1 := and_u32 l0 l1
              have m2 := and_u32 l0 l2
              have m3 := xor_u32 (and_lt (n := 32) v1 l0) (and_lt (n := 32) v2 l0)
              have m4 := and_u32 l1 l2
              have m5 := xor_u32 (xor_lt (n := 32) (and_lt (n := 32) v1 l0) (and_lt (n := 32) v2 l0)) (and_lt (n := 32) v2 l1)
              rw [show (v0 &&& v1) ^^^ (v0 &&& v2) ^^^ (v1 &&& v2) = mjF v0 v1 v2 from rfl] at m5
              have r6 := rotl_any v4 6 (-6) rfl l4 (by decide) (by decide)
              have r11 := rotl_any v4 11 (-11) rfl l4 (by decide) (by decide)
              have r25 := rotl_any v4 25 (-25) rfl l4 (by decide) (by decide)
              have r2 := rotl_any v0 2 (-2) rfl l0 (by decide) (by decide)
              have r13 := rotl_any v0 13 (-13) rfl l0 (by decide) (by decide)
              have r22 := rotl_any v0 22 (-22) rfl l0 (by decide) (by decide)
              clear hnv
              generalize rr v4 6 ^^^ rr v4 11 = g1 at *
              generalize rr v0 2 ^^^ rr v0 13 = g2 at *
              generalize (v0 &&& v1) ^^^ (v0 &&& v2) = g8 at *
              generalize v4 &&& v5 = g3 at *
              generalize nv &&& v6 = g4 at *
              generalize v0 &&& v1 = g5 at *
              generalize v0 &&& v2 = g6 at *
              generalize v1 &&& v2 = g7 at *
              generalize bg1 v4 = B1 at *
              generalize bg0 v0 = B0 at *
              generalize chF v4 v5 v6 = CH at *
              generalize mjF v0 v1 v2 = MJ at *
              generalize rr v4 6 = w6 at *
              generalize rr v4 11 = w11 at *
              generalize rr v4 25 = w25 at *
              generalize rr v0 2 = w2 at *
              generalize rr v0 13 = w13 at *
              generalize rr v0 22 = w22 at *
              clear lk lw lnv l0 l1 l2 l3 l4 l5 l6 l7
              go_wp2
              go_quiet (fail)
              go_wp2_with (first | (go_at_call 73; with_reducible refine (r6 _).mono ?_; rintro e w' ⟨rfl, rfl⟩) | (go_at_call 73; with_reducible refine (r11 _).mono ?_; rintro e w' ⟨rfl, rfl⟩) | (go_at_call 73; with_reducible refine (r25 _).mono ?_; rintro e w' ⟨rfl, rfl⟩))
              go_quiet (fail)
              go_wp2_with (first | (go_at_call 73; with_reducible refine (r2 _).mono ?_; rintro e w' ⟨rfl, rfl⟩) | (go_at_call 73; with_reducible refine (r13 _).mono ?_; rintro e w' ⟨rfl, rfl⟩) | (go_at_call 73; with_reducible refine (r22 _).mono ?_; rintro e w' ⟨rfl, rfl⟩))
              have hgk := HG.out
              go_roundg (63 - k)
              case measure => omega
              case rel =>
                have hsz := hw3.ws.lt (by decide)
                refine ⟨k + 1, by omega, by omega, by go_num, ?_, (hw3.drewN _).offs8 hgt _ _ _ _ _ _ _ _⟩
                rw [HSt.out, HNN.out]
                exact (HV.out.drewN _).set8 HN0.out HN1.out HN2.out HN3.out HN4.out HN5.out HN6.out HN7.out
            · have hk0 : k = 64 := by omega
              subst hk0
              clear hk64 hlt64 HG
              have hRl : ∀ j, j < 8 → rnds kF (wS (bW s)) h 64 j < 4294967296 := rnds_lt hlt 64
              have hbk : ∀ j, blk kF (bW s) h j = (h j + rnds kF (wS (bW s)) h 64 j) % 4294967296 := fun _ => rfl
              have HBK := Lib.hid hbk; clear hbk
              generalize hB : blk kF (bW s) h = BK at *
              have HB := Lib.hid hB; clear hB
              generalize rnds kF (wS (bW s)) h 64 = R at *
              generalize wr = W3 at *
              go_wp2
              go_loopg [162] 8 (fun gk i w4 => ∃ k : Nat, k ≤ 8 ∧ gk = 8 - k ∧ i = .int .i64 k ∧ Arr w4 W2.heap.size 8 (u32V R) ∧ ShaW w w4 (fun j => if j < k then BK j else h j) (u32V (wS (bW s))))
              case atStart => exact ⟨0, by omega, rfl, rfl, hv, hw3.same (fun j hj => by simp)⟩
              case round =>
                obtain ⟨k, hk8, hgk, rfl, hv4, hw4⟩ := hrel
                clear hv hw3
                have HG := Lib.hid hgk; clear hgk
                by_cases hlt8 : k < 8
                · have ik : (k : Int) < 8 := by omega
                  obtain ⟨e1, f1⟩ := hw4.st k hlt8
                  have e2 := (hv4 k hlt8).1
                  have HL := Lib.hid (HBK.out k)
                  have lh := hlt k hlt8
                  have lr := hRl k hlt8
                  simp only [u32V, if_neg (Nat.lt_irrefl k)] at e1 e2
                  generalize h k = hv at *
                  generalize R k = vv at *
                  obtain ⟨X, hX⟩ : ∃ T, T = (hv + vv) % 4294967296 := ⟨_, rfl⟩
                  have HX := Lib.hid hX
                  have q1 := sum_cast hX
                  clear hX
                  go_wp2
                  refine wp_region_last rfl (by kernel_rfl) (by kernel_rfl) (by kernel_rfl) (by kernel_rfl) ?_
                  simp only [List.dropLast]
                  repeat (quiet_step (fail))
                  refine wpQuiet_nil ?_
                  intro _ hw'
                  obtain ⟨nq2, rfl⟩ := hw'
                  refine wpOp_at rfl rfl (fun K' hK' => ?_)
                  go_simp
                  go_wp2
                  have hgk := HG.out
                  go_roundg (7 - k)
                  case measure => omega
                  case rel =>
                    refine ⟨k + 1, by omega, by omega, by go_num, (hv4.drewN _).off (by omega) _, (hw4.drewN _).setst hlt8 _ (fun j hj => ?_)⟩
                    by_cases e : j = k
                    · subst e
                      have e1 : (if j < j + 1 then BK j else h j) = BK j := if_pos (Nat.lt_succ_self j)
                      show (if j = j then _ else _) = Value.int .u32 (((if j < j + 1 then BK j else h j : Nat)) : Int)
                      rw [if_pos rfl, e1, HL.out]
                      exact congrArg (Value.int .u32) (by omega)
                    · rw [if_neg e, u32V, u32V]
                      by_cases e2 : j < k
                      · rw [if_pos e2, if_pos (by omega)]
                      · rw [if_neg e2, if_neg (by omega)]
                · have hk0 : k = 8 := by omega
                  subst hk0
                  have hst := hw4.st
                  have hrs := hw4.rs
                  obtain ⟨c0, _⟩ := hst 0 (by decide)
                  obtain ⟨c1, _⟩ := hst 1 (by decide)
                  obtain ⟨c2, _⟩ := hst 2 (by decide)
                  obtain ⟨c3, _⟩ := hst 3 (by decide)
                  obtain ⟨c4, _⟩ := hst 4 (by decide)
                  obtain ⟨c5, _⟩ := hst 5 (by decide)
                  obtain ⟨c6, _⟩ := hst 6 (by decide)
                  obtain ⟨c7, _⟩ := hst 7 (by decide)
                  obtain ⟨r0, o0⟩ := hrs 0 (by decide)
                  obtain ⟨r1, o1⟩ := hrs 1 (by decide)
                  obtain ⟨r2, o2⟩ := hrs 2 (by decide)
                  obtain ⟨r3, o3⟩ := hrs 3 (by decide)
                  obtain ⟨r4, o4⟩ := hrs 4 (by decide)
                  obtain ⟨r5, o5⟩ := hrs 5 (by decide)
                  obtain ⟨r6, o6⟩ := hrs 6 (by decide)
                  obtain ⟨r7, o7⟩ := hrs 7 (by decide)
                  simp only [u32V, Nat.reduceLT, if_pos] at c0 c1 c2 c3 c4 c5 c6 c7
                  have hfin := hrs.set8 (N := u32V BK) (x0 := .int .u32 ((BK 0 : Nat) : Int)) (x1 := .int .u32 ((BK 1 : Nat) : Int)) (x2 := .int .u32 ((BK 2 : Nat) : Int)) (x3 := .int .u32 ((BK 3 : Nat) : Int)) (x4 := .int .u32 ((BK 4 : Nat) : Int)) (x5 := .int .u32 ((BK 5 : Nat) : Int)) (x6 := .int .u32 ((BK 6 : Nat) : Int)) (x7 := .int .u32 ((BK 7 : Nat) : Int)) rfl rfl rfl rfl rfl rfl rfl rfl
                  have hbl := below_set8 hw4.below (g := w.heap.size + 1) (by omega) (.int .u32 ((BK 0 : Nat) : Int)) (.int .u32 ((BK 1 : Nat) : Int)) (.int .u32 ((BK 2 : Nat) : Int)) (.int .u32 ((BK 3 : Nat) : Int)) (.int .u32 ((BK 4 : Nat) : Int)) (.int .u32 ((BK 5 : Nat) : Int)) (.int .u32 ((BK 6 : Nat) : Int)) (.int .u32 ((BK 7 : Nat) : Int))
                  go_wp2
                  generalize ((((((((wr.setCell _ _).setCell _ _).setCell _ _).setCell _ _).setCell _ _).setCell _ _).setCell _ _).setCell _ _) = WF at *
                  have d0 := (hfin 0 (by decide)).1
                  have d1 := (hfin 1 (by decide)).1
                  have d2 := (hfin 2 (by decide)).1
                  have d3 := (hfin 3 (by decide)).1
                  have d4 := (hfin 4 (by decide)).1
                  have d5 := (hfin 5 (by decide)).1
                  have d6 := (hfin 6 (by decide)).1
                  have d7 := (hfin 7 (by decide)).1
                  exact bodyPost_ret (v := agg8 BK) (by simp [results, Tryd.results56, go_sem, agg8, d0, d1, d2, d3, d4, d5, d6, d7]) rfl ⟨by rw [HB.out]; rfl, hbl⟩
end Go.Proofs.YtfbfomlgjghcmaaDoor
