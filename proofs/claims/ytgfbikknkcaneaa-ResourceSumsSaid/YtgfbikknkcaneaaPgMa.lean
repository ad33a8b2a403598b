/- How the builder Table's program lies in memory. -/
import Derived.Test.YtgfbikknkcaneaaPgL
namespace Go.Proofs.Ytgfbikknkcaneaa
open Go.RowKit

theorem Blk.newAt (w : World) {g : Nat} (h : w.heap.size = g) (t : TypeId) (cs : Array Value) : Blk (w.alloc (.cells cs t)) g t cs := h ▸ Blk.new w t cs
/-- the old blocks, but for two, are as they were -/
def Far (a w : World) (p r : Nat) : Prop := a.heap.size ≤ w.heap.size ∧ ∀ g, g < a.heap.size → g ≠ p → g ≠ r → w.heap[g]? = a.heap[g]?
theorem Far.refl (a : World) (p r : Nat) : Far a a p r := ⟨Nat.le_refl _, fun _ _ _ _ => rfl⟩
theorem Far.alloc {a w : World} {p r : Nat} (h : Far a w p r) (o : Obj) : Far a (w.alloc o) p r :=
  ⟨by rw [World.size_alloc]; have := h.1; omega, fun g h1 h2 h3 => (Below.heap_alloc w o g (Nat.lt_of_lt_of_le h1 h.1)).trans (h.2 g h1 h2 h3)⟩
theorem Far.setP {a w : World} {p r : Nat} (h : Far a w p r) (i : Nat) (u : Value) : Far a (w.setCell ⟨p, i, none⟩ u) p r :=
  ⟨by have := h.1; simpa [World.setCell] using this, fun g h1 h2 h3 => (Below.heap_setCell w ⟨p, i, none⟩ u g h2).trans (h.2 g h1 h2 h3)⟩
theorem Far.setR {a w : World} {p r : Nat} (h : Far a w p r) (i : Nat) (u : Value) : Far a (w.setCell ⟨r, i, none⟩ u) p r :=
  ⟨by have := h.1; simpa [World.setCell] using this, fun g h1 h2 h3 => (Below.heap_setCell w ⟨r, i, none⟩ u g h3).trans (h.2 g h1 h2 h3)⟩
theorem Far.blk {a w : World} {p r g : Nat} {t : TypeId} {cs : Array Value} (h : Far a w p r) (hb : Blk a g t cs) (h2 : g ≠ p) (h3 : g ≠ r) : Blk w g t cs := (h.2 g hb.lt h2 h3).trans hb
theorem Blk.ne {w : World} {g g' : Nat} {t t' : TypeId} {cs cs' : Array Value} (h : Blk w g t cs) (h' : Blk w g' t' cs') (ht : t ≠ t') : g ≠ g' := by
  intro e; subst e
  have := h.symm.trans h'
  simp at this
  exact ht this.2
def metaCells : Array Value := #[.string ⟨#[105, 110]⟩, .int .i64 8, .string ⟨#[111, 117, 116]⟩, .int .i64 8, .string ⟨#[100, 114, 111, 112]⟩, .int .i64 1]
def stateCells : Array Value := #[.string ⟨#[115]⟩, .slice none 0 0, .bool false, .int .i64 0, .int .i64 0, .slice none 0 0, .int .i64 (-1)]
def keyCells (kd : Int) : Nat → List Value
  | 0 => []
  | n + 1 => keyCells kd n ++ [.int .i64 (-1), .int .i64 0, .int .i64 kd]
theorem keyCells_len (kd : Int) : ∀ n, (keyCells kd n).length = n * 3
  | 0 => rfl
  | n + 1 => by rw [keyCells, List.length_append, keyCells_len kd n]; simp; omega
theorem keyCells_at (kd : Int) : ∀ n i j, i < n → j < 3 → (keyCells kd n)[i * 3 + j]? = (KeyD.cells ⟨-1, 0, kd⟩)[j]?
  | n + 1, i, j, hi, hj => by
    rw [keyCells]
    rcases Nat.lt_or_ge i n with h | h
    · rw [List.getElem?_append_left (by rw [keyCells_len]; omega)]
      exact keyCells_at kd n i j h hj
    · have : i = n := by omega
      subst this
      rw [List.getElem?_append_right (by rw [keyCells_len]; omega), keyCells_len, show i * 3 + j - i * 3 = j by omega]
      rfl
/-- a list of one element that lies at the head of a block -/
theorem LOk.one {w : World} {k : Nat} {α : Type} {cells : α → List Value} {x : α} {g c : Nat} {t : TypeId} {cs : Array Value} (h : Blk w g t cs) (hc : cs.toList = cells x) : LOk w k cells (⟨[x], some ⟨g, 0, none⟩, c⟩ : L α) := by
  refine ⟨show (1 : Nat) ≤ maxLen by decide, .inr ⟨g, 0, rfl, h.lt, fun i hi j _ => ?_⟩⟩
  have hi0 : i = 0 := by simpa using hi
  subst hi0
  show w.cell? ⟨g, 0 + 0 * k + j, none⟩ = (cells x)[j]?
  rw [h.cell, ← hc, show 0 + 0 * k + j = j by omega]
  simp
theorem LOk.nil {w : World} {k : Nat} {α : Type} {cells : α → List Value} {A : Option Addr} {c : Nat} : LOk w k cells (⟨[], A, c⟩ : L α) := ⟨Nat.zero_le _, .inl rfl⟩

def npOf : Option Int → Nat
  | none => 0
  | some _ => 1
/-- the builder's program: no list but those that it fills -/
def tblSm (g1 g2 ag : Nat) (pw : Option Int) (pA : Option Addr) (pc tg : Nat) (kd : Int) (nk : Nat) (kA : Option Addr) (kc ig dg dc : Nat) (z : Int) : Sm :=
  { hA := none, hc := 0, mg := g1, mo := 0, mc := 3, rA := none, rc := 0, ag := ag, ao := 0, ac := 1, pw := pw, pA := pA, pc := pc, bA := none, bc := 0, tg := tg, tof := 0, tc := 1, kd := kd, nk := nk, kA := kA, kc := kc,
    ig := ig, io := 0, ic := 1, dA := some ⟨dg, 0, none⟩, dc := dc, size := z, sg := g2, so := 0, sc := 1, eA := none, ec := 0, cA := none, cc := 0, xA := none, xc := 0, yA := none, yc := 0 }
theorem tblSm_at {w : World} {g1 g2 ag : Nat} {pw : Option Int} {pA : Option Addr} {pc tg : Nat} {kd : Int} {nk : Nat} {kA : Option Addr} {kc ig dg dc : Nat} {z : Int} {t1 t2 t3 t4 t5 : TypeId}
    (hm : Blk w g1 t1 metaCells) (hs : Blk w g2 t2 stateCells)
    (ha : Blk w ag t3 #[.string ⟨#[120]⟩, .slice pA (npOf pw) pc, .slice none 0 0])
    (ht : Blk w tg t4 #[.string ⟨#[116]⟩, .slice kA nk kc, .slice (some ⟨ig, 0, none⟩) 1 1, .int .i64 0, .slice (some ⟨dg, 0, none⟩) (npOf pw) dc, .int .i64 z])
    (hi : Blk w ig t5 #[.int .i64 0])
    (hk : nk = 0 ∨ ∃ g, kA = some ⟨g, 0, none⟩ ∧ g < w.heap.size ∧ ∀ j, j < nk * 3 → w.cell? ⟨g, j, none⟩ = (keyCells kd nk)[j]?) (hkn : nk ≤ 6)
    (hp : LOk w 2 FieldD.cells (tblSm g1 g2 ag pw pA pc tg kd nk kA kc ig dg dc z).params)
    (hd : LOk w 1 ucell (tblSm g1 g2 ag pw pA pc tg kd nk kA kc ig dg dc z).args) : SmAt w (tblSm g1 g2 ag pw pA pc tg kd nk kA kc ig dg dc z) := by
  have hpl := (tblSm g1 g2 ag pw pA pc tg kd nk kA kc ig dg dc z).plen
  have hkl := (tblSm g1 g2 ag pw pA pc tg kd nk kA kc ig dg dc z).klen
  have hal := (tblSm g1 g2 ag pw pA pc tg kd nk kA kc ig dg dc z).alen
  refine ⟨⟨show (1 : Nat) ≤ maxLen by decide, LOk.nil, fun h hh => absurd hh (List.not_mem_nil), ?_, ?_, LOk.nil, fun h hh => absurd hh (List.not_mem_nil), ?_, ?_, ?_, ?_, ?_, ?_, LOk.nil, ?_, LOk.nil⟩⟩
  · refine ⟨show (3 : Nat) ≤ maxLen by decide, .inr ⟨g1, 0, rfl, hm.lt, fun i hi j hj => ?_⟩⟩
    rw [hm.cell, show 0 + i * 2 + j = i * 2 + j by omega]
    have h3 : i < 3 := hi
    have : ∀ i : Fin 3, ∀ j : Fin 2, metaCells[i.1 * 2 + j.1]? = (FieldD.cells metaL[i.1])[j.1]? := by
      intro i j
      match i, j with
      | 0, 0 => rfl
      | 0, 1 => rfl
      | 1, 0 => rfl
      | 1, 1 => rfl
      | 2, 0 => rfl
      | 2, 1 => rfl
    exact this ⟨i, h3⟩ ⟨j, hj⟩
  · intro f hf
    have : ∀ f ∈ metaL, f.name.size ≤ 10 := by decide
    exact Nat.le_trans (this f hf) (by decide)
  · exact LOk.one ha (by simp only [ActD.cells, Sm.act, L.v, hpl]; cases pw <;> rfl)
  · intro a hx
    obtain rfl : a = _ := List.mem_singleton.1 hx
    refine ⟨show (1 : Nat) ≤ maxLen by decide, hp, fun f hf => ?_, LOk.nil, fun s hs => absurd hs (List.not_mem_nil)⟩
    simp only [Sm.act, Sm.params, tblSm] at hf
    cases pw with
    | none => exact absurd hf (List.not_mem_nil)
    | some n => obtain rfl := List.mem_singleton.1 hf; show (1 : Nat) ≤ maxLen; decide
  · exact LOk.one ht (by simp only [TabD.cells, Sm.tab, L.v, hkl, hal]; cases pw <;> rfl)
  · intro t hx
    obtain rfl : t = _ := List.mem_singleton.1 hx
    refine ⟨show (1 : Nat) ≤ maxLen by decide, ?_, LOk.one hi rfl, hd⟩
    refine ⟨?_, ?_⟩
    · show (List.replicate nk _).length ≤ maxLen
      rw [List.length_replicate]; unfold maxLen; omega
    · rcases hk with h0 | ⟨g, e, hg, hc⟩
      · left; subst h0; rfl
      · refine .inr ⟨g, 0, e, hg, fun i hi2 j hj => ?_⟩
        have hi3 : i < nk := by simpa [Sm.tab, Sm.keys, tblSm] using hi2
        rw [show 0 + i * 3 + j = i * 3 + j by omega, hc _ (by omega), keyCells_at kd nk i j hi3 hj]
        simp [Sm.tab, Sm.keys, tblSm]
  · exact LOk.one hs rfl
  · intro t hx
    obtain rfl : t = _ := List.mem_singleton.1 hx
    exact ⟨show (1 : Nat) ≤ maxLen by decide, LOk.nil, LOk.nil⟩
  · show CtlsOk w []
    rw [CtlsOk]; trivial
end Go.Proofs.Ytgfbikknkcaneaa

