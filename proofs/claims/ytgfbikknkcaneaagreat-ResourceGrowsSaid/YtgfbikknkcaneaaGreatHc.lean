/- Walks of resource's add, Sum, Fits and of their references. The list's length: at most 1000. Walks of resource.Sum and its reference. How the builder Table's program lies in memory. The walk of the laws' builder Plain. The walk of the laws' builder Table without an argument. The walk of the laws' builder Table with an argument. Walks of chapter 34's examples (works) and of the law ResourceKinds. -/
import Derived.Test.YtgfbikknkcaneaaGreatHb
import Derived.Deep.RegionLaw
import Derived.IntWalk
namespace Go.Proofs.YtgfbikknkcaneaaGreat
open Go.RowKit

def maxInt : Nat := 9223372036854775807
def addM (a b : Nat) : Nat := if maxInt - a < b then maxInt else a + b
theorem addM_le {a b : Nat} (ha : a ≤ maxInt) : addM a b ≤ maxInt := by unfold addM; split <;> omega
theorem add_any (a b : Nat) (w : World) (ha : a ≤ maxInt) (hb : b ≤ maxInt) :
    Calls Tryz.prog 94 #[.int .i64 a, .int .i64 b] w fun e w' => e = .returned (.int .i64 (addM a b)) ∧ w = w' := by
  unfold maxInt at ha hb
  by_cases h : 9223372036854775807 - a < b
  · have HM := Lib.hid (show addM a b = 9223372036854775807 by rw [addM, if_pos (by unfold maxInt; exact h)]; rfl)
    have h1 : (9223372036854775807 : Int) - (a : Int) < (b : Int) := by omega
    go_enter Tryz.func94, Tryz.ntmps94
    go_wp2
    go_ret
    exact ⟨by rw [HM.out]; rfl, rfl⟩
  · have HM := Lib.hid (show addM a b = a + b by rw [addM, if_neg (by unfold maxInt; exact h)])
    have h1 : ¬ (9223372036854775807 : Int) - (a : Int) < (b : Int) := by omega
    go_enter Tryz.func94, Tryz.ntmps94
    go_wp2
    go_ret
    exact ⟨by rw [HM.out]; rfl, rfl⟩
structure ResD where
  s : Int
  t : Int
def ResD.cells (r : ResD) : List Value := [.int .i64 r.s, .int .i64 r.t]
theorem ResD.at {w : World} {x : L ResD} (h : LOk w 2 ResD.cells x) {i : Nat} (hi : i < x.l.length) :
    ∃ g o, x.A = some ⟨g, o, none⟩ ∧ w.cell? ⟨g, o + i * 2, none⟩ = some (.int .i64 x.l[i].s) ∧ w.cell? ⟨g, o + i * 2 + 1, none⟩ = some (.int .i64 x.l[i].t) := by
  obtain ⟨g, o, e, _, hc⟩ := h.at hi
  exact ⟨g, o, e, hc 0 (by omega), hc 1 (by omega)⟩
def ResD.wf (r : ResD) : Prop := (-9223372036854775808 ≤ r.s ∧ r.s ≤ 9223372036854775807) ∧ (-9223372036854775808 ≤ r.t ∧ r.t ≤ 9223372036854775807)
def sumS (l : List ResD) : Nat := l.foldl (fun a r => addM a r.s.toNat) 0
def sumT (l : List ResD) : Nat := l.foldl (fun a r => addM a r.t.toNat) 0
theorem sumS_snoc (l : List ResD) (r : ResD) : sumS (l ++ [r]) = addM (sumS l) r.s.toNat := by simp [sumS]
theorem sumT_snoc (l : List ResD) (r : ResD) : sumT (l ++ [r]) = addM (sumT l) r.t.toNat := by simp [sumT]
theorem foldS_le : ∀ (l : List ResD) (a : Nat), a ≤ maxInt → l.foldl (fun a r => addM a r.s.toNat) a ≤ maxInt
  | [], _, h => h
  | _ :: l, _, h => foldS_le l _ (addM_le h)
theorem foldT_le : ∀ (l : List ResD) (a : Nat), a ≤ maxInt → l.foldl (fun a r => addM a r.t.toNat) a ≤ maxInt
  | [], _, h => h
  | _ :: l, _, h => foldT_le l _ (addM_le h)
theorem sumS_le (l : List ResD) : sumS l ≤ maxInt := foldS_le l 0 (Nat.zero_le _)
theorem sumT_le (l : List ResD) : sumT l ≤ maxInt := foldT_le l 0 (Nat.zero_le _)

theorem fits_any2 (s t : Int) (c : Fin 8 → Int) (w : World) :
    Calls Tryz.prog 34 #[.agg #[.int .i64 s, .int .i64 t], .agg #[.int .i64 (c 0), .int .i64 (c 1), .int .i64 (c 2), .int .i64 (c 3), .int .i64 (c 4), .int .i64 (c 5), .int .i64 (c 6), .int .i64 (c 7)]] w
      fun e w' => e = .returned (.bool (decide (s ≤ c 3) && decide (t ≤ c 4))) ∧ Below w.heap.size w w' := by
  by_cases h : s ≤ c 3
  · have H := Lib.hid h
    go_enter Tryz.func34, Tryz.ntmps34
    go_wp2
    go_ret
    exact ⟨by rw [decide_eq_true H.out]; rfl, below2 _ _ _⟩
  · have H := Lib.hid h
    go_enter Tryz.func34, Tryz.ntmps34
    go_wp2
    go_ret
    exact ⟨by rw [decide_eq_false (show ¬ s ≤ c 3 by have := H.out; omega)]; rfl, below2 _ _ _⟩
end Go.Proofs.YtgfbikknkcaneaaGreat
namespace Go.Proofs.YtgfbikknkcaneaaGreat
open Go.RowKit

set_option maxRecDepth 100000 in
set_option maxHeartbeats 4000000 in
theorem sum_any (x : L ResD) (w : World) (h : LOk w 2 ResD.cells x) (hm : x.l.length ≤ 1000) (hw : ∀ r ∈ x.l, r.wf) :
    Calls Tryz.prog 33 #[x.v] w fun e w' => e = .returned (.agg #[.int .i64 (sumS x.l), .int .i64 (sumT x.l)]) ∧ Below w.heap.size w w' := by
  obtain ⟨l, A0, c0⟩ := x
  have HX := Lib.hid h
  have HW := Lib.hid hw
  clear h hw
  simp only [L.v] at *
  go_enter Tryz.func33, Tryz.ntmps33
  go_wp2
  go_loopw [4, 7] (fun _ iv wr => ∃ k : Nat, k ≤ l.length ∧ iv = .int .i64 k ∧ Blk wr w.heap.size 39 #[.int .i64 0, .int .i64 0] ∧
      Blk wr (w.heap.size + 1) 39 #[.int .i64 (sumS (l.take k)), .int .i64 (sumT (l.take k))] ∧ Below w.heap.size w wr) (fun _ i _ => l.length - (intOf i).toNat)
  case atStart =>
    refine ⟨0, Nat.zero_le _, rfl, (Blk.new _ _ _).alloc _, ?_, below2 _ _ _⟩
    have := Blk.new (w.alloc (.cells #[.int .i64 0, .int .i64 0] 39)) 39 #[.int .i64 0, .int .i64 0]
    rwa [World.size_alloc] at this
  case round =>
    obtain ⟨k, hk, rfl, hr, ho, hbel⟩ := hrel
    by_cases hlt : k < l.length
    · obtain ⟨g, o, rfl, d0, d1⟩ := ResD.at (HX.out.below hbel (Nat.le_refl _)) hlt
      have hwf := HW.out l[k] (List.getElem_mem hlt)
      have HT : Hid (l.take (k + 1) = l.take k ++ [l[k]]) := Lib.hid (List.take_succ_eq_append_getElem hlt)
      simp only at d0 d1
      generalize l[k] = y at *
      have hg : g < w.heap.size := by
        obtain ⟨g', o', e, hx, _⟩ := HX.out.at hlt
        simp only [Option.some.injEq, Addr.mk.injEq] at e
        rw [e.1]; exact hx
      have HS := Lib.hid (sumS_le (l.take k))
      have HTT := Lib.hid (sumT_le (l.take k))
      obtain ⟨u, hu, hmu⟩ : ∃ u : Nat, y.s.toNat = u ∧ max y.s 0 = (u : Int) := ⟨_, rfl, by omega⟩
      obtain ⟨v, hv, hmv⟩ : ∃ v : Nat, y.t.toNat = v ∧ max y.t 0 = (v : Int) := ⟨_, rfl, by omega⟩
      have HSN := Lib.hid (show sumS (l.take k ++ [y]) = addM (sumS (l.take k)) u by rw [sumS_snoc, hu])
      have HTN := Lib.hid (show sumT (l.take k ++ [y]) = addM (sumT (l.take k)) v by rw [sumT_snoc, hv])
      have HU := Lib.hid (show u ≤ maxInt by have := hwf.1.2; unfold maxInt; omega)
      have HVv := Lib.hid (show v ≤ maxInt by have := hwf.2.2; unfold maxInt; omega)
      clear hu hv
      generalize sumS (l.take k) = a at *
      generalize sumT (l.take k) = b at *
      have HR := Lib.hid hr
      have HO := Lib.hid ho
      have HB := Lib.hid hbel
      have HWF := Lib.hid hwf
      have c0 : wr.cell? ⟨w.heap.size + 1, 0, none⟩ = some (.int .i64 a) := ho.cell 0
      have f0 : wr.frozen? ⟨w.heap.size + 1, 0, none⟩ = false := ho.frozen 0
      have hk0 : (0 : Int) ≤ (k : Int) := by omega
      have hk1 : (k : Int) < (l.length : Int) := by omega
      have HD1 : Hid (w.cell? ⟨g, o + k * 2 + 1, none⟩ = some (.int .i64 y.t)) := Lib.hid ((hbel.cell (p := ⟨g, o + k * 2 + 1, none⟩) hg).symm.trans d1)
      clear hr ho hbel hwf d1
      go_wp2
      go_region_law (first | (go_simp; go_at_call 94; refine (add_any a u _ HS.out HU.out).mono ?_; rintro e w' ⟨rfl, rfl⟩))
      all_goals
        clear c0 f0 d0 hmu
        have e5 : Blk ((wr.setCell ⟨w.heap.size + 1, 0, none⟩ (.int .i64 (addM a u : Nat))).drew) (w.heap.size + 1) 39 #[.int .i64 (addM a u : Nat), .int .i64 b] := (HO.out.set_ 0 (.int .i64 (addM a u : Nat))).drew
        have r5 : Blk ((wr.setCell ⟨w.heap.size + 1, 0, none⟩ (.int .i64 (addM a u : Nat))).drew) w.heap.size 39 #[.int .i64 0, .int .i64 0] := (HR.out.far (by show w.heap.size ≠ w.heap.size + 1; omega) _).drew
        have b5 : Below w.heap.size w ((wr.setCell ⟨w.heap.size + 1, 0, none⟩ (.int .i64 (addM a u : Nat))).drew) := (HB.out.setCell (Nat.le_succ _) _).drew
        generalize hW5 : (wr.setCell ⟨w.heap.size + 1, 0, none⟩ (.int .i64 (addM a u : Nat))).drew = w5 at *
        clear hW5
        have d1 : w5.cell? ⟨g, o + k * 2 + 1, none⟩ = some (.int .i64 y.t) := (b5.cell (p := ⟨g, o + k * 2 + 1, none⟩) hg).trans HD1.out
        have c1 : w5.cell? ⟨w.heap.size + 1, 1, none⟩ = some (.int .i64 b) := e5.cell 1
        have f1 : w5.frozen? ⟨w.heap.size + 1, 1, none⟩ = false := e5.frozen 1
        have HO5 := Lib.hid e5
        have HR5 := Lib.hid r5
        have HB5 := Lib.hid b5
        clear e5 r5 b5
        go_wp2
        go_region_law (first | (go_simp; go_at_call 94; refine (add_any b v _ HTT.out HVv.out).mono ?_; rintro e w' ⟨rfl, rfl⟩))
        all_goals
          clear c1 f1 d1 hk0 hk1
          go_wp2
          go_roundw
          case rel =>
            refine ⟨k + 1, by omega, by go_num, (HR5.out.far (by show w.heap.size ≠ w.heap.size + 1; omega) _).drew, ?_, (HB5.out.setCell (Nat.le_succ _) _).drew⟩
            rw [HT.out, HSN.out, HTN.out]
            exact (HO5.out.set_ 1 (.int .i64 (addM b v : Nat))).drew
          case measure => simp [intOf]; omega
    · have hk' : k = l.length := by omega
      subst hk'
      rw [List.take_length] at ho
      generalize hsa : sumS l = a at *
      generalize hsb : sumT l = b at *
      have HAB := Lib.hid (And.intro hsa hsb)
      clear hsa hsb
      have HR := Lib.hid hr
      have HO := Lib.hid ho
      have HB := Lib.hid hbel
      have c0 : wr.cell? ⟨w.heap.size + 1, 0, none⟩ = some (.int .i64 a) := ho.cell 0
      have c1 : wr.cell? ⟨w.heap.size + 1, 1, none⟩ = some (.int .i64 b) := ho.cell 1
      have r0 : wr.cell? ⟨w.heap.size, 0, none⟩ = some (.int .i64 0) := hr.cell 0
      have r1 : wr.cell? ⟨w.heap.size, 1, none⟩ = some (.int .i64 0) := hr.cell 1
      have f0 : wr.frozen? ⟨w.heap.size, 0, none⟩ = false := hr.frozen 0
      have f1 : wr.frozen? ⟨w.heap.size, 1, none⟩ = false := hr.frozen 1
      clear hr ho hbel
      go_wp2
      refine bodyPost_ret (v := .agg #[.int .i64 (a : Int), .int .i64 (b : Int)]) (by simp [results, Tryz.results33, go_sem, r0, r1]) rfl ⟨by rw [HAB.out.1, HAB.out.2], ?_⟩
      exact (HB.out.setCell (Nat.le_refl _) _).setCell (Nat.le_refl _) _

end Go.Proofs.YtgfbikknkcaneaaGreat
namespace Go.Proofs.YtgfbikknkcaneaaGreat
open Go.RowKit

theorem Blk.newAt (w : World) {g : Nat} (h : w.heap.size = g) (t : TypeId) (cs : Array Value) : Blk (w.alloc (.cells cs t)) g t cs := h ▸ Blk.new w t cs
/-- the old blocks, but for two, are as they were -/
def Far (a w : World) (p r : Nat) : Prop := a.heap.size ≤ w.heap.size ∧ ∀ g, g < a.heap.size → g ≠ p → g ≠ r → w.heap[g]? = a.heap[g]?
theorem Far.refl (a : World) (p r : Nat) : Far a a p r := ⟨Nat.le_refl _, fun _ _ _ _ => rfl⟩
theorem Far.alloc {a w : World} {p r : Nat} (h : Far a w p r) (o : Obj) : Far a (w.alloc o) p r :=
  ⟨by rw [World.size_alloc]; have := h.1; omega, fun g h1 h2 h3 => (Below.heap_alloc w o g (Nat.lt_of_lt_of_le h1 h.1)).trans (h.2 g h1 h2 h3)⟩
theorem Far.setP {a w : World} {p r : Nat} (h : Far a w p r) (i : Nat) (u : Value) : Far a (w.setCell ⟨p, i, none⟩ u) p r :=
  ⟨by have := h.1; simpa [World.setCell] using this, fun g h1 h2 h3 => (Below.heap_setCell w ⟨p, i, none⟩ u g h2).trans (h.2 g h1 h2 h3)⟩
theorem Far.setR {a w : World} {p r : Nat} (h : Far a w p r) (i : Nat) (u : Value) : Far a (w.setCell ⟨r, i, none⟩ u) p r :=
  ⟨by have := h.1; simpa [World.setCell] using this, fun g h1 h2 h3 => (Below.heap_setCell w ⟨r, i, none⟩ u g h3).trans (h.2 g h1 h2 h3)⟩
theorem Far.blk {a w : World} {p r g : Nat} {t : TypeId} {cs : Array Value} (h : Far a w p r) (hb : Blk a g t cs) (h2 : g ≠ p) (h3 : g ≠ r) : Blk w g t cs := (h.2 g hb.lt h2 h3).trans hb
theorem Blk.ne {w : World} {g g' : Nat} {t t' : TypeId} {cs cs' : Array Value} (h : Blk w g t cs) (h' : Blk w g' t' cs') (ht : t ≠ t') : g ≠ g' := by
  intro e; subst e
  have := h.symm.trans h'
  simp at this
  exact ht this.2
def metaCells : Array Value := #[.string ⟨#[105, 110]⟩, .int .i64 8, .string ⟨#[111, 117, 116]⟩, .int .i64 8, .string ⟨#[100, 114, 111, 112]⟩, .int .i64 1]
def stateCells : Array Value := #[.string ⟨#[115]⟩, .slice none 0 0, .bool false, .int .i64 0, .int .i64 0, .slice none 0 0, .int .i64 (-1)]
def keyCells (kd : Int) : Nat → List Value
  | 0 => []
  | n + 1 => keyCells kd n ++ [.int .i64 (-1), .int .i64 0, .int .i64 kd]
theorem keyCells_len (kd : Int) : ∀ n, (keyCells kd n).length = n * 3
  | 0 => rfl
  | n + 1 => by rw [keyCells, List.length_append, keyCells_len kd n]; simp; omega
theorem keyCells_at (kd : Int) : ∀ n i j, i < n → j < 3 → (keyCells kd n)[i * 3 + j]? = (KeyD.cells ⟨-1, 0, kd⟩)[j]?
  | n + 1, i, j, hi, hj => by
    rw [keyCells]
    rcases Nat.lt_or_ge i n with h | h
    · rw [List.getElem?_append_left (by rw [keyCells_len]; omega)]
      exact keyCells_at kd n i j h hj
    · have : i = n := by omega
      subst this
      rw [List.getElem?_append_right (by rw [keyCells_len]; omega), keyCells_len, show i * 3 + j - i * 3 = j by omega]
      rfl
/-- a list of one element that lies at the head of a block -/
theorem LOk.one {w : World} {k : Nat} {α : Type} {cells : α → List Value} {x : α} {g c : Nat} {t : TypeId} {cs : Array Value} (h : Blk w g t cs) (hc : cs.toList = cells x) : LOk w k cells (⟨[x], some ⟨g, 0, none⟩, c⟩ : L α) := by
  refine ⟨show (1 : Nat) ≤ maxLen by decide, .inr ⟨g, 0, rfl, h.lt, fun i hi j _ => ?_⟩⟩
  have hi0 : i = 0 := by simpa using hi
  subst hi0
  show w.cell? ⟨g, 0 + 0 * k + j, none⟩ = (cells x)[j]?
  rw [h.cell, ← hc, show 0 + 0 * k + j = j by omega]
  simp
theorem LOk.nil {w : World} {k : Nat} {α : Type} {cells : α → List Value} {A : Option Addr} {c : Nat} : LOk w k cells (⟨[], A, c⟩ : L α) := ⟨Nat.zero_le _, .inl rfl⟩

def npOf : Option Int → Nat
  | none => 0
  | some _ => 1
/-- the builder's program: no list but those that it fills -/
def tblSm (g1 g2 ag : Nat) (pw : Option Int) (pA : Option Addr) (pc tg : Nat) (kd : Int) (nk : Nat) (kA : Option Addr) (kc ig dg dc : Nat) (z : Int) : Sm :=
  { hA := none, hc := 0, mg := g1, mo := 0, mc := 3, rA := none, rc := 0, ag := ag, ao := 0, ac := 1, pw := pw, pA := pA, pc := pc, bA := none, bc := 0, tg := tg, tof := 0, tc := 1, kd := kd, nk := nk, kA := kA, kc := kc,
    ig := ig, io := 0, ic := 1, dA := some ⟨dg, 0, none⟩, dc := dc, size := z, sg := g2, so := 0, sc := 1, eA := none, ec := 0, cA := none, cc := 0, xA := none, xc := 0, yA := none, yc := 0 }
theorem tblSm_at {w : World} {g1 g2 ag : Nat} {pw : Option Int} {pA : Option Addr} {pc tg : Nat} {kd : Int} {nk : Nat} {kA : Option Addr} {kc ig dg dc : Nat} {z : Int} {t1 t2 t3 t4 t5 : TypeId}
    (hm : Blk w g1 t1 metaCells) (hs : Blk w g2 t2 stateCells)
    (ha : Blk w ag t3 #[.string ⟨#[120]⟩, .slice pA (npOf pw) pc, .slice none 0 0])
    (ht : Blk w tg t4 #[.string ⟨#[116]⟩, .slice kA nk kc, .slice (some ⟨ig, 0, none⟩) 1 1, .int .i64 0, .slice (some ⟨dg, 0, none⟩) (npOf pw) dc, .int .i64 z])
    (hi : Blk w ig t5 #[.int .i64 0])
    (hk : nk = 0 ∨ ∃ g, kA = some ⟨g, 0, none⟩ ∧ g < w.heap.size ∧ ∀ j, j < nk * 3 → w.cell? ⟨g, j, none⟩ = (keyCells kd nk)[j]?) (hkn : nk ≤ 6)
    (hp : LOk w 2 FieldD.cells (tblSm g1 g2 ag pw pA pc tg kd nk kA kc ig dg dc z).params)
    (hd : LOk w 1 ucell (tblSm g1 g2 ag pw pA pc tg kd nk kA kc ig dg dc z).args) : SmAt w (tblSm g1 g2 ag pw pA pc tg kd nk kA kc ig dg dc z) := by
  have hpl := (tblSm g1 g2 ag pw pA pc tg kd nk kA kc ig dg dc z).plen
  have hkl := (tblSm g1 g2 ag pw pA pc tg kd nk kA kc ig dg dc z).klen
  have hal := (tblSm g1 g2 ag pw pA pc tg kd nk kA kc ig dg dc z).alen
  refine ⟨⟨show (1 : Nat) ≤ maxLen by decide, LOk.nil, fun h hh => absurd hh (List.not_mem_nil), ?_, ?_, LOk.nil, fun h hh => absurd hh (List.not_mem_nil), ?_, ?_, ?_, ?_, ?_, ?_, LOk.nil, ?_, LOk.nil⟩⟩
  · refine ⟨show (3 : Nat) ≤ maxLen by decide, .inr ⟨g1, 0, rfl, hm.lt, fun i hi j hj => ?_⟩⟩
    rw [hm.cell, show 0 + i * 2 + j = i * 2 + j by omega]
    have h3 : i < 3 := hi
    have : ∀ i : Fin 3, ∀ j : Fin 2, metaCells[i.1 * 2 + j.1]? = (FieldD.cells metaL[i.1])[j.1]? := by
      intro i j
      match i, j with
      | 0, 0 => rfl
      | 0, 1 => rfl
      | 1, 0 => rfl
      | 1, 1 => rfl
      | 2, 0 => rfl
      | 2, 1 => rfl
    exact this ⟨i, h3⟩ ⟨j, hj⟩
  · intro f hf
    have : ∀ f ∈ metaL, f.name.size ≤ 10 := by decide
    exact Nat.le_trans (this f hf) (by decide)
  · exact LOk.one ha (by simp only [ActD.cells, Sm.act, L.v, hpl]; cases pw <;> rfl)
  · intro a hx
    obtain rfl : a = _ := List.mem_singleton.1 hx
    refine ⟨show (1 : Nat) ≤ maxLen by decide, hp, fun f hf => ?_, LOk.nil, fun s hs => absurd hs (List.not_mem_nil)⟩
    simp only [Sm.act, Sm.params, tblSm] at hf
    cases pw with
    | none => exact absurd hf (List.not_mem_nil)
    | some n => obtain rfl := List.mem_singleton.1 hf; show (1 : Nat) ≤ maxLen; decide
  · exact LOk.one ht (by simp only [TabD.cells, Sm.tab, L.v, hkl, hal]; cases pw <;> rfl)
  · intro t hx
    obtain rfl : t = _ := List.mem_singleton.1 hx
    refine ⟨show (1 : Nat) ≤ maxLen by decide, ?_, LOk.one hi rfl, hd⟩
    refine ⟨?_, ?_⟩
    · show (List.replicate nk _).length ≤ maxLen
      rw [List.length_replicate]; unfold maxLen; omega
    · rcases hk with h0 | ⟨g, e, hg, hc⟩
      · left; subst h0; rfl
      · refine .inr ⟨g, 0, e, hg, fun i hi2 j hj => ?_⟩
        have hi3 : i < nk := by simpa [Sm.tab, Sm.keys, tblSm] using hi2
        rw [show 0 + i * 3 + j = i * 3 + j by omega, hc _ (by omega), keyCells_at kd nk i j hi3 hj]
        simp [Sm.tab, Sm.keys, tblSm]
  · exact LOk.one hs rfl
  · intro t hx
    obtain rfl : t = _ := List.mem_singleton.1 hx
    exact ⟨show (1 : Nat) ≤ maxLen by decide, LOk.nil, LOk.nil⟩
  · show CtlsOk w []
    rw [CtlsOk]; trivial
end Go.Proofs.YtgfbikknkcaneaaGreat
namespace Go.Proofs.YtgfbikknkcaneaaGreat
open Go.RowKit

set_option maxRecDepth 100000 in
theorem plain_any (w : World) : Calls Tryz.prog 49 #[] w fun e w' => ∃ g1 g2,
    e = .returned (.agg #[.string ⟨#[112]⟩, .slice none 0 0, .slice (some ⟨g1, 0, none⟩) 3 3, .slice none 0 0, .slice none 0 0, .slice none 0 0, .slice (some ⟨g2, 0, none⟩) 1 1, .slice none 0 0, .slice none 0 0]) ∧
    Blk w' g1 63 metaCells ∧ Blk w' g2 73 stateCells ∧ Below w.heap.size w w' := by
  go_enter Tryz.func49, Tryz.ntmps49
  go_wp2
  refine bodyPost_ret (v := .agg #[.string ⟨#[112]⟩, .slice none 0 0, .slice (some ⟨w.heap.size + 1, 0, none⟩) 3 3, .slice none 0 0, .slice none 0 0, .slice none 0 0, .slice (some ⟨w.heap.size + 2, 0, none⟩) 1 1, .slice none 0 0, .slice none 0 0]) (by simp [results, Tryz.results49, go_sem]) rfl ⟨w.heap.size + 1, w.heap.size + 2, rfl, ?_, ?_, ?_⟩
  · exact (Blk.newAt _ (by simp) _ _).alloc _
  · exact Blk.newAt _ (by simp) _ _
  · exact below3 _ _ _ _

theorem Tryz.infoKey : (Tryz.prog.info? 133).map (fun i => (i.zero, i.size, i.bytes)) = some (some (.agg #[.int .i64 0, .int .i64 0, .int .i64 0]), 3, 24) := by kernel_rfl
theorem mk0 (w : World) : (Instr.makeSlice 48 (.int .i64 0) (.int .i64 0)).run Tryz.prog w = .ok (.slice (some ⟨w.heap.size, 0, none⟩) 0 0) (w.alloc (.cells #[] 134)) := by kernel_rfl
theorem mk1 (w : World) : (Instr.makeSlice 48 (.int .i64 1) (.int .i64 1)).run Tryz.prog w = .ok (.slice (some ⟨w.heap.size, 0, none⟩) 1 1) (w.alloc (.cells #[.int .u32 0] 134)) := by kernel_rfl

def Sm.cells9 (s : Sm) : Array Value := #[.string ⟨#[112]⟩, .slice s.hA 0 s.hc, .slice (some ⟨s.mg, s.mo, none⟩) 3 s.mc, .slice s.rA 0 s.rc, .slice (some ⟨s.ag, s.ao, none⟩) 1 s.ac, .slice (some ⟨s.tg, s.tof, none⟩) 1 s.tc, .slice (some ⟨s.sg, s.so, none⟩) 1 s.sc, .slice s.xA 0 s.xc, .slice s.yA 0 s.yc]
end Go.Proofs.YtgfbikknkcaneaaGreat
namespace Go.Proofs.YtgfbikknkcaneaaGreat
open Go.RowKit

set_option maxRecDepth 100000 in
set_option maxHeartbeats 4000000 in
theorem table_zero (kd : Int) (kb : Nat) (z : Int) (w : World) (hk : kb ≤ 1000) :
    Calls Tryz.prog 32 #[.int .i64 kd, .int .i64 kb, .int .i64 0, .int .i64 z] w fun e w' =>
      ∃ s : Sm, e = .returned s.prog.val ∧ SmAt w' s ∧ s.kd = kd ∧ s.nk = min (kb / 8) 6 ∧ s.pw = none ∧ s.size = z ∧ Below w.heap.size w w' := by
  obtain ⟨i0, hi, hz0, hz1, hz2⟩ := info_parts Tryz.infoKey
  have hm0 := mk0
  have hm1 := mk1
  have hn0 : kb / 8 ≤ 125 := by omega
  have hd3 : (kb : Int).tdiv 8 = ((kb / 8 : Nat) : Int) := Int.ofNat_tdiv kb 8
  have hd4 : (kb : Int) / 8 = ((kb / 8 : Nat) : Int) := by omega
  generalize kb / 8 = n at *
  go_enter Tryz.func32, Tryz.ntmps32
  go_wp2_with fail
  refine (plain_any _).mono ?_
  rintro e w1 ⟨g1, g2, rfl, hm, hs, hb1⟩
  have HM := Lib.hid hm
  have HS := Lib.hid hs
  have HB1 := Lib.hid hb1
  clear hm hs hb1
  go_wp2
  obtain ⟨W2, hW2⟩ : ∃ W2, W2 = w1.alloc (.cells #[.string ⟨#[112]⟩, .slice none 0 0, .slice (some ⟨g1, 0, none⟩) 3 3, .slice none 0 0, .slice none 0 0, .slice none 0 0, .slice (some ⟨g2, 0, none⟩) 1 1, .slice none 0 0, .slice none 0 0] 31) := ⟨_, rfl⟩
  have HP : Hid (Blk W2 w1.heap.size 31 #[.string ⟨#[112]⟩, .slice none 0 0, .slice (some ⟨g1, 0, none⟩) 3 3, .slice none 0 0, .slice none 0 0, .slice none 0 0, .slice (some ⟨g2, 0, none⟩) 1 1, .slice none 0 0, .slice none 0 0]) := Lib.hid (by rw [hW2]; exact Blk.new _ _ _)
  have HB2 : Hid (Below w1.heap.size w1 W2) := Lib.hid (by rw [hW2]; exact below1 _ _)
  rw [← hW2]
  clear hW2
  go_loopw [10, 11] (fun ov iv wr => ∃ (k : Nat) (A : Option Addr) (c : Nat), k ≤ n ∧ k ≤ 6 ∧ iv = .int .i64 k ∧ ov = .slice A k c ∧ wr.ownsRow W2.heap.size 133 3 (.slice A k c) k (keyCells kd k) ∧ Below W2.heap.size W2 wr)
    (fun _ i _ => 6 - (intOf i).toNat)
  case atStart => exact ⟨0, none, 0, Nat.zero_le _, Nat.zero_le _, rfl, rfl, World.ownsRow_nil _ _ _ _, Below.refl _ _⟩
  case round =>
    obtain ⟨k, A, c, hk1, hk6, rfl, rfl, hown, hbel⟩ := hrel
    have HO := Lib.hid hown
    have HBE := Lib.hid hbel
    clear hown hbel
    by_cases hlt : k < n ∧ k < 6
    · have hl1 := hlt.1
      have hl2 := hlt.2
      clear hlt
      have hws := HBE.out.size
      go_wp2_with (first
        | (at_builtin; refine wpList_append_own _ rfl _ _ 47 rfl W2.heap.size 133 i0 _ 3 24 Tryz.underlying47 hi hz0 hz1 hz2 rfl (by decide) _ _ _ rfl (HO.out.alloc _) ⟨wr.heap.size, 0, none⟩ 1 1 [.int .i64 (-1), .int .i64 0, .int .i64 kd] rfl rfl ?c1 ?c2 ?c3 ?c4 ?c5 ?_))
      case c1 =>
        intro j u hj
        match j, hj with
        | 0, hj => simp at hj; subst hj; simp [Addr.add]
        | 1, hj => simp at hj; subst hj; simp [Addr.add]
        | 2, hj => simp at hj; subst hj; simp [Addr.add]
      case c2 => intro u hu; simp at hu; rcases hu with rfl | rfl | rfl <;> rfl
      case c3 => unfold maxLen; omega
      case c4 => omega
      case c5 => simp; omega
      intro v' w3 hown3 hgrow _
      have hbw : Below W2.heap.size W2 w3 := (below_alloc HBE.out _).grown hgrow (below_alloc HBE.out _).size fun j hj => (HO.out.lt j hj).1
      obtain ⟨A', c', rfl⟩ : ∃ A' c', v' = .slice A' (k + 1) c' := by
        rcases hown3.2 with ⟨hv, h0⟩ | ⟨g', cap, cur, hv, _, _, _⟩
        · omega
        · exact ⟨_, _, hv⟩
      have HO3 := Lib.hid hown3
      have HB3 := Lib.hid hbw
      clear hown3 hbw hgrow
      go_wp2
      go_roundw
      case rel => exact ⟨k + 1, A', c', by omega, by omega, by go_num, rfl, HO3.out, HB3.out⟩
      case measure => simp [intOf]; omega
    · have HKM := Lib.hid (show k = min n 6 by omega)
      have hPW : Blk wr w1.heap.size 31 _ := HP.out.below HBE.out HP.out.lt
      have hR0 : Blk w1 w.heap.size 31 #[.string ⟨#[]⟩, .slice none 0 0, .slice none 0 0, .slice none 0 0, .slice none 0 0, .slice none 0 0, .slice none 0 0, .slice none 0 0, .slice none 0 0] := (Blk.new w _ _).below HB1.out (Blk.new w _ _).lt
      have hRW : Blk wr w.heap.size 31 _ := (hR0.below HB2.out hR0.lt).below HBE.out (hR0.below HB2.out hR0.lt).lt
      have hlt1 : w.heap.size < w1.heap.size := hR0.lt
      have hlt2 : w1.heap.size < wr.heap.size := hPW.lt
      have HPW := Lib.hid hPW
      have HRW := Lib.hid hRW
      have p0 := hPW.cell 0
      have p1 := hPW.cell 1
      have p2 := hPW.cell 2
      have p3 := hPW.cell 3
      have p4 := hPW.cell 4
      have p5 := hPW.cell 5
      have p6 := hPW.cell 6
      have p7 := hPW.cell 7
      have p8 := hPW.cell 8
      have pf0 := hPW.frozen 0
      have pf1 := hPW.frozen 1
      have pf2 := hPW.frozen 2
      have pf3 := hPW.frozen 3
      have pf4 := hPW.frozen 4
      have pf5 := hPW.frozen 5
      have pf6 := hPW.frozen 6
      have pf7 := hPW.frozen 7
      have pf8 := hPW.frozen 8
      have r0 := hRW.cell 0
      have r1 := hRW.cell 1
      have r2 := hRW.cell 2
      have r3 := hRW.cell 3
      have r4 := hRW.cell 4
      have r5 := hRW.cell 5
      have r6 := hRW.cell 6
      have r7 := hRW.cell 7
      have r8 := hRW.cell 8
      have rf0 := hRW.frozen 0
      have rf1 := hRW.frozen 1
      have rf2 := hRW.frozen 2
      have rf3 := hRW.frozen 3
      have rf4 := hRW.frozen 4
      have rf5 := hRW.frozen 5
      have rf6 := hRW.frozen 6
      have rf7 := hRW.frozen 7
      have rf8 := hRW.frozen 8
      simp only [List.getElem?_toArray, List.getElem?_cons_zero, List.getElem?_cons_succ] at p0 p1 p2 p3 p4 p5 p6 p7 p8 r0 r1 r2 r3 r4 r5 r6 r7 r8
      clear hPW hR0 hRW
      have l0 : w1.heap.size < wr.heap.size := by omega
      have l1 : w1.heap.size < wr.heap.size + 1 := by omega
      have l2 : w1.heap.size < wr.heap.size + 1 + 1 := by omega
      have l3 : w1.heap.size < wr.heap.size + 1 + 1 + 1 := by omega
      have l4 : w1.heap.size < wr.heap.size + 1 + 1 + 1 + 1 := by omega
      have l5 : w1.heap.size < wr.heap.size + 1 + 1 + 1 + 1 + 1 := by omega
      have l6 : w1.heap.size < wr.heap.size + 1 + 1 + 1 + 1 + 1 + 1 := by omega
      have m0 : w.heap.size < wr.heap.size := by omega
      have m1 : w.heap.size < wr.heap.size + 1 := by omega
      have m2 : w.heap.size < wr.heap.size + 1 + 1 := by omega
      have m3 : w.heap.size < wr.heap.size + 1 + 1 + 1 := by omega
      have m4 : w.heap.size < wr.heap.size + 1 + 1 + 1 + 1 := by omega
      have m5 : w.heap.size < wr.heap.size + 1 + 1 + 1 + 1 + 1 := by omega
      have m6 : w.heap.size < wr.heap.size + 1 + 1 + 1 + 1 + 1 + 1 := by omega
      have hcl := @World.cell?_alloc_lt
      have hfl := @World.frozen?_alloc_old
      have HLT := Lib.hid hlt1
      have HBF : Hid (Below w.heap.size w wr) := Lib.hid (below_step (below_step (below_step (below1 w _) HB1.out) HB2.out) HBE.out)
      have KEY : Hid (∀ (Wf : World) (ag : Nat) (pw : Option Int) (pA : Option Addr) (pc tg ig dg dc : Nat), Far wr Wf w1.heap.size w.heap.size →
          Blk Wf ag 68 #[.string ⟨#[120]⟩, .slice pA (npOf pw) pc, .slice none 0 0] →
          Blk Wf tg 52 #[.string ⟨#[116]⟩, .slice A k c, .slice (some ⟨ig, 0, none⟩) 1 1, .int .i64 0, .slice (some ⟨dg, 0, none⟩) (npOf pw) dc, .int .i64 z] →
          Blk Wf ig 3 #[.int .i64 0] → LOk Wf 2 FieldD.cells (tblSm g1 g2 ag pw pA pc tg kd k A c ig dg dc z).params → LOk Wf 1 ucell (tblSm g1 g2 ag pw pA pc tg kd k A c ig dg dc z).args →
          SmAt Wf (tblSm g1 g2 ag pw pA pc tg kd k A c ig dg dc z)) := Lib.hid (by
        intro Wf ag pw pA pc tg ig dg dc hf ha1 ht1 hi1 hp1 hd1
        have hmW : Blk wr g1 63 metaCells := (HM.out.below HB2.out HM.out.lt).below HBE.out (HM.out.below HB2.out HM.out.lt).lt
        have hsW : Blk wr g2 73 stateCells := (HS.out.below HB2.out HS.out.lt).below HBE.out (HS.out.below HB2.out HS.out.lt).lt
        refine tblSm_at (hf.blk hmW (hmW.ne HPW.out (by decide)) (hmW.ne HRW.out (by decide))) (hf.blk hsW (hsW.ne HPW.out (by decide)) (hsW.ne HRW.out (by decide))) ha1 ht1 hi1 ?_ hk6 hp1 hd1
        rcases Nat.eq_zero_or_pos k with h0 | h0
        · exact .inl h0
        · obtain ⟨g, cap, hv, hge, hlt⟩ := HO.out.form h0
          have hA : A = some ⟨g, 0, none⟩ := by injection hv
          subst hA
          have hb2 := HP.out.lt
          refine .inr ⟨g, rfl, Nat.lt_of_lt_of_le hlt hf.1, fun j hj => ?_⟩
          rw [← HO.out.cellAt j hj]
          exact World.cell?_of_block (w := wr) (hf.2 g hlt (by omega) (by have := HLT.out; omega)))
      rcases (show n ≤ k ∨ (k < n ∧ 6 ≤ k) by omega) with hx | ⟨hx, hx2⟩
      · clear hlt hk1 hk6
        go_wp2
        refine bodyPost_ret (results_cell_row (fn := Tryz.f32) (p := 8) (ty := 31) rfl _ _ w.heap.size 31 (tblSm g1 g2 (wr.heap.size + 1) none none 0 (wr.heap.size + 4) kd k A c (wr.heap.size + 2) (wr.heap.size + 3) 0 z).cells9 (0, 0) _ rfl ?hg Tryz.underlying31 rfl (by kernel_rfl)) rfl ⟨(tblSm g1 g2 (wr.heap.size + 1) none none 0 (wr.heap.size + 4) kd k A c (wr.heap.size + 2) (wr.heap.size + 3) 0 z), rfl, ?hat, rfl, HKM.out, rfl, rfl, ?hbl⟩
        case hg =>
          show Blk _ _ _ _
          refine Blk.alloc ?_ _
          refine Blk.alloc ?_ _
          refine Blk.alloc ?_ _
          refine Blk.alloc ?_ _
          refine Blk.alloc ?_ _
          exact (((((((((HRW.out.far (Nat.ne_of_lt HLT.out) _).far (Nat.ne_of_lt HLT.out) _).set_ 0 _).set_ 1 _).set_ 2 _).set_ 3 _).set_ 4 _).set_ 5 _).set_ 6 _ |>.set_ 7 _).set_ 8 _
        case hbl => exact below_alloc (below_alloc (below_alloc (below_alloc (below_alloc (Below.setCell (Below.setCell (Below.setCell (Below.setCell (Below.setCell (Below.setCell (Below.setCell (Below.setCell (Below.setCell (Below.setCell (Below.setCell (HBF.out) (Nat.le_of_lt HLT.out) _) (Nat.le_of_lt HLT.out) _) (Nat.le_refl _) _) (Nat.le_refl _) _) (Nat.le_refl _) _) (Nat.le_refl _) _) (Nat.le_refl _) _) (Nat.le_refl _) _) (Nat.le_refl _) _) (Nat.le_refl _) _) (Nat.le_refl _) _) _) _) _) _) _
        refine KEY.out _ (wr.heap.size + 1) none none 0 (wr.heap.size + 4) (wr.heap.size + 2) (wr.heap.size + 3) 0 (((((((((((((((((Far.refl _ _ _).setP _ _).setP _ _).setR _ _).setR _ _).setR _ _).setR _ _).setR _ _).setR _ _).setR _ _).setR _ _).setR _ _).alloc _).alloc _).alloc _).alloc _).alloc _) ((((Blk.newAt _ (by simp) _ _).alloc _).alloc _).alloc _) (Blk.newAt _ (by simp) _ _) (((Blk.newAt _ (by simp) _ _).alloc _).alloc _) ?_ ?_
        · exact LOk.nil
        · exact LOk.nil
      · clear hlt hk1 hk6
        go_wp2
        refine bodyPost_ret (results_cell_row (fn := Tryz.f32) (p := 8) (ty := 31) rfl _ _ w.heap.size 31 (tblSm g1 g2 (wr.heap.size + 1) none none 0 (wr.heap.size + 4) kd k A c (wr.heap.size + 2) (wr.heap.size + 3) 0 z).cells9 (0, 0) _ rfl ?hgX Tryz.underlying31 rfl (by kernel_rfl)) rfl ⟨(tblSm g1 g2 (wr.heap.size + 1) none none 0 (wr.heap.size + 4) kd k A c (wr.heap.size + 2) (wr.heap.size + 3) 0 z), rfl, ?hatX, rfl, HKM.out, rfl, rfl, ?hblX⟩
        case hgX =>
          show Blk _ _ _ _
          refine Blk.alloc ?_ _
          refine Blk.alloc ?_ _
          refine Blk.alloc ?_ _
          refine Blk.alloc ?_ _
          refine Blk.alloc ?_ _
          exact (((((((((HRW.out.far (Nat.ne_of_lt HLT.out) _).far (Nat.ne_of_lt HLT.out) _).set_ 0 _).set_ 1 _).set_ 2 _).set_ 3 _).set_ 4 _).set_ 5 _).set_ 6 _ |>.set_ 7 _).set_ 8 _
        case hblX => exact below_alloc (below_alloc (below_alloc (below_alloc (below_alloc (Below.setCell (Below.setCell (Below.setCell (Below.setCell (Below.setCell (Below.setCell (Below.setCell (Below.setCell (Below.setCell (Below.setCell (Below.setCell (HBF.out) (Nat.le_of_lt HLT.out) _) (Nat.le_of_lt HLT.out) _) (Nat.le_refl _) _) (Nat.le_refl _) _) (Nat.le_refl _) _) (Nat.le_refl _) _) (Nat.le_refl _) _) (Nat.le_refl _) _) (Nat.le_refl _) _) (Nat.le_refl _) _) (Nat.le_refl _) _) _) _) _) _) _
        refine KEY.out _ (wr.heap.size + 1) none none 0 (wr.heap.size + 4) (wr.heap.size + 2) (wr.heap.size + 3) 0 (((((((((((((((((Far.refl _ _ _).setP _ _).setP _ _).setR _ _).setR _ _).setR _ _).setR _ _).setR _ _).setR _ _).setR _ _).setR _ _).setR _ _).alloc _).alloc _).alloc _).alloc _).alloc _) ((((Blk.newAt _ (by simp) _ _).alloc _).alloc _).alloc _) (Blk.newAt _ (by simp) _ _) (((Blk.newAt _ (by simp) _ _).alloc _).alloc _) ?_ ?_
        · exact LOk.nil
        · exact LOk.nil
end Go.Proofs.YtgfbikknkcaneaaGreat
namespace Go.Proofs.YtgfbikknkcaneaaGreat
open Go.RowKit

set_option maxRecDepth 100000 in
set_option maxHeartbeats 4000000 in
theorem table_pos (kd : Int) (kb ar : Nat) (z : Int) (w : World) (hk : kb ≤ 1000) (ha : ar ≤ 32) (har : 0 < ar) :
    Calls Tryz.prog 32 #[.int .i64 kd, .int .i64 kb, .int .i64 ar, .int .i64 z] w fun e w' =>
      ∃ s : Sm, e = .returned s.prog.val ∧ SmAt w' s ∧ s.kd = kd ∧ s.nk = min (kb / 8) 6 ∧ s.pw = some (ar : Int) ∧ s.size = z ∧ Below w.heap.size w w' := by
  obtain ⟨i0, hi, hz0, hz1, hz2⟩ := info_parts Tryz.infoKey
  have hm0 := mk0
  have hm1 := mk1
  have hn0 : kb / 8 ≤ 125 := by omega
  have hd3 : (kb : Int).tdiv 8 = ((kb / 8 : Nat) : Int) := Int.ofNat_tdiv kb 8
  have hd4 : (kb : Int) / 8 = ((kb / 8 : Nat) : Int) := by omega
  generalize kb / 8 = n at *
  go_enter Tryz.func32, Tryz.ntmps32
  go_wp2_with fail
  refine (plain_any _).mono ?_
  rintro e w1 ⟨g1, g2, rfl, hm, hs, hb1⟩
  have HM := Lib.hid hm
  have HS := Lib.hid hs
  have HB1 := Lib.hid hb1
  clear hm hs hb1
  go_wp2
  obtain ⟨W2, hW2⟩ : ∃ W2, W2 = w1.alloc (.cells #[.string ⟨#[112]⟩, .slice none 0 0, .slice (some ⟨g1, 0, none⟩) 3 3, .slice none 0 0, .slice none 0 0, .slice none 0 0, .slice (some ⟨g2, 0, none⟩) 1 1, .slice none 0 0, .slice none 0 0] 31) := ⟨_, rfl⟩
  have HP : Hid (Blk W2 w1.heap.size 31 #[.string ⟨#[112]⟩, .slice none 0 0, .slice (some ⟨g1, 0, none⟩) 3 3, .slice none 0 0, .slice none 0 0, .slice none 0 0, .slice (some ⟨g2, 0, none⟩) 1 1, .slice none 0 0, .slice none 0 0]) := Lib.hid (by rw [hW2]; exact Blk.new _ _ _)
  have HB2 : Hid (Below w1.heap.size w1 W2) := Lib.hid (by rw [hW2]; exact below1 _ _)
  rw [← hW2]
  clear hW2
  go_loopw [10, 11] (fun ov iv wr => ∃ (k : Nat) (A : Option Addr) (c : Nat), k ≤ n ∧ k ≤ 6 ∧ iv = .int .i64 k ∧ ov = .slice A k c ∧ wr.ownsRow W2.heap.size 133 3 (.slice A k c) k (keyCells kd k) ∧ Below W2.heap.size W2 wr)
    (fun _ i _ => 6 - (intOf i).toNat)
  case atStart => exact ⟨0, none, 0, Nat.zero_le _, Nat.zero_le _, rfl, rfl, World.ownsRow_nil _ _ _ _, Below.refl _ _⟩
  case round =>
    obtain ⟨k, A, c, hk1, hk6, rfl, rfl, hown, hbel⟩ := hrel
    have HO := Lib.hid hown
    have HBE := Lib.hid hbel
    clear hown hbel
    by_cases hlt : k < n ∧ k < 6
    · have hl1 := hlt.1
      have hl2 := hlt.2
      clear hlt
      have hws := HBE.out.size
      go_wp2_with (first
        | (at_builtin; refine wpList_append_own _ rfl _ _ 47 rfl W2.heap.size 133 i0 _ 3 24 Tryz.underlying47 hi hz0 hz1 hz2 rfl (by decide) _ _ _ rfl (HO.out.alloc _) ⟨wr.heap.size, 0, none⟩ 1 1 [.int .i64 (-1), .int .i64 0, .int .i64 kd] rfl rfl ?c1 ?c2 ?c3 ?c4 ?c5 ?_))
      case c1 =>
        intro j u hj
        match j, hj with
        | 0, hj => simp at hj; subst hj; simp [Addr.add]
        | 1, hj => simp at hj; subst hj; simp [Addr.add]
        | 2, hj => simp at hj; subst hj; simp [Addr.add]
      case c2 => intro u hu; simp at hu; rcases hu with rfl | rfl | rfl <;> rfl
      case c3 => unfold maxLen; omega
      case c4 => omega
      case c5 => simp; omega
      intro v' w3 hown3 hgrow _
      have hbw : Below W2.heap.size W2 w3 := (below_alloc HBE.out _).grown hgrow (below_alloc HBE.out _).size fun j hj => (HO.out.lt j hj).1
      obtain ⟨A', c', rfl⟩ : ∃ A' c', v' = .slice A' (k + 1) c' := by
        rcases hown3.2 with ⟨hv, h0⟩ | ⟨g', cap, cur, hv, _, _, _⟩
        · omega
        · exact ⟨_, _, hv⟩
      have HO3 := Lib.hid hown3
      have HB3 := Lib.hid hbw
      clear hown3 hbw hgrow
      go_wp2
      go_roundw
      case rel => exact ⟨k + 1, A', c', by omega, by omega, by go_num, rfl, HO3.out, HB3.out⟩
      case measure => simp [intOf]; omega
    · have HKM := Lib.hid (show k = min n 6 by omega)
      have hPW : Blk wr w1.heap.size 31 _ := HP.out.below HBE.out HP.out.lt
      have hR0 : Blk w1 w.heap.size 31 #[.string ⟨#[]⟩, .slice none 0 0, .slice none 0 0, .slice none 0 0, .slice none 0 0, .slice none 0 0, .slice none 0 0, .slice none 0 0, .slice none 0 0] := (Blk.new w _ _).below HB1.out (Blk.new w _ _).lt
      have hRW : Blk wr w.heap.size 31 _ := (hR0.below HB2.out hR0.lt).below HBE.out (hR0.below HB2.out hR0.lt).lt
      have hlt1 : w.heap.size < w1.heap.size := hR0.lt
      have hlt2 : w1.heap.size < wr.heap.size := hPW.lt
      have HPW := Lib.hid hPW
      have HRW := Lib.hid hRW
      have p0 := hPW.cell 0
      have p1 := hPW.cell 1
      have p2 := hPW.cell 2
      have p3 := hPW.cell 3
      have p4 := hPW.cell 4
      have p5 := hPW.cell 5
      have p6 := hPW.cell 6
      have p7 := hPW.cell 7
      have p8 := hPW.cell 8
      have pf0 := hPW.frozen 0
      have pf1 := hPW.frozen 1
      have pf2 := hPW.frozen 2
      have pf3 := hPW.frozen 3
      have pf4 := hPW.frozen 4
      have pf5 := hPW.frozen 5
      have pf6 := hPW.frozen 6
      have pf7 := hPW.frozen 7
      have pf8 := hPW.frozen 8
      have r0 := hRW.cell 0
      have r1 := hRW.cell 1
      have r2 := hRW.cell 2
      have r3 := hRW.cell 3
      have r4 := hRW.cell 4
      have r5 := hRW.cell 5
      have r6 := hRW.cell 6
      have r7 := hRW.cell 7
      have r8 := hRW.cell 8
      have rf0 := hRW.frozen 0
      have rf1 := hRW.frozen 1
      have rf2 := hRW.frozen 2
      have rf3 := hRW.frozen 3
      have rf4 := hRW.frozen 4
      have rf5 := hRW.frozen 5
      have rf6 := hRW.frozen 6
      have rf7 := hRW.frozen 7
      have rf8 := hRW.frozen 8
      simp only [List.getElem?_toArray, List.getElem?_cons_zero, List.getElem?_cons_succ] at p0 p1 p2 p3 p4 p5 p6 p7 p8 r0 r1 r2 r3 r4 r5 r6 r7 r8
      clear hPW hR0 hRW
      have l0 : w1.heap.size < wr.heap.size := by omega
      have l1 : w1.heap.size < wr.heap.size + 1 := by omega
      have l2 : w1.heap.size < wr.heap.size + 1 + 1 := by omega
      have l3 : w1.heap.size < wr.heap.size + 1 + 1 + 1 := by omega
      have l4 : w1.heap.size < wr.heap.size + 1 + 1 + 1 + 1 := by omega
      have l5 : w1.heap.size < wr.heap.size + 1 + 1 + 1 + 1 + 1 := by omega
      have l6 : w1.heap.size < wr.heap.size + 1 + 1 + 1 + 1 + 1 + 1 := by omega
      have m0 : w.heap.size < wr.heap.size := by omega
      have m1 : w.heap.size < wr.heap.size + 1 := by omega
      have m2 : w.heap.size < wr.heap.size + 1 + 1 := by omega
      have m3 : w.heap.size < wr.heap.size + 1 + 1 + 1 := by omega
      have m4 : w.heap.size < wr.heap.size + 1 + 1 + 1 + 1 := by omega
      have m5 : w.heap.size < wr.heap.size + 1 + 1 + 1 + 1 + 1 := by omega
      have m6 : w.heap.size < wr.heap.size + 1 + 1 + 1 + 1 + 1 + 1 := by omega
      have hcl := @World.cell?_alloc_lt
      have hfl := @World.frozen?_alloc_old
      have HLT := Lib.hid hlt1
      have HBF : Hid (Below w.heap.size w wr) := Lib.hid (below_step (below_step (below_step (below1 w _) HB1.out) HB2.out) HBE.out)
      have HAR := Lib.hid ha
      have KEY : Hid (∀ (Wf : World) (ag : Nat) (pw : Option Int) (pA : Option Addr) (pc tg ig dg dc : Nat), Far wr Wf w1.heap.size w.heap.size →
          Blk Wf ag 68 #[.string ⟨#[120]⟩, .slice pA (npOf pw) pc, .slice none 0 0] →
          Blk Wf tg 52 #[.string ⟨#[116]⟩, .slice A k c, .slice (some ⟨ig, 0, none⟩) 1 1, .int .i64 0, .slice (some ⟨dg, 0, none⟩) (npOf pw) dc, .int .i64 z] →
          Blk Wf ig 3 #[.int .i64 0] → LOk Wf 2 FieldD.cells (tblSm g1 g2 ag pw pA pc tg kd k A c ig dg dc z).params → LOk Wf 1 ucell (tblSm g1 g2 ag pw pA pc tg kd k A c ig dg dc z).args →
          SmAt Wf (tblSm g1 g2 ag pw pA pc tg kd k A c ig dg dc z)) := Lib.hid (by
        intro Wf ag pw pA pc tg ig dg dc hf ha1 ht1 hi1 hp1 hd1
        have hmW : Blk wr g1 63 metaCells := (HM.out.below HB2.out HM.out.lt).below HBE.out (HM.out.below HB2.out HM.out.lt).lt
        have hsW : Blk wr g2 73 stateCells := (HS.out.below HB2.out HS.out.lt).below HBE.out (HS.out.below HB2.out HS.out.lt).lt
        refine tblSm_at (hf.blk hmW (hmW.ne HPW.out (by decide)) (hmW.ne HRW.out (by decide))) (hf.blk hsW (hsW.ne HPW.out (by decide)) (hsW.ne HRW.out (by decide))) ha1 ht1 hi1 ?_ hk6 hp1 hd1
        rcases Nat.eq_zero_or_pos k with h0 | h0
        · exact .inl h0
        · obtain ⟨g, cap, hv, hge, hlt⟩ := HO.out.form h0
          have hA : A = some ⟨g, 0, none⟩ := by injection hv
          subst hA
          have hb2 := HP.out.lt
          refine .inr ⟨g, rfl, Nat.lt_of_lt_of_le hlt hf.1, fun j hj => ?_⟩
          rw [← HO.out.cellAt j hj]
          exact World.cell?_of_block (w := wr) (hf.2 g hlt (by omega) (by have := HLT.out; omega)))
      rcases (show n ≤ k ∨ (k < n ∧ 6 ≤ k) by omega) with hx | ⟨hx, hx2⟩
      · clear hlt hk1 hk6
        go_wp2
        refine bodyPost_ret (results_cell_row (fn := Tryz.f32) (p := 8) (ty := 31) rfl _ _ w.heap.size 31 (tblSm g1 g2 (wr.heap.size + 2) (some (ar : Int)) (some ⟨wr.heap.size + 1, 0, none⟩) 1 (wr.heap.size + 5) kd k A c (wr.heap.size + 3) (wr.heap.size + 4) 1 z).cells9 (0, 0) _ rfl ?hg Tryz.underlying31 rfl (by kernel_rfl)) rfl ⟨(tblSm g1 g2 (wr.heap.size + 2) (some (ar : Int)) (some ⟨wr.heap.size + 1, 0, none⟩) 1 (wr.heap.size + 5) kd k A c (wr.heap.size + 3) (wr.heap.size + 4) 1 z), rfl, ?hat, rfl, HKM.out, rfl, rfl, ?hbl⟩
        case hg =>
          show Blk _ _ _ _
          refine Blk.alloc ?_ _
          refine Blk.alloc ?_ _
          refine Blk.alloc ?_ _
          refine Blk.alloc ?_ _
          refine Blk.alloc ?_ _
          refine Blk.alloc ?_ _
          exact (((((((((HRW.out.far (Nat.ne_of_lt HLT.out) _).far (Nat.ne_of_lt HLT.out) _).set_ 0 _).set_ 1 _).set_ 2 _).set_ 3 _).set_ 4 _).set_ 5 _).set_ 6 _ |>.set_ 7 _).set_ 8 _
        case hbl => exact below_alloc (below_alloc (below_alloc (below_alloc (below_alloc (below_alloc (Below.setCell (Below.setCell (Below.setCell (Below.setCell (Below.setCell (Below.setCell (Below.setCell (Below.setCell (Below.setCell (Below.setCell (Below.setCell (HBF.out) (Nat.le_of_lt HLT.out) _) (Nat.le_of_lt HLT.out) _) (Nat.le_refl _) _) (Nat.le_refl _) _) (Nat.le_refl _) _) (Nat.le_refl _) _) (Nat.le_refl _) _) (Nat.le_refl _) _) (Nat.le_refl _) _) (Nat.le_refl _) _) (Nat.le_refl _) _) _) _) _) _) _) _
        refine KEY.out _ (wr.heap.size + 2) (some (ar : Int)) (some ⟨wr.heap.size + 1, 0, none⟩) 1 (wr.heap.size + 5) (wr.heap.size + 3) (wr.heap.size + 4) 1 ((((((((((((((((((Far.refl _ _ _).setP _ _).setP _ _).setR _ _).setR _ _).setR _ _).setR _ _).setR _ _).setR _ _).setR _ _).setR _ _).setR _ _).alloc _).alloc _).alloc _).alloc _).alloc _).alloc _) ((((Blk.newAt _ (by simp) _ _).alloc _).alloc _).alloc _) (Blk.newAt _ (by simp) _ _) (((Blk.newAt _ (by simp) _ _).alloc _).alloc _) ?_ ?_
        · exact LOk.one (t := 63) (cs := #[.string vName, .int .i64 ar]) (((((Blk.newAt _ (by simp) _ _).alloc _).alloc _).alloc _).alloc _) rfl
        · exact LOk.one (t := 134) (cs := #[.int .u32 0]) ((Blk.newAt _ (by simp) _ _).alloc _) rfl
      · clear hlt hk1 hk6
        go_wp2
        refine bodyPost_ret (results_cell_row (fn := Tryz.f32) (p := 8) (ty := 31) rfl _ _ w.heap.size 31 (tblSm g1 g2 (wr.heap.size + 2) (some (ar : Int)) (some ⟨wr.heap.size + 1, 0, none⟩) 1 (wr.heap.size + 5) kd k A c (wr.heap.size + 3) (wr.heap.size + 4) 1 z).cells9 (0, 0) _ rfl ?hgX Tryz.underlying31 rfl (by kernel_rfl)) rfl ⟨(tblSm g1 g2 (wr.heap.size + 2) (some (ar : Int)) (some ⟨wr.heap.size + 1, 0, none⟩) 1 (wr.heap.size + 5) kd k A c (wr.heap.size + 3) (wr.heap.size + 4) 1 z), rfl, ?hatX, rfl, HKM.out, rfl, rfl, ?hblX⟩
        case hgX =>
          show Blk _ _ _ _
          refine Blk.alloc ?_ _
          refine Blk.alloc ?_ _
          refine Blk.alloc ?_ _
          refine Blk.alloc ?_ _
          refine Blk.alloc ?_ _
          refine Blk.alloc ?_ _
          exact (((((((((HRW.out.far (Nat.ne_of_lt HLT.out) _).far (Nat.ne_of_lt HLT.out) _).set_ 0 _).set_ 1 _).set_ 2 _).set_ 3 _).set_ 4 _).set_ 5 _).set_ 6 _ |>.set_ 7 _).set_ 8 _
        case hblX => exact below_alloc (below_alloc (below_alloc (below_alloc (below_alloc (below_alloc (Below.setCell (Below.setCell (Below.setCell (Below.setCell (Below.setCell (Below.setCell (Below.setCell (Below.setCell (Below.setCell (Below.setCell (Below.setCell (HBF.out) (Nat.le_of_lt HLT.out) _) (Nat.le_of_lt HLT.out) _) (Nat.le_refl _) _) (Nat.le_refl _) _) (Nat.le_refl _) _) (Nat.le_refl _) _) (Nat.le_refl _) _) (Nat.le_refl _) _) (Nat.le_refl _) _) (Nat.le_refl _) _) (Nat.le_refl _) _) _) _) _) _) _) _
        refine KEY.out _ (wr.heap.size + 2) (some (ar : Int)) (some ⟨wr.heap.size + 1, 0, none⟩) 1 (wr.heap.size + 5) (wr.heap.size + 3) (wr.heap.size + 4) 1 ((((((((((((((((((Far.refl _ _ _).setP _ _).setP _ _).setR _ _).setR _ _).setR _ _).setR _ _).setR _ _).setR _ _).setR _ _).setR _ _).setR _ _).alloc _).alloc _).alloc _).alloc _).alloc _).alloc _) ((((Blk.newAt _ (by simp) _ _).alloc _).alloc _).alloc _) (Blk.newAt _ (by simp) _ _) (((Blk.newAt _ (by simp) _ _).alloc _).alloc _) ?_ ?_
        · exact LOk.one (t := 63) (cs := #[.string vName, .int .i64 ar]) (((((Blk.newAt _ (by simp) _ _).alloc _).alloc _).alloc _).alloc _) rfl
        · exact LOk.one (t := 134) (cs := #[.int .u32 0]) ((Blk.newAt _ (by simp) _ _).alloc _) rfl
end Go.Proofs.YtgfbikknkcaneaaGreat
namespace Go.Proofs.YtgfbikknkcaneaaGreat
open Go.RowKit

theorem table_any (kd : Int) (kb ar : Nat) (z : Int) (w : World) (hk : kb ≤ 1000) (ha : ar ≤ 32) :
    Calls Tryz.prog 32 #[.int .i64 kd, .int .i64 kb, .int .i64 ar, .int .i64 z] w fun e w' =>
      ∃ s : Sm, e = .returned s.prog.val ∧ SmAt w' s ∧ s.kd = kd ∧ s.nk = min (kb / 8) 6 ∧ s.pw = (if ar = 0 then none else some (ar : Int)) ∧ s.size = z ∧ Below w.heap.size w w' := by
  rcases Nat.eq_zero_or_pos ar with rfl | h
  · exact table_zero kd kb z w hk
  · rw [if_neg (by omega)]
    exact table_pos kd kb ar z w hk ha h

set_option maxRecDepth 100000 in
set_option maxHeartbeats 1000000 in
theorem unitCost_ok (s : Sm) (w : World) (h : SmAt w s) (o : SmOk s) (hk0 : 0 < s.nk) :
    Calls Tryz.prog 15 #[s.prog.val, .agg #[.int .i64 0, .slice none 0 0, .slice none 0 0]] w fun e w' => e = .returned (.agg #[.int .i64 ((costM s).1 : Int), .int .i64 ((costM s).2 : Int)]) ∧ Below w.heap.size w w' := by
  have HA := Lib.hid h
  have HO := Lib.hid o
  obtain ⟨W0, hW0, hb0, hp0, hq0⟩ := sm_box2 w s 31 #[.int .i64 0, .slice none 0 0, .slice none 0 0] 35
  have hsz : W0.heap.size = w.heap.size + 2 := by rw [hW0]; simp
  obtain ⟨W, hW⟩ : ∃ W, W = W0.alloc (.cells #[.int .i64 0, .int .i64 0] 39) := ⟨_, rfl⟩
  have hB0 : Below W0.heap.size W0 W := by rw [hW]; exact below1 _ _
  have hR : Blk W (w.heap.size + 2) 39 #[.int .i64 0, .int .i64 0] := by rw [hW]; exact Blk.newAt _ hsz _ _
  have HB := Lib.hid (below_step hb0 hB0)
  have HR := Lib.hid hR
  have HV := Lib.hid (Sm.val s)
  clear h o hR hb0 hsz hp0 hq0 hB0
  rw [Sm.val]
  go_enter Tryz.func15, Tryz.ntmps15
  go_wp2_with fail
  rw [← hW0, ← hW]
  clear hW hW0
  refine (tableCost_ok s W (HA.out.below HB.out) HO.out hk0).mono ?_
  rintro e w1 ⟨rfl, hb1⟩
  have r := HR.out.below hb1 HR.out.lt
  have HB1 := Lib.hid (below_step HB.out hb1)
  have HR1 := Lib.hid r
  have r0 : w1.cell? ⟨w.heap.size + 2, 0, none⟩ = some (.int .i64 0) := r.cell 0
  have r1 : w1.cell? ⟨w.heap.size + 2, 1, none⟩ = some (.int .i64 0) := r.cell 1
  have f0 := r.frozen 0
  have f1 := r.frozen 1
  clear r hb1
  generalize hca : (costM s).1 = a at *
  generalize hcb : (costM s).2 = b at *
  have HAB := Lib.hid (And.intro hca hcb)
  clear hca hcb
  go_wp2
  refine bodyPost_ret (results_cell_row (fn := Tryz.f15) (p := 4) (ty := 39) rfl _ _ (w.heap.size + 2) 39 #[.int .i64 (a : Int), .int .i64 (b : Int)] (0, 0) _ rfl ?hg Tryz.underlying39 rfl (by kernel_rfl)) rfl ⟨by rw [HAB.out.1, HAB.out.2], ?hb⟩
  case hg => exact ((HR1.out.set_ 0 _).set_ 1 _)
  case hb => exact Below.setCell (Below.setCell HB1.out (by show w.heap.size ≤ w.heap.size + 2; omega) _) (by show w.heap.size ≤ w.heap.size + 2; omega) _

/-- the builder's programs pass -/
theorem tbl_ok {s : Sm} {kd : Int} {kb ar : Nat} {z : Int} (h1 : s.kd = kd) (h2 : s.nk = min (kb / 8) 6) (h3 : s.pw = if ar = 0 then none else some (ar : Int)) (h4 : s.size = z)
    (hk : kd = 1 ∨ kd = 3) (ha : ar ≤ 32) (hz0 : 1 ≤ z) (hz1 : z ≤ 256) : SmOk s := by
  refine ⟨fun n hn => ?_, by rw [h1]; exact hk, by rw [h2]; omega, by rw [h4]; exact hz0, by rw [h4]; exact hz1⟩
  rw [h3] at hn
  split at hn
  · cases hn
  · injection hn with hn; omega
theorem tbl_arg {s : Sm} {ar : Nat} (h3 : s.pw = if ar = 0 then none else some (ar : Int)) : argM s = ar := by
  rw [argM, h3]
  by_cases h : ar = 0
  · rw [if_pos h]; exact h.symm
  · rw [if_neg h]; rfl
theorem tbl_cost1 {s : Sm} {kb ar z : Nat} (h1 : s.kd = 1) (h2 : s.nk = min (kb / 8) 6) (h3 : s.pw = if ar = 0 then none else some (ar : Int)) (h4 : s.size = (z : Int)) (h0 : 8 ≤ kb) :
    costM s = (ceilDiv (z * (8 * min (kb / 8) 6 + (8 + ar))) 4096, 0) := by
  rw [costM, if_neg (by omega), if_pos h1, h2, tbl_arg h3, h4]; rfl
theorem tbl_cost3 {s : Sm} {kb ar z : Nat} (h1 : s.kd = 3) (h2 : s.nk = min (kb / 8) 6) (h3 : s.pw = if ar = 0 then none else some (ar : Int)) (h4 : s.size = (z : Int)) (h0 : 8 ≤ kb) :
    costM s = (ceilDiv (z * (8 + ar)) 4096, ceilDiv (z * (8 * min (kb / 8) 6)) 2048) := by
  rw [costM, if_neg (by omega), if_neg (by omega), h2, tbl_arg h3, h4]; rfl

def exRes : List ResD := [⟨2, 6⟩, ⟨1, 0⟩, ⟨-5, 1⟩]
theorem exRes_at {w : World} {g : Nat} {t : TypeId} (h : Blk w g t #[.int .i64 2, .int .i64 6, .int .i64 1, .int .i64 0, .int .i64 (-5), .int .i64 1]) : LOk w 2 ResD.cells (⟨exRes, some ⟨g, 0, none⟩, 3⟩ : L ResD) := by
  refine ⟨show (3 : Nat) ≤ maxLen by decide, .inr ⟨g, 0, rfl, h.lt, fun i hi j hj => ?_⟩⟩
  rw [h.cell, show 0 + i * 2 + j = i * 2 + j by omega]
  have h3 : i < 3 := hi
  have : ∀ i : Fin 3, ∀ j : Fin 2, (#[.int .i64 2, .int .i64 6, .int .i64 1, .int .i64 0, .int .i64 (-5), .int .i64 1] : Array Value)[i.1 * 2 + j.1]? = (ResD.cells exRes[i.1])[j.1]? := by
    intro i j
    match i, j with
    | 0, 0 => rfl
    | 0, 1 => rfl
    | 1, 0 => rfl
    | 1, 1 => rfl
    | 2, 0 => rfl
    | 2, 1 => rfl
  exact this ⟨i, h3⟩ ⟨j, hj⟩
theorem exRes_wf : ∀ r ∈ exRes, r.wf := by
  intro r hr
  simp only [exRes, List.mem_cons, List.not_mem_nil, or_false] at hr
  rcases hr with rfl | rfl | rfl <;> (unfold ResD.wf; simp)
def chipOf (a b : Int) : Fin 8 → Int := fun i => if i.1 = 3 then a else if i.1 = 4 then b else 0

set_option maxRecDepth 100000 in
set_option maxHeartbeats 4000000 in
theorem works34_any (w : World) : Calls Tryz.prog 12 #[] w fun e w' => e = .returned (.bool true) ∧ Below w.heap.size w w' := by
  go_enter Tryz.func12, Tryz.ntmps12
  go_wp2_with fail
  refine (table_any 3 48 16 256 _ (by omega) (by omega)).mono ?_
  rintro e w1 ⟨s, rfl, hs, k1, k2, k3, k4, hb1⟩
  have HO := Lib.hid (tbl_ok k1 k2 k3 k4 (.inr rfl) (by omega) (by omega) (by omega))
  have HC := Lib.hid (tbl_cost3 (z := 256) k1 k2 k3 k4 (by omega))
  have HN := Lib.hid (show 0 < s.nk by rw [k2]; decide)
  have HS := Lib.hid hs
  have HB1 := Lib.hid hb1
  clear k1 k2 k3 k4 hs hb1
  go_wp2_with fail
  refine (tableCost_ok s _ HS.out HO.out HN.out).mono ?_
  rintro e w2 ⟨he, hb2⟩
  replace he : e = .returned (.agg #[.int .i64 2, .int .i64 6]) := by rw [he, HC.out]; rfl
  subst he
  have HB2 := Lib.hid (below_step HB1.out hb2)
  clear hb2 HS HO HC HN
  obtain ⟨W, hW⟩ : ∃ W, W = w2.alloc (.cells #[.int .i64 2, .int .i64 6] 39) := ⟨_, rfl⟩
  have HA := Lib.hid (show Blk W w2.heap.size 39 #[.int .i64 2, .int .i64 6] by rw [hW]; exact Blk.new _ _ _)
  have HBW := Lib.hid (show Below w2.heap.size w2 W by rw [hW]; exact below1 _ _)
  go_wp2_with fail
  rw [← hW]
  clear hW
  refine (table_any 1 8 8 16 _ (by omega) (by omega)).mono ?_
  rintro e w3 ⟨s, rfl, hs, k1, k2, k3, k4, hb3⟩
  have HO := Lib.hid (tbl_ok k1 k2 k3 k4 (.inl rfl) (by omega) (by omega) (by omega))
  have HC := Lib.hid (tbl_cost1 (z := 16) k1 k2 k3 k4 (by omega))
  have HN := Lib.hid (show 0 < s.nk by rw [k2]; decide)
  have HS := Lib.hid hs
  have HB3 := Lib.hid hb3
  clear k1 k2 k3 k4 hs hb3
  go_wp2_with fail
  refine (unitCost_ok s _ HS.out HO.out HN.out).mono ?_
  rintro e w4 ⟨he, hb4⟩
  replace he : e = .returned (.agg #[.int .i64 1, .int .i64 0]) := by rw [he, HC.out]; rfl
  subst he
  have HB4 := Lib.hid (below_step HB3.out hb4)
  clear hb4 HS HO HC HN
  have HA4 := Lib.hid (HA.out.below HB4.out HA.out.lt)
  have a0 : w4.cell? ⟨w2.heap.size, 0, none⟩ = some (.int .i64 2) := HA4.out.cell 0
  have a1 : w4.cell? ⟨w2.heap.size, 1, none⟩ = some (.int .i64 6) := HA4.out.cell 1
  have hl := HA4.out.lt
  have hcl := @World.cell?_alloc_lt
  go_wp2_with fail
  obtain ⟨W5, hW5⟩ : ∃ W5, W5 = (w4.alloc (.cells #[.int .i64 1, .int .i64 0] 39)).alloc (.cells #[.int .i64 2, .int .i64 6, .int .i64 1, .int .i64 0, .int .i64 (-5), .int .i64 1] 39) := ⟨_, rfl⟩
  have HL5 := Lib.hid (show Blk W5 (w4.heap.size + 1) 39 #[.int .i64 2, .int .i64 6, .int .i64 1, .int .i64 0, .int .i64 (-5), .int .i64 1] by rw [hW5]; exact Blk.newAt _ (by simp) _ _)
  have HBB := Lib.hid (show Blk W5 w4.heap.size 39 #[.int .i64 1, .int .i64 0] by rw [hW5]; exact (Blk.new _ _ _).alloc _)
  have HB5 := Lib.hid (show Below w4.heap.size w4 W5 by rw [hW5]; exact below2 _ _ _)
  have HA5 := Lib.hid (HA4.out.below HB5.out HA4.out.lt)
  rw [← hW5]
  clear hW5 a0 a1 hl
  refine (sum_any (⟨exRes, some ⟨w4.heap.size + 1, 0, none⟩, 3⟩ : L ResD) W5 (exRes_at HL5.out) (show (3 : Nat) ≤ 1000 by omega) exRes_wf).mono ?_
  rintro e w6 ⟨he, hb6⟩
  replace he : e = .returned (.agg #[.int .i64 3, .int .i64 7]) := by rw [he]; rfl
  subst he
  have a0 : w6.cell? ⟨w2.heap.size, 0, none⟩ = some (.int .i64 2) := (HA5.out.below hb6 HA5.out.lt).cell 0
  have a1 : w6.cell? ⟨w2.heap.size, 1, none⟩ = some (.int .i64 6) := (HA5.out.below hb6 HA5.out.lt).cell 1
  have b0 : w6.cell? ⟨w4.heap.size, 0, none⟩ = some (.int .i64 1) := (HBB.out.below hb6 HBB.out.lt).cell 0
  have b1 : w6.cell? ⟨w4.heap.size, 1, none⟩ = some (.int .i64 0) := (HBB.out.below hb6 HBB.out.lt).cell 1
  have hl1 : w2.heap.size < w6.heap.size := (HA5.out.below hb6 HA5.out.lt).lt
  have hl2 : w4.heap.size < w6.heap.size := (HBB.out.below hb6 HBB.out.lt).lt
  have HA6 := Lib.hid (HA5.out.below hb6 HA5.out.lt)
  have HB6 := Lib.hid (below_step HB2.out (below_step HBW.out (below_step HB4.out (below_step HB5.out hb6))))
  clear hb6
  go_wp2_with fail
  refine (fits_any2 2 6 (chipOf 2 6) _).mono ?_
  rintro e w7 ⟨he, hb7⟩
  replace he : e = .returned (.bool true) := by rw [he]; rfl
  subst he
  have hb7' := below_step (below1 w6 _) hb7
  have c0 : w7.cell? ⟨w2.heap.size, 0, none⟩ = some (.int .i64 2) := (HA6.out.below hb7' HA6.out.lt).cell 0
  have c1 : w7.cell? ⟨w2.heap.size, 1, none⟩ = some (.int .i64 6) := (HA6.out.below hb7' HA6.out.lt).cell 1
  have HB7 := Lib.hid (below_step HB6.out hb7')
  clear hb7 hb7' a0 a1 b0 b1 hl1 hl2
  go_wp2_with fail
  refine (fits_any2 2 6 (chipOf 2 5) _).mono ?_
  rintro e w8 ⟨he, hb8⟩
  replace he : e = .returned (.bool false) := by rw [he]; rfl
  subst he
  have HB8 := Lib.hid (below_step HB7.out hb8)
  clear hb8 c0 c1
  go_wp2
  go_ret
  exact ⟨rfl, HB8.out⟩
end Go.Proofs.YtgfbikknkcaneaaGreat
