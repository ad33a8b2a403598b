/- Walks of the checks of chips, of the counts of cells, of the taking of a container. No condition but that the program lies in memory and its lists are short. -/
import Derived.Test.YtbfjknidinkafaaGreatSa
import Derived.Laws.OwnMore
import Derived.Deep.RegionHeld3
import Derived.Test.YtbfjknidinkafaaGreatSb
import Derived.Maps.AppendAt
import Derived.Deep.RegionLaw
import Derived.Lib.SliceRun
import Derived.Laws.StructEq
import Derived.BigQuiet
import Derived.ChangeArms
import Derived.ReadAgain
import Derived.ChangeOld
import Derived.WideShapes
import Derived.Below
import Derived.ChangeSame
import Derived.SizedLaws
import Derived.Deep.CutRange
import Derived.Deep.CutBlock
namespace Go.Proofs.YtbfjknidinkafaaGreat
open Go.RowKit
set_option maxRecDepth 100000
set_option maxHeartbeats 16000000
def nF (p : ProgD) (k : Nat) : Nat := match p.headers.l[k]? with
  | none => 0
  | some h => h.fields.l.length
theorem nF_at {p : ProgD} {k : Nat} (h : k < p.headers.l.length) : nF p k = p.headers.l[k].fields.l.length := by rw [nF, List.getElem?_eq_getElem h]
def preF (p : ProgD) : Nat → Nat
  | 0 => 0
  | k + 1 => preF p k + nF p k
def fN (p : ProgD) : Nat := preF p p.headers.l.length
def cellsN (p : ProgD) : Nat := fN p + (p.headers.l.length + p.metadata.l.length)
def partOf {α : Type} (p : ProgD) (fld : Int → Int → α) (k : Nat) : List α := (List.range k).flatMap fun (j : Nat) => (List.range (nF p j)).map fun (f : Nat) => fld j f
def cellsOf {α : Type} (p : ProgD) (fld : Int → Int → α) (val : Nat → α) : List α :=
  partOf p fld p.headers.l.length ++ ((List.range p.headers.l.length).map val ++ (List.range p.metadata.l.length).map fun (f : Nat) => fld (-1) f)
theorem part_succ {α : Type} (p : ProgD) (fld : Int → Int → α) (k : Nat) : partOf p fld (k + 1) = partOf p fld k ++ (List.range (nF p k)).map fun (f : Nat) => fld k f := by
  simp [partOf, List.range_succ, List.flatMap_append]
theorem part_len {α : Type} (p : ProgD) (fld : Int → Int → α) : ∀ k : Nat, (partOf p fld k).length = preF p k
  | 0 => rfl
  | k + 1 => by rw [part_succ, List.length_append, part_len p fld k, List.length_map, List.length_range]; rfl
theorem cells_len {α : Type} (p : ProgD) (fld : Int → Int → α) (val : Nat → α) : (cellsOf p fld val).length = cellsN p := by
  simp [cellsOf, part_len, cellsN, fN]
theorem preF_mono (p : ProgD) : ∀ {a b : Nat}, a ≤ b → preF p a ≤ preF p b
  | a, 0, h => by obtain rfl : a = 0 := by omega
                  exact Nat.le_refl _
  | a, b + 1, h => by
    rcases Nat.lt_or_ge b a with h1 | h1
    · obtain rfl : a = b + 1 := by omega
      exact Nat.le_refl _
    · exact Nat.le_trans (preF_mono p h1) (Nat.le_add_right _ _)
theorem preF_step {p : ProgD} {k n : Nat} (h : k < n) : preF p k + nF p k ≤ preF p n := preF_mono p (show k + 1 ≤ n from h)
theorem part_get {α : Type} (p : ProgD) (fld : Int → Int → α) {k f : Nat} (hf : f < nF p k) : ∀ {n : Nat}, k < n → (partOf p fld n)[preF p k + f]? = some (fld k f)
  | n + 1, h => by
    rw [part_succ]
    rcases Nat.lt_or_ge k n with h1 | h1
    · have h2 := preF_step (p := p) h1
      rw [List.getElem?_append_left (by rw [part_len]; omega)]
      exact part_get p fld hf h1
    · obtain rfl : k = n := by omega
      rw [List.getElem?_append_right (by rw [part_len]; omega), part_len, show preF p k + f - preF p k = f by omega]
      simp [hf]
theorem cells_fld {α : Type} (p : ProgD) (fld : Int → Int → α) (val : Nat → α) {k f : Nat} (hk : k < p.headers.l.length) (hf : f < nF p k) : (cellsOf p fld val)[preF p k + f]? = some (fld k f) := by
  have h2 := preF_step (p := p) hk
  rw [cellsOf, List.getElem?_append_left (by rw [part_len]; omega)]
  exact part_get p fld hf hk
theorem cells_val {α : Type} (p : ProgD) (fld : Int → Int → α) (val : Nat → α) {h : Nat} (hh : h < p.headers.l.length) : (cellsOf p fld val)[fN p + h]? = some (val h) := by
  rw [cellsOf, List.getElem?_append_right (by rw [part_len, fN]; omega), part_len, ← fN, show fN p + h - fN p = h by omega, List.getElem?_append_left (by simpa using hh)]
  simp [hh]
theorem cells_meta {α : Type} (p : ProgD) (fld : Int → Int → α) (val : Nat → α) {f : Nat} (hf : f < p.metadata.l.length) : (cellsOf p fld val)[fN p + p.headers.l.length + f]? = some (fld (-1) f) := by
  rw [cellsOf, List.getElem?_append_right (by rw [part_len, fN]; omega), part_len, ← fN, show fN p + p.headers.l.length + f - fN p = p.headers.l.length + f by omega, List.getElem?_append_right (by simp)]
  simp [hf]
theorem part_cases (p : ProgD) : ∀ {n c : Nat}, c < preF p n → ∃ k f, k < n ∧ f < nF p k ∧ c = preF p k + f
  | 0, c, h => absurd h (Nat.not_lt_zero _)
  | n + 1, c, h => by
    rcases Nat.lt_or_ge c (preF p n) with h1 | h1
    · obtain ⟨k, f, hk, hf, e⟩ := part_cases p h1
      exact ⟨k, f, by omega, hf, e⟩
    · have h2 : c < preF p n + nF p n := h
      exact ⟨n, c - preF p n, by omega, by omega, by omega⟩
theorem cell_cases (p : ProgD) {c : Nat} (h : c < cellsN p) : (∃ k f, k < p.headers.l.length ∧ f < nF p k ∧ c = preF p k + f) ∨ (∃ k, k < p.headers.l.length ∧ c = fN p + k) ∨ ∃ f, f < p.metadata.l.length ∧ c = fN p + p.headers.l.length + f := by
  unfold cellsN at h
  rcases Nat.lt_or_ge c (fN p) with h1 | h1
  · exact .inl (part_cases p h1)
  · rcases Nat.lt_or_ge c (fN p + p.headers.l.length) with h2 | h2
    · exact .inr (.inl ⟨c - fN p, by omega, by omega⟩)
    · exact .inr (.inr ⟨c - (fN p + p.headers.l.length), by omega, by omega⟩)
def wsM (p : ProgD) : List Int := cellsOf p (widthAt p) (fun _ => 1)
theorem ws_len (p : ProgD) : (wsM p).length = cellsN p := cells_len _ _ _
structure SlotD where
  size : Int
  index : Int
  off : Int
  width : Int
def SlotD.cells (s : SlotD) : List Value := [.int .i64 s.size, .int .i64 s.index, .int .i64 s.off, .int .i64 s.width]
def validS (s : SlotD) : Bool := (decide (s.size = 8) || decide (s.size = 16) || decide (s.size = 32)) && decide (0 ≤ s.index) && decide (s.index < 64) && decide (0 ≤ s.off) && decide (1 ≤ s.width) && decide (s.width ≤ s.size) && decide (s.off ≤ s.size - s.width)
theorem validS_iff {s : SlotD} : validS s = true ↔ (s.size = 8 ∨ s.size = 16 ∨ s.size = 32) ∧ 0 ≤ s.index ∧ s.index < 64 ∧ 0 ≤ s.off ∧ 1 ≤ s.width ∧ s.width ≤ s.size ∧ s.off ≤ s.size - s.width := by
  simp [validS, and_assoc, or_assoc]
structure ChipD where
  stages : Int
  tables : Int
  gates : Int
  sram : Int
  tcam : Int
  c8 : Int
  c16 : Int
  c32 : Int
def ChipD.cells (c : ChipD) : List Value := [.int .i64 c.stages, .int .i64 c.tables, .int .i64 c.gates, .int .i64 c.sram, .int .i64 c.tcam, .int .i64 c.c8, .int .i64 c.c16, .int .i64 c.c32]
def in64 (n : Int) : Prop := 0 ≤ n ∧ n ≤ 64
instance (n : Int) : Decidable (in64 n) := inferInstanceAs (Decidable (_ ∧ _))
def chipM (c : ChipD) : Int := if (1 ≤ c.stages ∧ c.stages ≤ 16) ∧ in64 c.tables ∧ in64 c.gates ∧ in64 c.c8 ∧ in64 c.c16 ∧ in64 c.c32 ∧ (0 ≤ c.sram ∧ c.sram ≤ 4096) ∧ (0 ≤ c.tcam ∧ c.tcam ≤ 4096) then 0 else 9
structure AllocS where
  u0 : Int
  u1 : Int
  u2 : Int
  op : SlotD
def takeC (c : ChipD) (s : AllocS) (w : Int) : Option (Int × Int × AllocS) :=
  if w ≤ 8 ∧ s.u0 < c.c8 then some (8, s.u0, ⟨s.u0 + 1, s.u1, s.u2, s.op⟩)
  else if w ≤ 16 ∧ s.u1 < c.c16 then some (16, s.u1, ⟨s.u0, s.u1 + 1, s.u2, s.op⟩)
  else if w ≤ 32 ∧ s.u2 < c.c32 then some (32, s.u2, ⟨s.u0, s.u1, s.u2 + 1, s.op⟩)
  else none
def stepC (c : ChipD) (s : AllocS) (w : Int) : Option (SlotD × AllocS) :=
  if w = 1 ∧ s.op.off < s.op.size then some (s.op, ⟨s.u0, s.u1, s.u2, ⟨s.op.size, s.op.index, s.op.off + 1, s.op.width⟩⟩)
  else match takeC c s w with
    | none => none
    | some (z, n, t) => some (⟨z, n, 0, w⟩, if w = 1 then ⟨t.u0, t.u1, t.u2, ⟨z, n, 1, w⟩⟩ else t)
def runC (c : ChipD) : AllocS → List Int → Option (List SlotD)
  | _, [] => some []
  | s, w :: ws => match stepC c s w with
    | none => none
    | some (x, t) => match runC c t ws with
      | none => none
      | some l => some (x :: l)
def slot0 : SlotD := ⟨0, 0, 0, 0⟩
def alloc0 : AllocS := ⟨0, 0, 0, slot0⟩
def slotsM (c : ChipD) (ws : List Int) (n : Nat) : Option (List SlotD) := runC c alloc0 (ws ++ List.replicate n 1)
def usedOf (s : AllocS) (z : Int) : Int := if z = 8 then s.u0 else if z = 16 then s.u1 else s.u2
def chipOf (c : ChipD) (z : Int) : Int := if z = 8 then c.c8 else if z = 16 then c.c16 else c.c32
def Apart (x y : SlotD) : Prop := ¬ (x.size = y.size ∧ x.index = y.index ∧ x.off < y.off + y.width ∧ y.off < x.off + x.width)
theorem Apart.symm {x y : SlotD} (h : Apart x y) : Apart y x := fun ⟨a, b, c, d⟩ => h ⟨a.symm, b.symm, d, c⟩
structure AInv (c : ChipD) (s : AllocS) : Prop where
  u0 : 0 ≤ s.u0 ∧ s.u0 ≤ c.c8
  u1 : 0 ≤ s.u1 ∧ s.u1 ≤ c.c16
  u2 : 0 ≤ s.u2 ∧ s.u2 ≤ c.c32
  op : s.op = slot0 ∨ ((s.op.size = 8 ∨ s.op.size = 16 ∨ s.op.size = 32) ∧ 0 ≤ s.op.index ∧ s.op.index < usedOf s s.op.size ∧ 1 ≤ s.op.off ∧ s.op.width = 1)
structure Past (s : AllocS) (x : SlotD) : Prop where
  used : x.index < usedOf s x.size
  op : x.size = s.op.size → x.index = s.op.index → x.off + x.width ≤ s.op.off
theorem take_cases {c : ChipD} {s : AllocS} {w z n : Int} {t : AllocS} (h : takeC c s w = some (z, n, t)) :
    (z = 8 ∧ w ≤ 8 ∧ n = s.u0 ∧ s.u0 < c.c8 ∧ t = ⟨s.u0 + 1, s.u1, s.u2, s.op⟩) ∨ (z = 16 ∧ w ≤ 16 ∧ n = s.u1 ∧ s.u1 < c.c16 ∧ t = ⟨s.u0, s.u1 + 1, s.u2, s.op⟩) ∨ (z = 32 ∧ w ≤ 32 ∧ n = s.u2 ∧ s.u2 < c.c32 ∧ t = ⟨s.u0, s.u1, s.u2 + 1, s.op⟩) := by
  unfold takeC at h
  split at h
  · rename_i h1; cases h; exact .inl ⟨rfl, h1.1, rfl, h1.2, rfl⟩
  split at h
  · rename_i h1; cases h; exact .inr (.inl ⟨rfl, h1.1, rfl, h1.2, rfl⟩)
  split at h
  · rename_i h1; cases h; exact .inr (.inr ⟨rfl, h1.1, rfl, h1.2, rfl⟩)
  cases h
structure Given (c : ChipD) (w : Int) (x : SlotD) : Prop where
  size : x.size = 8 ∨ x.size = 16 ∨ x.size = 32
  index : 0 ≤ x.index ∧ x.index < chipOf c x.size
  off : 0 ≤ x.off
  width : x.width = w
  fits : x.off + x.width ≤ x.size
theorem step_inv {c : ChipD} {s : AllocS} {w : Int} {x : SlotD} {t : AllocS} (hw : 1 ≤ w) (hI : AInv c s) (h : stepC c s w = some (x, t)) :
    AInv c t ∧ Past t x ∧ Given c w x ∧ ∀ y, 1 ≤ y.width → (y.size = 8 ∨ y.size = 16 ∨ y.size = 32) → Past s y → Past t y ∧ Apart y x := by
  obtain ⟨i0, i1, i2, io⟩ := hI
  unfold stepC at h
  split at h
  · rename_i h1
    obtain ⟨rfl, hlt⟩ := h1
    cases h
    rcases io with e | ⟨hz, hn, hu, ho, hwd⟩
    · rw [e] at hlt
      exact absurd hlt (by decide)
    · refine ⟨⟨i0, i1, i2, .inr ⟨hz, hn, hu, by show (1 : Int) ≤ _ + 1; omega, hwd⟩⟩, ⟨hu, fun _ _ => by show s.op.off + s.op.width ≤ s.op.off + 1; omega⟩, ⟨hz, ⟨hn, ?_⟩, by omega, hwd, by omega⟩, fun y hy1 hyz hy => ⟨⟨hy.used, fun a b => by have := hy.op a b; show y.off + y.width ≤ s.op.off + 1; omega⟩, ?_⟩⟩
      · unfold usedOf at hu
        unfold chipOf
        rcases hz with e | e | e <;> rw [e] at hu ⊢ <;> simp at hu ⊢ <;> omega
      · rintro ⟨a, b, c', d⟩
        have := hy.op a b
        omega
  · rcases ht : takeC c s w with _ | ⟨z, n, u⟩
    · rw [ht] at h; cases h
    · rw [ht] at h
      simp only [Option.some.injEq, Prod.mk.injEq] at h
      obtain ⟨rfl, rfl⟩ := h
      rcases take_cases ht with ⟨rfl, hle, rfl, hlt, rfl⟩ | ⟨rfl, hle, rfl, hlt, rfl⟩ | ⟨rfl, hle, rfl, hlt, rfl⟩
      all_goals
        by_cases h1 : w = 1
        · subst h1
          simp only [if_true]
          refine ⟨⟨by simp only; omega, by simp only; omega, by simp only; omega, .inr ⟨by simp, by simp; omega, by simp [usedOf]; omega, by simp, rfl⟩⟩, ⟨by simp [usedOf]; omega, fun _ _ => by simp⟩, ⟨by simp, ⟨by simp; omega, by simp [chipOf]; omega⟩, by simp, rfl, by simp⟩, fun y hy1 hyz hy => ?_⟩
          have hyu := hy.used
          refine ⟨⟨?_, fun a b => ?_⟩, ?_⟩
          · unfold usedOf at hyu ⊢
            rcases hyz with e | e | e <;> rw [e] at hyu ⊢ <;> simp at hyu ⊢ <;> omega
          · simp only at a b
            unfold usedOf at hyu
            rw [a] at hyu
            simp at hyu
            omega
          · rintro ⟨a, b, _, _⟩
            simp only at a b
            unfold usedOf at hyu
            rw [a] at hyu
            simp at hyu
            omega
        · rw [if_neg h1]
          refine ⟨⟨by simp only; omega, by simp only; omega, by simp only; omega, ?_⟩, ⟨by simp [usedOf]; omega, fun a b => ?_⟩, ⟨by simp, ⟨by simp; omega, by simp [chipOf]; omega⟩, by simp, rfl, by simp; omega⟩, fun y hy1 hyz hy => ?_⟩
          · rcases io with e | ⟨hz, hn, hu, ho, hwd⟩
            · exact .inl e
            · refine .inr ⟨hz, hn, ?_, ho, hwd⟩
              unfold usedOf at hu ⊢
              rcases hz with e | e | e <;> rw [e] at hu ⊢ <;> simp at hu ⊢ <;> omega
          · simp only at a b ⊢
            rcases io with e | ⟨hz, hn, hu, ho, hwd⟩
            · rw [e] at a; exact absurd a (by decide)
            · unfold usedOf at hu
              rw [← a] at hu
              simp at hu
              omega
          · have hyu := hy.used
            refine ⟨⟨?_, hy.op⟩, ?_⟩
            · unfold usedOf at hyu ⊢
              rcases hyz with e | e | e <;> rw [e] at hyu ⊢ <;> simp at hyu ⊢ <;> omega
            · rintro ⟨a, b, _, _⟩
              simp only at a b
              unfold usedOf at hyu
              rw [a] at hyu
              simp at hyu
              omega
theorem alloc0_inv {c : ChipD} (h : chipM c = 0) : AInv c alloc0 := by
  unfold chipM at h
  split at h
  · rename_i h1
    obtain ⟨_, _, _, ⟨h8, _⟩, ⟨h16, _⟩, ⟨h32, _⟩, _⟩ := h1
    exact ⟨⟨by decide, h8⟩, ⟨by decide, h16⟩, ⟨by decide, h32⟩, .inl rfl⟩
  · cases h
def maskS (s : SlotD) : Int := IntKind.u32.wrap ((maskM s.width : Int) * 2 ^ s.off.toNat)
def putI (x : Int) (s : SlotD) (v : Int) : Int := bits .or .u32 (bits .andNot .u32 x (maskS s)) (bits .and .u32 (IntKind.u32.wrap (v * 2 ^ s.off.toNat)) (maskS s))
def getI (x : Int) (s : SlotD) : Int := bits .and .u32 x (maskS s) / 2 ^ s.off.toNat
def getR (x : Int) (s : SlotD) : Int := bits .and .u32 (x / 2 ^ s.off.toNat) (maskM s.width)
def bv (x : Int) : BitVec 32 := BitVec.ofInt 32 x
theorem wrap_nat {n : Nat} (h : n < 2 ^ 32) : IntKind.u32.wrap (n : Int) = n := IntWalk.u32_in _ (by omega)
theorem bits_and32 (x y : Int) : bits .and .u32 x y = ((bv x &&& bv y).toNat : Int) := wrap_nat (bv x &&& bv y).isLt
theorem bv_wrap (x : Int) : bv (IntKind.u32.wrap x) = bv x := by
  rw [IntKind.wrap_u32]
  apply BitVec.eq_of_toNat_eq
  simp only [bv, BitVec.toNat_ofInt]
  congr 1
  exact Int.emod_emod_of_dvd x (Int.dvd_refl _)
theorem bv_get (n i : Nat) : (bv (n : Int)).getLsbD i = (decide (i < 32) && n.testBit i) := by rw [bv, BitVec.ofInt_natCast, BitVec.getLsbD_ofNat]
theorem bv_shift (n o i : Nat) : (bv ((n : Int) * 2 ^ o)).getLsbD i = (decide (i < 32) && (decide (o ≤ i) && n.testBit (i - o))) := by
  have e : (n : Int) * 2 ^ o = ((n * 2 ^ o : Nat) : Int) := by simp
  rw [e, bv_get, ← Nat.shiftLeft_eq, Nat.testBit_shiftLeft]
theorem slot_nat {s : SlotD} (h : validS s = true) : ∃ o w : Nat, s.off = o ∧ s.width = w ∧ s.off.toNat = o ∧ o + w ≤ 32 ∧ 1 ≤ w ∧ maskM s.width = 2 ^ w - 1 := by
  obtain ⟨hz, _, _, ho, hw, hws, hos⟩ := validS_iff.1 h
  refine ⟨s.off.toNat, s.width.toNat, by omega, by omega, rfl, by omega, by omega, ?_⟩
  rw [maskM, if_pos]
  simp only [okW, Bool.and_eq_true, decide_eq_true_eq]
  omega
theorem mask_get {s : SlotD} {o w : Nat} (ho : s.off.toNat = o) (hm : maskM s.width = 2 ^ w - 1) (hle : o + w ≤ 32) (i : Nat) : (bv (maskS s)).getLsbD i = (decide (o ≤ i) && decide (i < o + w)) := by
  rw [maskS, bv_wrap, ho, hm, bv_shift, Nat.testBit_two_pow_sub_one]
  rw [Bool.eq_iff_iff]
  simp only [Bool.and_eq_true, decide_eq_true_eq]
  omega
theorem getI_bit {s : SlotD} {o w : Nat} (ho : s.off.toNat = o) (hm : maskM s.width = 2 ^ w - 1) (hle : o + w ≤ 32) (x : Int) : ∃ n : Nat, getI x s = n ∧ ∀ i, n.testBit i = ((bv x).getLsbD (o + i) && decide (i < w)) := by
  refine ⟨(bv x &&& bv (maskS s)).toNat / 2 ^ o, ?_, fun i => ?_⟩
  · rw [getI, bits_and32, ho]; simp
  · rw [Nat.testBit_div_two_pow, Nat.add_comm i o, BitVec.testBit_toNat, BitVec.getLsbD_and, mask_get ho hm hle]
    congr 1
    rw [Bool.eq_iff_iff]
    simp only [Bool.and_eq_true, decide_eq_true_eq]
    omega
theorem int_bits {a b : Int} {n m : Nat} (ha : a = n) (hb : b = m) (h : ∀ i, n.testBit i = m.testBit i) : a = b := by rw [ha, hb, Nat.eq_of_testBit_eq h]
theorem getR_eq {s : SlotD} (h : validS s = true) {x : Int} (hx : 0 ≤ x ∧ x ≤ 4294967295) : getR x s = getI x s := by
  obtain ⟨o, w, h1, h2, ho, hle, hw1, hm⟩ := slot_nat h
  obtain ⟨n, hn, hb⟩ := getI_bit ho hm hle x
  obtain ⟨X, rfl⟩ : ∃ X : Nat, x = X := ⟨x.toNat, by omega⟩
  refine int_bits (n := (bv ((X / 2 ^ o : Nat) : Int) &&& bv ((2 ^ w - 1 : Nat) : Int)).toNat) ?_ hn fun i => ?_
  · rw [getR, bits_and32, ho, hm]; simp
  · rw [hb, BitVec.testBit_toNat, BitVec.getLsbD_and, bv_get, bv_get, bv_get, Nat.testBit_div_two_pow, Nat.testBit_two_pow_sub_one]
    rw [Bool.eq_iff_iff]
    simp only [Bool.and_eq_true, decide_eq_true_eq]
    constructor
    · rintro ⟨⟨a, b⟩, c, d⟩; exact ⟨⟨by omega, by rw [Nat.add_comm]; exact b⟩, d⟩
    · rintro ⟨⟨a, b⟩, d⟩; exact ⟨⟨by omega, by rw [Nat.add_comm]; exact b⟩, by omega, d⟩
theorem getI_range {s : SlotD} (h : validS s = true) (x : Int) : 0 ≤ getI x s ∧ getI x s ≤ maskM s.width := by
  obtain ⟨o, w, h1, h2, ho, hle, hw1, hm⟩ := slot_nat h
  obtain ⟨n, hn, hb⟩ := getI_bit ho hm hle x
  have hlt : n < 2 ^ w := Nat.lt_pow_two_of_testBit n fun i hi => by
    rw [hb]
    simp [Nat.not_lt.2 hi]
  rw [hn, hm]
  omega
structure ConM where
  c8 : List Int
  c16 : List Int
  c32 : List Int
def ofC (c : ConM) (z : Int) : List Int := if z = 8 then c.c8 else if z = 16 then c.c16 else c.c32
def setC (c : ConM) (z : Int) (l : List Int) : ConM := if z = 8 then ⟨l, c.c16, c.c32⟩ else if z = 16 then ⟨c.c8, l, c.c32⟩ else ⟨c.c8, c.c16, l⟩
def putC (c : ConM) (s : SlotD) (v : Int) : ConM := setC c s.size ((ofC c s.size).set s.index.toNat (putI ((ofC c s.size).getD s.index.toNat 0) s v))
def getC (c : ConM) (s : SlotD) : Int := if validS s = true ∧ s.index < ((ofC c s.size).length : Int) then getI ((ofC c s.size).getD s.index.toNat 0) s else 0
theorem ofC_setC {c : ConM} {z y : Int} {l : List Int} (hz : z = 8 ∨ z = 16 ∨ z = 32) (hy : y = 8 ∨ y = 16 ∨ y = 32) : ofC (setC c z l) y = if y = z then l else ofC c y := by
  rcases hz with rfl | rfl | rfl <;> rcases hy with rfl | rfl | rfl <;> rfl
theorem sizes_of {s : SlotD} (h : validS s = true) : s.size = 8 ∨ s.size = 16 ∨ s.size = 32 := (validS_iff.1 h).1
theorem ofC_putC {c : ConM} {s : SlotD} {v y : Int} (h : validS s = true) (hy : y = 8 ∨ y = 16 ∨ y = 32) : ofC (putC c s v) y = if y = s.size then (ofC c s.size).set s.index.toNat (putI ((ofC c s.size).getD s.index.toNat 0) s v) else ofC c y := by
  rw [putC, ofC_setC (sizes_of h) hy]
theorem put_len {c : ConM} {s : SlotD} {v y : Int} (h : validS s = true) (hy : y = 8 ∨ y = 16 ∨ y = 32) : (ofC (putC c s v) y).length = (ofC c y).length := by
  rw [ofC_putC h hy]
  split
  · rename_i e; rw [List.length_set, e]
  · rfl
def countM (l : List SlotD) (z : Int) : Nat := l.foldl (fun n s => if validS s = true ∧ s.size = z then max n (s.index.toNat + 1) else n) 0
theorem count_snoc (l : List SlotD) (s : SlotD) (z : Int) : countM (l ++ [s]) z = if validS s = true ∧ s.size = z then max (countM l z) (s.index.toNat + 1) else countM l z := by
  rw [countM, List.foldl_append]; rfl
theorem fold_grow (z : Int) : ∀ (l : List SlotD) (n : Nat), n ≤ l.foldl (fun n s => if validS s = true ∧ s.size = z then max n (s.index.toNat + 1) else n) n
  | [], n => Nat.le_refl _
  | s :: l, n => by
    rw [List.foldl_cons]
    refine Nat.le_trans ?_ (fold_grow z l _)
    split
    · omega
    · exact Nat.le_refl _
theorem count_gt_from {s : SlotD} (h : validS s = true) : ∀ (l : List SlotD) (n : Nat), s ∈ l → s.index.toNat < l.foldl (fun n t => if validS t = true ∧ t.size = s.size then max n (t.index.toNat + 1) else n) n
  | t :: l, n, hm => by
    rw [List.foldl_cons]
    rcases List.mem_cons.1 hm with rfl | hm
    · refine Nat.lt_of_lt_of_le ?_ (fold_grow s.size l _)
      rw [if_pos ⟨h, rfl⟩]; omega
    · exact count_gt_from h l _ hm
theorem count_gt {l : List SlotD} {s : SlotD} (h : validS s = true) (hm : s ∈ l) : s.index.toNat < countM l s.size := count_gt_from h l 0 hm
theorem fold_le (z : Int) : ∀ (l : List SlotD) (n : Nat), n ≤ 64 → l.foldl (fun n s => if validS s = true ∧ s.size = z then max n (s.index.toNat + 1) else n) n ≤ 64
  | [], n, h => h
  | s :: l, n, h => by
    rw [List.foldl_cons]
    refine fold_le z l _ ?_
    split
    · rename_i h1
      have := validS_iff.1 h1.1
      omega
    · exact h
theorem count_le (l : List SlotD) (z : Int) : countM l z ≤ 64 := fold_le z l 0 (by decide)
def con0 (l : List SlotD) : ConM := ⟨List.replicate (countM l 8) 0, List.replicate (countM l 16) 0, List.replicate (countM l 32) 0⟩
theorem con0_len {l : List SlotD} {z : Int} (hz : z = 8 ∨ z = 16 ∨ z = 32) : (ofC (con0 l) z).length = countM l z := by
  rcases hz with rfl | rfl | rfl <;> simp [ofC, con0]
def loadK (l : List SlotD) (vs : List Int) : Nat → ConM
  | 0 => con0 l
  | k + 1 => match l[k]? with
    | none => loadK l vs k
    | some s => if validS s = true then putC (loadK l vs k) s (vs.getD k 0) else loadK l vs k
def loadM (l : List SlotD) (vs : List Int) : ConM := loadK l vs l.length
theorem loadK_at (l : List SlotD) (vs : List Int) (k : Nat) (h : k < l.length) : loadK l vs (k + 1) = if validS l[k] = true then putC (loadK l vs k) l[k] (vs.getD k 0) else loadK l vs k := by
  rw [loadK, List.getElem?_eq_getElem h]
theorem loadK_len (l : List SlotD) (vs : List Int) {z : Int} (hz : z = 8 ∨ z = 16 ∨ z = 32) : ∀ k, (ofC (loadK l vs k) z).length = countM l z
  | 0 => con0_len hz
  | k + 1 => by
    rw [loadK]
    split
    · exact loadK_len l vs hz k
    · split
      · rename_i h; rw [put_len h hz]; exact loadK_len l vs hz k
      · exact loadK_len l vs hz k
structure EnvP where
  valid : List Bool
  fields : List (List Int)
  metaV : List Int
  payload : List Int
def stateE (p : ProgD) (a : Nat → Bool) (b : Nat → Nat → Int) (m : Nat → Int) (pl : List Int) : EnvP :=
  ⟨(List.range p.headers.l.length).map a, (List.range p.headers.l.length).map fun h => (List.range (nF p h)).map (b h), (List.range p.metadata.l.length).map m, pl⟩
theorem stateE_congr {p : ProgD} {a a' : Nat → Bool} {b b' : Nat → Nat → Int} {m m' : Nat → Int} {pl : List Int} (ha : ∀ h, h < p.headers.l.length → a h = a' h) (hb : ∀ h, h < p.headers.l.length → ∀ f, f < nF p h → b h f = b' h f) (hm : ∀ f, f < p.metadata.l.length → m f = m' f) : stateE p a b m pl = stateE p a' b' m' pl := by
  unfold stateE
  congr 1
  · exact List.map_congr_left fun h hh => ha h (List.mem_range.1 hh)
  · exact List.map_congr_left fun h hh => List.map_congr_left fun f hf => hb h (List.mem_range.1 hh) f (List.mem_range.1 hf)
  · exact List.map_congr_left fun f hf => hm f (List.mem_range.1 hf)
theorem range_set {α : Type} (g : Nat → α) (n k : Nat) (v : α) : ((List.range n).map g).set k v = (List.range n).map fun i => if i = k then v else g i := by
  refine List.ext_getElem? fun i => ?_
  by_cases hi : i < n
  · by_cases e : i = k
    · subst e; rw [List.getElem?_set_self (by simpa using hi)]; simp [hi]
    · rw [List.getElem?_set_ne (by omega)]; simp [hi, e]
  · rw [List.getElem?_eq_none (by simp; omega), List.getElem?_eq_none (by simp; omega)]
def getE (e : EnvP) (h f : Int) : Int :=
  if h = -1 then (if f < 0 then 0 else e.metaV.getD f.toNat 0)
  else if h < 0 ∨ f < 0 then 0 else if e.valid.getD h.toNat false = true then (e.fields.getD h.toNat []).getD f.toNat 0 else 0
def newE (p : ProgD) : EnvP := stateE p (fun _ => false) (fun _ _ => 0) (fun _ => 0) []
def setE (p : ProgD) (e : EnvP) (h f v : Int) : EnvP :=
  if widthAt p h f = 0 ∨ f < 0 then e
  else if h = -1 then ⟨e.valid, e.fields, e.metaV.set f.toNat (bits .and .u32 v (maskM (widthAt p h f))), e.payload⟩
  else if h < 0 then e
  else if e.valid.getD h.toNat false = true then ⟨e.valid, e.fields.set h.toNat ((e.fields.getD h.toNat []).set f.toNat (bits .and .u32 v (maskM (widthAt p h f)))), e.metaV, e.payload⟩
  else e
def addE (p : ProgD) (e : EnvP) (h : Nat) : EnvP :=
  if h < p.headers.l.length ∧ e.valid[h]? = some false then ⟨e.valid.set h true, e.fields.set h (List.replicate (e.fields.getD h []).length 0), e.metaV, e.payload⟩ else e
theorem state_valid {p : ProgD} {a b m pl} {k : Nat} (hk : k < p.headers.l.length) : (stateE p a b m pl).valid[k]? = some (a k) := by simp [stateE, hk]
theorem add_state {p : ProgD} {a b m pl} {k : Nat} (hk : k < p.headers.l.length) (h0 : a k = false → ∀ f, f < nF p k → b k f = 0) : addE p (stateE p a b m pl) k = stateE p (fun i => if i = k then true else a i) b m pl := by
  rw [addE, state_valid hk]
  cases hak : a k with
  | true =>
    rw [if_neg (by simp)]
    refine stateE_congr (fun h hh => ?_) (fun _ _ _ _ => rfl) (fun _ _ => rfl)
    split
    · rename_i e; rw [e, hak]
    · rfl
  | false =>
    rw [if_pos ⟨hk, rfl⟩]
    unfold stateE
    congr 1
    · exact range_set _ _ _ _
    · rw [range_set]
      refine List.map_congr_left fun h hh => ?_
      split
      · rename_i e
        subst e
        simp only [List.getD_eq_getElem?_getD, List.getElem?_map, List.getElem?_range hk, Option.map_some, Option.getD_some, List.length_map, List.length_range]
        refine List.ext_getElem? fun i => ?_
        by_cases hi : i < nF p h
        · simp [hi, h0 hak i hi]
        · rw [List.getElem?_eq_none (by simp; omega), List.getElem?_eq_none (by simp; omega)]
      · rfl
theorem set_fld {p : ProgD} {a b m pl} {k f : Nat} (hk : k < p.headers.l.length) (v : Int) :
    setE p (stateE p a b m pl) k f v = stateE p a (fun i j => if i = k ∧ j = f ∧ a k = true ∧ widthAt p k f ≠ 0 then bits .and .u32 v (maskM (widthAt p k f)) else b i j) m pl := by
  rw [setE]
  by_cases hw : widthAt p k f = 0
  · rw [if_pos (.inl hw)]
    exact stateE_congr (fun _ _ => rfl) (fun i _ j _ => by rw [if_neg (fun h => h.2.2.2 hw)]) (fun _ _ => rfl)
  · rw [if_neg (by omega), if_neg (by omega), if_neg (by omega)]
    have e1 : (stateE p a b m pl).valid.getD (k : Int).toNat false = a k := by
      rw [List.getD_eq_getElem?_getD, show (k : Int).toNat = k by omega, state_valid hk]; rfl
    rw [e1]
    by_cases ha : a k = true
    · rw [if_pos ha]
      unfold stateE
      congr 1
      simp only [show (k : Int).toNat = k by omega, show (f : Int).toNat = f by omega]
      rw [range_set]
      refine List.map_congr_left fun h hh => ?_
      split
      · rename_i e
        subst e
        simp only [List.getD_eq_getElem?_getD, List.getElem?_map, List.getElem?_range hk, Option.map_some, Option.getD_some]
        rw [range_set]
        refine List.map_congr_left fun j hj => ?_
        by_cases e : j = f
        · rw [if_pos e, if_pos (by first | exact ⟨trivial, e, ha, hw⟩ | exact ⟨rfl, e, ha, hw⟩)]
        · rw [if_neg e, if_neg (fun h => e h.2.1)]
      · rename_i e
        exact List.map_congr_left fun j hj => by rw [if_neg (fun h => e h.1)]
    · rw [if_neg ha]
      exact stateE_congr (fun _ _ => rfl) (fun i _ j _ => by rw [if_neg (fun h => ha h.2.2.1)]) (fun _ _ => rfl)
theorem set_meta {p : ProgD} {a b m pl} {f : Nat} (v : Int) :
    setE p (stateE p a b m pl) (-1) f v = stateE p a b (fun j => if j = f ∧ widthAt p (-1) f ≠ 0 then bits .and .u32 v (maskM (widthAt p (-1) f)) else m j) pl := by
  rw [setE]
  by_cases hw : widthAt p (-1) f = 0
  · rw [if_pos (.inl hw)]
    exact stateE_congr (fun _ _ => rfl) (fun _ _ _ _ => rfl) (fun j _ => by rw [if_neg (fun h => h.2 hw)])
  · rw [if_neg (by omega), if_pos rfl]
    unfold stateE
    congr 1
    simp only [show (f : Int).toNat = f by omega]
    rw [range_set]
    refine List.map_congr_left fun j hj => ?_
    by_cases e : j = f
    · rw [if_pos e, if_pos ⟨e, hw⟩]
    · rw [if_neg e, if_neg (fun h => e h.1)]
def bitI (b : Bool) : Int := if b = true then 1 else 0
def valsM (p : ProgD) (e : EnvP) : List Int := cellsOf p (getE e) (fun h => bitI (e.valid.getD h false))
theorem vals_len (p : ProgD) (e : EnvP) : (valsM p e).length = cellsN p := cells_len _ _ _
def heldM (l : List SlotD) (c : ConM) (i : Nat) : Int := match l[i]? with
  | none => 0
  | some s => getC c s
def cutV (w v : Int) : Int := if w = 0 then 0 else bits .and .u32 v (maskM w)
def storeM (p : ProgD) (l : List SlotD) (c : ConM) (pl : List Int) : EnvP :=
  stateE p (fun h => decide (heldM l c (fN p + h) ≠ 0)) (fun h f => if heldM l c (fN p + h) ≠ 0 then cutV (widthAt p h f) (heldM l c (preF p h + f)) else 0) (fun f => cutV (widthAt p (-1) f) (heldM l c (fN p + p.headers.l.length + f))) pl
def bitsOutM (p : ProgD) (l : List SlotD) (c : ConM) : List Bool := (l.drop (cellsN p)).map fun s => decide (getC c s ≠ 0)
def bcell (b : Bool) : List Value := [.bool b]
def lcell (x : L Int) : List Value := [x.v]
def ycell (n : Int) : List Value := [.int .u8 n]
theorem one_bcell : ∀ u, ∀ c ∈ bcell u, c.oneCell' = true := by
  intro u c hc
  simp [bcell] at hc; subst hc; rfl
theorem one_ucell : ∀ u, ∀ c ∈ ucell u, c.oneCell' = true := by
  intro u c hc
  simp [ucell] at hc; subst hc; rfl
theorem one_ycell : ∀ u, ∀ c ∈ ycell u, c.oneCell' = true := by
  intro u c hc
  simp [ycell] at hc; subst hc; rfl
structure EnvD where
  valid : L Bool
  fields : L (L Int)
  metaV : L Int
  payload : L Int
@[reducible] def envCells (e : EnvD) : Array Value := #[.slice e.valid.A e.valid.l.length e.valid.c, .slice e.fields.A e.fields.l.length e.fields.c, .slice e.metaV.A e.metaV.l.length e.metaV.c, .slice e.payload.A e.payload.l.length e.payload.c]
def EnvD.bare (e : EnvD) : EnvP := ⟨e.valid.l, e.fields.l.map L.l, e.metaV.l, e.payload.l⟩
def LOkN (w : World) (k : Nat) {α : Type} (cells : α → List Value) (x : L α) : Prop := LOk w k cells x ∧ (x.A = none → x.c = 0)
theorem LOkN.below {w w' : World} {k : Nat} {α : Type} {cells : α → List Value} {x : L α} (h : LOkN w k cells x) (hb : Below w.heap.size w w') : LOkN w' k cells x := ⟨h.1.below hb (Nat.le_refl _), h.2⟩
structure EnvOk (w : World) (e : EnvD) : Prop where
  valid : LOkN w 1 bcell e.valid
  fields : LOkN w 1 lcell e.fields
  each : ∀ x ∈ e.fields.l, LOkN w 1 ucell x
  metaV : LOkN w 1 ucell e.metaV
  payload : LOkN w 1 ycell e.payload
theorem EnvOk.below {w w' : World} {e : EnvD} (o : EnvOk w e) (hb : Below w.heap.size w w') : EnvOk w' e :=
  ⟨o.valid.below hb, o.fields.below hb, fun x hx => (o.each x hx).below hb, o.metaV.below hb, o.payload.below hb⟩
structure EnvFit (e : EnvP) : Prop where
  valid : e.valid.length ≤ 1000
  fields : e.fields.length ≤ 1000
  each : ∀ x ∈ e.fields, x.length ≤ 1000
  metaV : e.metaV.length ≤ 1000
  payload : e.payload.length ≤ 1000
theorem bcell_at {w : World} {x : L Bool} (h : LOk w 1 bcell x) {i : Nat} (hi : i < x.l.length) : ∃ g o, x.A = some ⟨g, o, none⟩ ∧ w.cell? ⟨g, o + i, none⟩ = some (.bool x.l[i]) := by
  obtain ⟨g, o, e, _, hc⟩ := h.at hi
  exact ⟨g, o, e, by have := hc 0 (by omega); rw [Nat.mul_one] at this; exact this⟩
theorem lcell_at {w : World} {x : L (L Int)} (h : LOk w 1 lcell x) {i : Nat} (hi : i < x.l.length) : ∃ g o, x.A = some ⟨g, o, none⟩ ∧ w.cell? ⟨g, o + i, none⟩ = some (.slice x.l[i].A x.l[i].l.length x.l[i].c) := by
  obtain ⟨g, o, e, _, hc⟩ := h.at hi
  exact ⟨g, o, e, by have := hc 0 (by omega); rw [Nat.mul_one] at this; exact this⟩
theorem ycell_at {w : World} {x : L Int} (h : LOk w 1 ycell x) {i : Nat} (hi : i < x.l.length) : ∃ g o, x.A = some ⟨g, o, none⟩ ∧ w.cell? ⟨g, o + i, none⟩ = some (.int .u8 x.l[i]) := by
  obtain ⟨g, o, e, _, hc⟩ := h.at hi
  exact ⟨g, o, e, by have := hc 0 (by omega); rw [Nat.mul_one] at this; exact this⟩
theorem bcell_atA {w : World} {x : L Bool} (h : LOk w 1 bcell x) {i : Nat} (hi : i < x.l.length) : ∃ g o, x.A = some ⟨g, o, none⟩ ∧ ∀ w', Below w.heap.size w w' → w'.cell? ⟨g, o + i, none⟩ = some (.bool x.l[i]) := by
  obtain ⟨g, o, e, d0⟩ := bcell_at h hi
  exact ⟨g, o, e, fun w' hb => below_cell hb d0⟩
theorem lcell_atA {w : World} {x : L (L Int)} (h : LOk w 1 lcell x) {i : Nat} (hi : i < x.l.length) : ∃ g o, x.A = some ⟨g, o, none⟩ ∧ ∀ w', Below w.heap.size w w' → w'.cell? ⟨g, o + i, none⟩ = some (.slice x.l[i].A x.l[i].l.length x.l[i].c) := by
  obtain ⟨g, o, e, d0⟩ := lcell_at h hi
  exact ⟨g, o, e, fun w' hb => below_cell hb d0⟩
def OwnL (w : World) (B : Nat) (t : TypeId) {α : Type} (cells : α → List Value) (x : L α) : Prop := w.ownsRow B t 1 x.v x.l.length (x.l.flatMap cells)
section
variable {w w' : World} {B : Nat} {t : TypeId} {α : Type} {cells : α → List Value} {x : L α}
theorem OwnL.ok (hk : ∀ u, (cells u).length = 1) (h : OwnL w B t cells x) : LOkN w 1 cells x := by
  obtain ⟨l, A, c⟩ := x
  obtain ⟨A', c', e, _, ho, hn, _⟩ := own_list (l := l) hk h
  cases e
  exact ⟨ho, hn⟩
theorem OwnL.below (h : OwnL w B t cells x) (hb : Below w.heap.size w w') : OwnL w' B t cells x := own_below h hb
theorem OwnL.lower {B' : Nat} (h : OwnL w B t cells x) (hB : B' ≤ B) : OwnL w B' t cells x := by
  refine ⟨h.1, ?_⟩
  rcases h.2 with h0 | ⟨g, cap, cur, e, hbg, hr⟩
  · exact .inl h0
  · exact .inr ⟨g, cap, cur, e, Nat.le_trans hB hbg, hr⟩
theorem OwnL.grown {row : Option Nat} (h : OwnL w B t cells x) (hg : w.grownBy w' row) (hne : ∀ g, x.v.ownBlock = some g → row ≠ some g) : OwnL w' B t cells x := by
  refine World.ownsRow.kept h hg ?_
  rcases hx : x.v.ownBlock with _ | g
  · exact .inl rfl
  · exact .inr (fun e => hne g hx e.symm)
theorem OwnL.far {p : Addr} (h : OwnL w B t cells x) (v : Value) (hne : x.v.ownBlock ≠ some p.block) : OwnL (w.setCell p v) B t cells x := by
  refine ⟨h.1, ?_⟩
  rcases h.2 with h0 | ⟨g, cap, cur, e, hbg, hg, hr⟩
  · exact .inl h0
  · refine .inr ⟨g, cap, cur, e, hbg, (Below.heap_setCell w p v g ?_).trans hg, hr⟩
    intro he
    apply hne
    rw [e, ← he]; rfl
theorem OwnL.at (h : OwnL w B t cells x) (h0 : x.l ≠ []) : ∃ g, x.A = some ⟨g, 0, none⟩ ∧ B ≤ g ∧ g < w.heap.size := by
  rcases h.2 with ⟨e, hz⟩ | ⟨g, cap, cur, e, hbg, hg, _⟩
  · exact absurd (List.eq_nil_of_length_eq_zero hz) h0
  · simp only [L.v, Value.slice.injEq] at e
    exact ⟨g, e.1, hbg, (Array.getElem?_eq_some_iff.1 hg).1⟩
theorem OwnL.lt (h : OwnL w B t cells x) : ∀ g, x.v.ownBlock = some g → B ≤ g ∧ g < w.heap.size := own_lt h
end
theorem OwnL.put {w : World} {B : Nat} {t : TypeId} {α : Type} {cells : α → List Value} {l : List α} {g c : Nat} (cell : α → Value) (hk : ∀ u, cells u = [cell u]) (h : OwnL w B t cells ⟨l, some ⟨g, 0, none⟩, c⟩) (i : Nat) (a : α) :
    OwnL (w.setCell ⟨g, i, none⟩ (cell a)) B t cells ⟨l.set i a, some ⟨g, 0, none⟩, c⟩ := by
  have h1 := (World.ownsRow.stored (w := w) (base := B) (e := t) (size := 1) (g := g) (n := l.length) (cap := c) (xs := l.flatMap cells) h i (cell a)).1
  have e : ∀ l : List α, l.flatMap cells = l.map cell := fun l => by
    induction l with
    | nil => rfl
    | cons y l ih => rw [List.flatMap_cons, hk, List.map_cons, ih]; rfl
  unfold OwnL
  simp only [L.v, List.length_set]
  rw [e, List.map_set, ← e]
  exact h1
theorem OwnL.frozen {w : World} {B : Nat} {t : TypeId} {α : Type} {cells : α → List Value} {l : List α} {g c : Nat} (h : OwnL w B t cells ⟨l, some ⟨g, 0, none⟩, c⟩) (i : Nat) : w.frozen? ⟨g, i, none⟩ = false :=
  World.ownsRow.frozenAt (w := w) (base := B) (e := t) (size := 1) (g := g) (n := l.length) (cap := c) (xs := l.flatMap cells) h i
structure EnvOwn (w : World) (B : Nat) (e : EnvD) : Prop where
  valid : OwnL w B 4 bcell e.valid
  fields : OwnL w B 53 lcell e.fields
  each : ∀ x ∈ e.fields.l, OwnL w B 83 ucell x
  metaV : OwnL w B 83 ucell e.metaV
  payload : OwnL w B 5 ycell e.payload
  apart : ([e.valid.v.ownBlock, e.metaV.v.ownBlock, e.payload.v.ownBlock, e.fields.v.ownBlock] ++ e.fields.l.map fun x => x.v.ownBlock).Pairwise fun a b => ∀ g, a = some g → b ≠ some g
theorem EnvOwn.ok {w : World} {B : Nat} {e : EnvD} (o : EnvOwn w B e) : EnvOk w e :=
  ⟨o.valid.ok (fun _ => rfl), o.fields.ok (fun _ => rfl), fun x hx => (o.each x hx).ok (fun _ => rfl), o.metaV.ok (fun _ => rfl), o.payload.ok (fun _ => rfl)⟩
theorem EnvOwn.below {w w' : World} {B : Nat} {e : EnvD} (o : EnvOwn w B e) (hb : Below w.heap.size w w') : EnvOwn w' B e :=
  ⟨o.valid.below hb, o.fields.below hb, fun x hx => (o.each x hx).below hb, o.metaV.below hb, o.payload.below hb, o.apart⟩
theorem info_bool : (Tryz.prog.info? 4).map (fun i => (i.zero, i.size, i.bytes)) = some (some (.bool false), 1, 1) := by kernel_rfl
theorem info_u32 : (Tryz.prog.info? 83).map (fun i => (i.zero, i.size, i.bytes)) = some (some (.int .u32 0), 1, 4) := by kernel_rfl
theorem info_u8 : (Tryz.prog.info? 5).map (fun i => (i.zero, i.size, i.bytes)) = some (some (.int .u8 0), 1, 1) := by kernel_rfl
theorem info_u32s : (Tryz.prog.info? 53).map (fun i => (i.zero, i.size, i.bytes)) = some (some (.slice none 0 0), 1, 24) := by kernel_rfl
theorem join_bool (x : L Bool) (g cc : Nat) (w : World) (hg : w.cell? ⟨g, 0, none⟩ = some (.slice x.A x.l.length x.c)) (h : LOkN w 1 bcell x) (hm : x.l.length ≤ 1000) :
    Calls Tryz.prog 159 #[.slice (some ⟨g, 0, none⟩) 1 cc] w fun e w' => ∃ A c, e = .returned (.slice A x.l.length c) ∧ OwnL w' w.heap.size 4 bcell ⟨x.l, A, c⟩ ∧ Below w.heap.size w w' := by
  obtain ⟨l, A0, c0⟩ := x
  have HX := hi_ h
  clear h
  simp only at hg hm
  obtain ⟨i0, hi, hz0, hz1, hz2⟩ := info_parts info_bool
  go_enter Tryz.func159, Tryz.ntmps159
  go_wp2
  refine wp_loop_rounds 2 ?_
  rw [rounds_succ]
  go_wp2_with (first
    | (at_builtin; refine wpList_append_L rfl _ _ 51 rfl w.heap.size 4 i0 _ 1 1 Tryz.underlying51 hi hz0 hz1 hz2 rfl (by decide) _ _ _ rfl (World.ownsRow_nil _ _ _ _) ⟨l, A0, c0⟩ rfl HX.out.1 HX.out.2 (fun _ => rfl) one_bcell ?c1 ?c2 ?c3 ?_))
  case c1 => unfold maxLen; omega
  case c2 => omega
  case c3 => exact Nat.le_refl _
  intro v' w2 hown2 hgrow
  have HB : Below w.heap.size w w2 := grown_below (World.ownsRow_nil w w.heap.size 4 1) hgrow (Nat.le_refl _)
  have HO := hi_ hown2
  clear hown2 hgrow
  go_wp2
  rw [rounds_succ]
  go_wp2
  go_ret
  have hown3 := HO.out
  try simp only [Nat.zero_add, List.nil_append] at hown3
  obtain ⟨A, c, rfl, _⟩ := own_list (cells := bcell) (l := l) (fun _ => rfl) hown3
  exact ⟨A, c, rfl, hown3, HB⟩
theorem join_u32 (x : L Int) (g cc : Nat) (w : World) (hg : w.cell? ⟨g, 0, none⟩ = some (.slice x.A x.l.length x.c)) (h : LOkN w 1 ucell x) (hm : x.l.length ≤ 1000) :
    Calls Tryz.prog 160 #[.slice (some ⟨g, 0, none⟩) 1 cc] w fun e w' => ∃ A c, e = .returned (.slice A x.l.length c) ∧ OwnL w' w.heap.size 83 ucell ⟨x.l, A, c⟩ ∧ Below w.heap.size w w' := by
  obtain ⟨l, A0, c0⟩ := x
  have HX := hi_ h
  clear h
  simp only at hg hm
  obtain ⟨i0, hi, hz0, hz1, hz2⟩ := info_parts info_u32
  go_enter Tryz.func160, Tryz.ntmps160
  go_wp2
  refine wp_loop_rounds 2 ?_
  rw [rounds_succ]
  go_wp2_with (first
    | (at_builtin; refine wpList_append_L rfl _ _ 53 rfl w.heap.size 83 i0 _ 1 4 Tryz.underlying53 hi hz0 hz1 hz2 rfl (by decide) _ _ _ rfl (World.ownsRow_nil _ _ _ _) ⟨l, A0, c0⟩ rfl HX.out.1 HX.out.2 (fun _ => rfl) one_ucell ?c1 ?c2 ?c3 ?_))
  case c1 => unfold maxLen; omega
  case c2 => omega
  case c3 => exact Nat.le_refl _
  intro v' w2 hown2 hgrow
  have HB : Below w.heap.size w w2 := grown_below (World.ownsRow_nil w w.heap.size 83 1) hgrow (Nat.le_refl _)
  have HO := hi_ hown2
  clear hown2 hgrow
  go_wp2
  rw [rounds_succ]
  go_wp2
  go_ret
  have hown3 := HO.out
  try simp only [Nat.zero_add, List.nil_append] at hown3
  obtain ⟨A, c, rfl, _⟩ := own_list (cells := ucell) (l := l) (fun _ => rfl) hown3
  exact ⟨A, c, rfl, hown3, HB⟩
theorem join_u8 (x : L Int) (g cc : Nat) (w : World) (hg : w.cell? ⟨g, 0, none⟩ = some (.slice x.A x.l.length x.c)) (h : LOkN w 1 ycell x) (hm : x.l.length ≤ 1000) :
    Calls Tryz.prog 161 #[.slice (some ⟨g, 0, none⟩) 1 cc] w fun e w' => ∃ A c, e = .returned (.slice A x.l.length c) ∧ OwnL w' w.heap.size 5 ycell ⟨x.l, A, c⟩ ∧ Below w.heap.size w w' := by
  obtain ⟨l, A0, c0⟩ := x
  have HX := hi_ h
  clear h
  simp only at hg hm
  obtain ⟨i0, hi, hz0, hz1, hz2⟩ := info_parts info_u8
  go_enter Tryz.func161, Tryz.ntmps161
  go_wp2
  refine wp_loop_rounds 2 ?_
  rw [rounds_succ]
  go_wp2_with (first
    | (at_builtin; refine wpList_append_L rfl _ _ 54 rfl w.heap.size 5 i0 _ 1 1 Tryz.underlying54 hi hz0 hz1 hz2 rfl (by decide) _ _ _ rfl (World.ownsRow_nil _ _ _ _) ⟨l, A0, c0⟩ rfl HX.out.1 HX.out.2 (fun _ => rfl) one_ycell ?c1 ?c2 ?c3 ?_))
  case c1 => unfold maxLen; omega
  case c2 => omega
  case c3 => exact Nat.le_refl _
  intro v' w2 hown2 hgrow
  have HB : Below w.heap.size w w2 := grown_below (World.ownsRow_nil w w.heap.size 5 1) hgrow (Nat.le_refl _)
  have HO := hi_ hown2
  clear hown2 hgrow
  go_wp2
  rw [rounds_succ]
  go_wp2
  go_ret
  have hown3 := HO.out
  try simp only [Nat.zero_add, List.nil_append] at hown3
  obtain ⟨A, c, rfl, _⟩ := own_list (cells := ycell) (l := l) (fun _ => rfl) hown3
  exact ⟨A, c, rfl, hown3, HB⟩
theorem inB_u32 (x : L Int) (i : Int) (w : World) : Calls Tryz.prog 162 #[.slice x.A x.l.length x.c, .int .i64 i] w fun e w' => e = .returned (.bool (decide (0 ≤ i) && decide (i < (x.l.length : Int)))) ∧ w = w' := by
  by_cases h : 0 ≤ i
  · by_cases h2 : i < (x.l.length : Int)
    all_goals
      have HR := hi_ (show (decide (0 ≤ i) && decide (i < (x.l.length : Int))) = _ from by rw [decide_eq_true h, Bool.true_and])
      go_enter Tryz.func162, Tryz.ntmps162
      go_wp2
      go_ret
      exact ⟨by first | (rw [HR.out]; simp [h2]; done) | (simp [h2]; done) | rfl, rfl⟩
  · have HR : Hid ((decide (0 ≤ i) && decide (i < (x.l.length : Int))) = false) := hi_ (by simp [h])
    go_enter Tryz.func162, Tryz.ntmps162
    go_wp2
    go_ret
    exact ⟨by rw [HR.out]; rfl, rfl⟩
theorem inB_bool (x : L Bool) (i : Int) (w : World) : Calls Tryz.prog 157 #[.slice x.A x.l.length x.c, .int .i64 i] w fun e w' => e = .returned (.bool (decide (0 ≤ i) && decide (i < (x.l.length : Int)))) ∧ w = w' := by
  by_cases h : 0 ≤ i
  · by_cases h2 : i < (x.l.length : Int)
    all_goals
      have HR := hi_ (show (decide (0 ≤ i) && decide (i < (x.l.length : Int))) = _ from by rw [decide_eq_true h, Bool.true_and])
      go_enter Tryz.func157, Tryz.ntmps157
      go_wp2
      go_ret
      exact ⟨by first | (rw [HR.out]; simp [h2]; done) | (simp [h2]; done) | rfl, rfl⟩
  · have HR : Hid ((decide (0 ≤ i) && decide (i < (x.l.length : Int))) = false) := hi_ (by simp [h])
    go_enter Tryz.func157, Tryz.ntmps157
    go_wp2
    go_ret
    exact ⟨by rw [HR.out]; rfl, rfl⟩
theorem inB_hdr (x : L HeaderD) (i : Int) (w : World) : Calls Tryz.prog 156 #[.slice x.A x.l.length x.c, .int .i64 i] w fun e w' => e = .returned (.bool (decide (0 ≤ i) && decide (i < (x.l.length : Int)))) ∧ w = w' := by
  by_cases h : 0 ≤ i
  · by_cases h2 : i < (x.l.length : Int)
    all_goals
      have HR := hi_ (show (decide (0 ≤ i) && decide (i < (x.l.length : Int))) = _ from by rw [decide_eq_true h, Bool.true_and])
      go_enter Tryz.func156, Tryz.ntmps156
      go_wp2
      go_ret
      exact ⟨by first | (rw [HR.out]; simp [h2]; done) | (simp [h2]; done) | rfl, rfl⟩
  · have HR : Hid ((decide (0 ≤ i) && decide (i < (x.l.length : Int))) = false) := hi_ (by simp [h])
    go_enter Tryz.func156, Tryz.ntmps156
    go_wp2
    go_ret
    exact ⟨by rw [HR.out]; rfl, rfl⟩
def atU (x : L (L Int)) (i : Int) : L Int := if i < 0 then ⟨[], none, 0⟩ else (x.l[i.toNat]?).getD ⟨[], none, 0⟩
theorem at_u32s (x : L (L Int)) (i : Int) (w : World) (h : LOk w 1 lcell x) : Calls Tryz.prog 158 #[.slice x.A x.l.length x.c, .int .i64 i] w fun e w' => e = .returned (.slice (atU x i).A (atU x i).l.length (atU x i).c) ∧ w = w' := by
  obtain ⟨l, A, c⟩ := x
  by_cases h1 : i < 0
  · have HR := hi_ (show atU ⟨l, A, c⟩ i = ⟨[], none, 0⟩ by rw [atU, if_pos h1])
    go_enter Tryz.func158, Tryz.ntmps158
    go_wp2
    go_ret
    exact ⟨by rw [HR.out]; rfl, rfl⟩
  · obtain ⟨k, rfl⟩ : ∃ k : Nat, i = k := ⟨i.toNat, by omega⟩
    by_cases h2 : k < l.length
    · obtain ⟨g, o, hA, d0⟩ := lcell_at h h2
      simp only at hA d0
      subst hA
      have HR := hi_ (show atU ⟨l, some ⟨g, o, none⟩, c⟩ k = l[k] by rw [atU, if_neg h1]; simp [h2])
      generalize l[k] = y at *
      obtain ⟨yl, yA, yc⟩ := y
      simp only at d0
      go_enter Tryz.func158, Tryz.ntmps158
      go_wp2
      go_ret
      exact ⟨by rw [HR.out]; rfl, rfl⟩
    · have HR := hi_ (show atU ⟨l, A, c⟩ k = ⟨[], none, 0⟩ by rw [atU, if_neg h1]; simp [List.getElem?_eq_none (Nat.le_of_not_lt h2)])
      go_enter Tryz.func158, Tryz.ntmps158
      go_wp2
      go_ret
      exact ⟨by rw [HR.out]; rfl, rfl⟩
def atB (x : L Bool) (i : Int) : Bool := if i < 0 then false else (x.l[i.toNat]?).getD false
theorem at_bool (x : L Bool) (i : Int) (w : World) (h : LOk w 1 bcell x) : Calls Tryz.prog 163 #[.slice x.A x.l.length x.c, .int .i64 i] w fun e w' => e = .returned (.bool (atB x i)) ∧ w = w' := by
  obtain ⟨l, A, c⟩ := x
  by_cases h1 : i < 0
  · have HR := hi_ (show atB ⟨l, A, c⟩ i = false by rw [atB, if_pos h1])
    go_enter Tryz.func163, Tryz.ntmps163
    go_wp2
    go_ret
    exact ⟨by rw [HR.out]; rfl, rfl⟩
  · obtain ⟨k, rfl⟩ : ∃ k : Nat, i = k := ⟨i.toNat, by omega⟩
    by_cases h2 : k < l.length
    · obtain ⟨g, o, hA, d0⟩ := bcell_at h h2
      simp only at hA d0
      subst hA
      have HR := hi_ (show atB ⟨l, some ⟨g, o, none⟩, c⟩ k = l[k] by rw [atB, if_neg h1]; simp [h2])
      generalize l[k] = y at *
      go_enter Tryz.func163, Tryz.ntmps163
      go_wp2
      go_ret
      exact ⟨by rw [HR.out]; rfl, rfl⟩
    · have HR := hi_ (show atB ⟨l, A, c⟩ k = false by rw [atB, if_neg h1]; simp [List.getElem?_eq_none (Nat.le_of_not_lt h2)])
      go_enter Tryz.func163, Tryz.ntmps163
      go_wp2
      go_ret
      exact ⟨by rw [HR.out]; rfl, rfl⟩
theorem boxC (w : World) (cs : Array Value) (t : TypeId) (cs2 : Array Value) (t2 : TypeId) : ∃ W, W = (w.alloc (.cells cs t)).alloc (.cells cs2 t2) ∧ Below w.heap.size w W ∧ Below W.heap.size W W ∧ W.heap.size = w.heap.size + 2 ∧
    ∀ w', Below W.heap.size W w' → (∀ i, i < cs.size → w'.cell? ⟨w.heap.size, i, none⟩ = cs[i]?) ∧ (∀ i, i < cs2.size → w'.cell? ⟨w.heap.size + 1, i, none⟩ = cs2[i]?) ∧ (∀ i, w'.frozen? ⟨w.heap.size, i, none⟩ = false) ∧ (∀ i, w'.frozen? ⟨w.heap.size + 1, i, none⟩ = false) ∧ Blk w' (w.heap.size + 1) t2 cs2 := by
  have h1 : Blk ((w.alloc (.cells cs t)).alloc (.cells cs2 t2)) w.heap.size t cs := (Blk.new _ _ _).alloc _
  have h2 : Blk ((w.alloc (.cells cs t)).alloc (.cells cs2 t2)) (w.heap.size + 1) t2 cs2 := by simpa using Blk.new (w.alloc (.cells cs t)) t2 cs2
  refine ⟨_, rfl, below2 _ _ _, Below.refl _ _, by simp, fun w' hb => ⟨fun i _ => (h1.below hb h1.lt).cell i, fun i _ => (h2.below hb h2.lt).cell i, fun i => (h1.below hb h1.lt).frozen i, fun i => (h2.below hb h2.lt).frozen i, h2.below hb h2.lt⟩⟩
inductive CtlCaps : List CtlD → Prop
  | nil : CtlCaps []
  | cons {k t : Int} {cond : L NodeD} {th el : List CtlD} {tA eA : Option Addr} {tc ec : Nat} {l : List CtlD} : th.length ≤ 4398046511104 → el.length ≤ 4398046511104 → CtlCaps th → CtlCaps el → CtlCaps l → CtlCaps (.mk k t cond th el tA eA tc ec :: l)
def Says (e : Ending) (p : Prop) : Prop := ∃ b : Bool, e = .returned (.bool b) ∧ (b = true ↔ p)
theorem Says.yes {p : Prop} (h : p) : Says (.returned (.bool true)) p := ⟨true, rfl, by simp [h]⟩
theorem Says.no {p : Prop} (h : ¬ p) : Says (.returned (.bool false)) p := ⟨false, rfl, by simp [h]⟩
theorem Says.congr {e : Ending} {p q : Prop} (h : Says e p) (hpq : p ↔ q) : Says e q := by
  obtain ⟨b, e, hb⟩ := h
  exact ⟨b, e, hb.trans hpq⟩
theorem take_step {α : Type} {xs ys : List α} {k : Nat} (hx : k < xs.length) (hy : k < ys.length) (h : xs.take k = ys.take k) (he : xs[k] = ys[k]) : xs.take (k + 1) = ys.take (k + 1) := by
  rw [List.take_succ_eq_append_getElem hx, List.take_succ_eq_append_getElem hy, h, he]
structure AccSm (p : ProgD) : Prop where
  headers : p.headers.l.length ≤ 100
  fields : ∀ k, nF p k ≤ 100
  metadata : p.metadata.l.length ≤ 100
  registers : p.registers.l.length ≤ 100
  cap : p.headers.l.length ≤ p.headers.c
theorem preF_le {p : ProgD} (h : AccSm p) : ∀ k, preF p k ≤ 100 * k
  | 0 => Nat.le_refl _
  | k + 1 => by
    have h1 := preF_le h k
    have h2 := h.fields k
    rw [preF]; omega
theorem fN_le {p : ProgD} (h : AccSm p) : fN p ≤ 10000 := by
  have h1 := preF_le h p.headers.l.length
  have h2 := h.headers
  rw [fN]; omega
theorem put4 {w : World} {k : Nat} {t : TypeId} {a b c d : Value} (h : Blk w k t #[a, b, c, d]) (x y z u : Value) :
    Blk ((((w.setCell ⟨k, 0, none⟩ x).setCell ⟨k, 1, none⟩ y).setCell ⟨k, 2, none⟩ z).setCell ⟨k, 3, none⟩ u) k t #[x, y, z, u] := (((h.set_ 0 x).set_ 1 y).set_ 2 z).set_ 3 u
theorem put4_below {w w1 : World} {B k : Nat} (hb : Below B w w1) (hk : B ≤ k) (x y z u : Value) :
    Below B w ((((w1.setCell ⟨k, 0, none⟩ x).setCell ⟨k, 1, none⟩ y).setCell ⟨k, 2, none⟩ z).setCell ⟨k, 3, none⟩ u) := (((hb.setCell hk _).setCell hk _).setCell hk _).setCell hk _
theorem counts_any (p : ProgD) (w : World) (o : ProgOk w p) (hs : AccSm p) :
    Calls Tryz.prog 138 #[.agg (progCells p)] w fun e w' => e = .returned (.agg #[.int .i64 (fN p), .int .i64 p.headers.l.length, .int .i64 p.metadata.l.length, .int .i64 p.registers.l.length]) ∧ Below w.heap.size w w' := by
  obtain ⟨W, hW, hw, HB, hS, hpq⟩ := boxC w (progCells p) 31 #[.int .i64 0, .int .i64 0, .int .i64 0, .int .i64 0] 186
  have HW := hi_ hw
  have HQ := hi_ (fun w' h => (hpq w' h).2.2.2.2)
  have HSz := hi_ hS
  have HZ := hi_ (fun w' h => (⟨(hpq w' h).2.1, (hpq w' h).2.2.2.1⟩ : _ ∧ _))
  have hp := fun w' h => (hpq w' h).1
  have HFS := hi_ hs.fields
  have hH := hs.headers
  have hM := hs.metadata
  have hRg := hs.registers
  obtain ⟨hx, HX⟩ : ∃ x, Hid (x = p.headers) := ⟨_, hi_ rfl⟩
  have hx2 := HX.out
  have HO : Hid (LOk w 2 HeaderD.cells hx) := hi_ (by rw [hx2]; exact o.headers)
  have HF : Hid (∀ k (h : k < hx.l.length), nF p k = hx.l[k].fields.l.length) := hi_ (by rw [hx2]; exact fun k h => nF_at h)
  have HR : Hid (fN p = preF p hx.l.length) := hi_ (by rw [hx2]; rfl)
  simp only [progCells, ← hx2] at hp hW hH ⊢
  clear hpq o hs hw hS hx2
  obtain ⟨l, A, c⟩ := hx
  go_enter Tryz.func138, Tryz.ntmps138
  go_upto_region 1 with fail
  rw [← hW]
  clear hW
  have hp3 := hp W HB
  have HB1 := hi_ HB
  have hca := @World.cell?_alloc_some
  go_wp2
  clear hp3 hca
  go_loopw [5, 19] (fun _ iv wr => ∃ k n : Nat, k ≤ l.length ∧ iv = .int .i64 k ∧ n ≤ 100 * k ∧ Hid (n = preF p k) ∧ Blk wr W.heap.size 186 #[.int .i64 n, .int .i64 l.length, .int .i64 p.metadata.l.length, .int .i64 p.registers.l.length] ∧ Below W.heap.size W wr) (fun _ i _ => l.length - (intOf i).toNat)
  case atStart => exact ⟨0, 0, Nat.zero_le _, rfl, Nat.zero_le _, hi_ rfl, Blk.new _ _ _, below1 _ _⟩
  case round =>
  obtain ⟨k, n, hk, rfl, hn, HN, hB, HB⟩ := hrel
  by_cases hlt : k < l.length
  · obtain ⟨g0, of0, hA, hall⟩ := HeaderD.atA HO.out hlt
    simp only at hA
    subst hA
    have HNk := hi_ (HF.out k hlt)
    have HFk := HFS.out k
    obtain ⟨d0, d1⟩ := hall wr (below_step HW.out HB)
    clear hall
    rw [HNk.out] at HFk
    generalize l[k] = x at *
    obtain ⟨xn, ⟨fl, fA, fc⟩⟩ := x
    simp only at d0 d1 HNk HFk
    have c0 : wr.cell? ⟨W.heap.size, 0, none⟩ = some (.int .i64 n) := hB.cell 0
    have f0 : wr.frozen? ⟨W.heap.size, 0, none⟩ = false := hB.frozen 0
    have hgs := hB.lt
    have hca := @World.cell?_alloc_some
    have hfl := @World.frozen?_alloc_old
    have HBl := hi_ hB
    have HBw := hi_ HB
    clear hB HB
    go_wp2
    go_roundw
    case rel => exact ⟨k + 1, n + fl.length, by omega, by go_num, by omega, hi_ (by rw [preF, ← HN.out, HNk.out]), by rw [Int.natCast_add]; exact (HBl.out.set_ 0 _).alloc _, below_alloc (HBw.out.setCell (by exact Nat.le_refl _) _) _⟩
    case measure => simp [intOf]; omega
  · have e : k = l.length := by omega
    have HRn : Hid (fN p = n) := hi_ (by rw [HR.out, ← e, HN.out])
    have c0 : wr.cell? ⟨W.heap.size, 0, none⟩ = some (.int .i64 n) := hB.cell 0
    have c1 : wr.cell? ⟨W.heap.size, 1, none⟩ = some (.int .i64 l.length) := hB.cell 1
    have c2 : wr.cell? ⟨W.heap.size, 2, none⟩ = some (.int .i64 p.metadata.l.length) := hB.cell 2
    have c3 : wr.cell? ⟨W.heap.size, 3, none⟩ = some (.int .i64 p.registers.l.length) := hB.cell 3
    have z := HZ.out wr HB
    go_wp2
    refine bodyPost_ret (v := .agg #[.int .i64 n, .int .i64 l.length, .int .i64 p.metadata.l.length, .int .i64 p.registers.l.length]) ?_ rfl ?_
    · exact results_cell_row (fn := Tryz.f138) (p := 2) (ty := 186) rfl _ _ (w.heap.size + 1) 186 #[.int .i64 n, .int .i64 l.length, .int .i64 p.metadata.l.length, .int .i64 p.registers.l.length] (0, 0) _ rfl (put4 (HQ.out _ HB) _ _ _ _) Tryz.underlying186 rfl (by kernel_rfl)
    · exact ⟨by rw [HRn.out], put4_below (below_step HW.out HB) (Nat.le_succ _) _ _ _ _⟩
theorem arr4_0 (a b c d : Int) (w : World) : (Instr.index 186 (.agg #[.int .i64 a, .int .i64 b, .int .i64 c, .int .i64 d]) (.int .i64 0)).run Tryz.prog w = .ok (.int .i64 a) w := by kernel_rfl
theorem arr4_1 (a b c d : Int) (w : World) : (Instr.index 186 (.agg #[.int .i64 a, .int .i64 b, .int .i64 c, .int .i64 d]) (.int .i64 1)).run Tryz.prog w = .ok (.int .i64 b) w := by kernel_rfl
theorem arr4_2 (a b c d : Int) (w : World) : (Instr.index 186 (.agg #[.int .i64 a, .int .i64 b, .int .i64 c, .int .i64 d]) (.int .i64 2)).run Tryz.prog w = .ok (.int .i64 c) w := by kernel_rfl
theorem arr4_3 (a b c d : Int) (w : World) : (Instr.index 186 (.agg #[.int .i64 a, .int .i64 b, .int .i64 c, .int .i64 d]) (.int .i64 3)).run Tryz.prog w = .ok (.int .i64 d) w := by kernel_rfl
def firstN (p : ProgD) : Nat → Nat
  | 0 => 0
  | 1 => fN p
  | 2 => fN p + p.headers.l.length
  | 3 => fN p + p.headers.l.length + p.metadata.l.length
  | _ => fN p + p.headers.l.length + p.metadata.l.length + p.registers.l.length
theorem first_any (p : ProgD) (j : Nat) (hj : 1 ≤ j ∧ j ≤ 4) (w : World) (o : ProgOk w p) (hs : AccSm p) :
    Calls Tryz.prog 90 #[.agg (progCells p), .int .i64 j] w fun e w' => e = .returned (.int .i64 (firstN p j)) ∧ Below w.heap.size w w' := by
  obtain ⟨W, hW, hw, HB, hp⟩ := box1 w (progCells p) 31
  have HW := hi_ hw
  have HC := hi_ (fun u (hb : Below W.heap.size W u) => counts_any p u (o.below (below_step hw hb)) hs)
  have hf := fN_le hs
  have hH := hs.headers
  have hM := hs.metadata
  have hRg := hs.registers
  obtain ⟨R, HR⟩ : ∃ R, Hid (R = firstN p j) := ⟨_, hi_ rfl⟩
  rw [← HR.out]
  clear o hs hw
  rcases (show j = 1 ∨ j = 2 ∨ j = 3 ∨ j = 4 by omega) with rfl | rfl | rfl | rfl
  all_goals
    clear hj
    simp only [firstN] at HR
    go_enter Tryz.func90, Tryz.ntmps90
    go_upto_region 1 with fail
    rw [← hW]
    clear hW
    have hp3 := hp W HB
    go_wp2_with fail
    refine (HC.out _ (by first | exact HB | exact below_alloc HB _ | exact ba2 HB | exact ba3 HB)).mono ?_
    rintro e w1 ⟨rfl, hbN⟩
    replace HB := below_step (by first | exact HB | exact below_alloc HB _ | exact ba2 HB | exact ba3 HB) hbN
    clear hbN
    generalize fN p = n0 at *
    generalize p.headers.l.length = n1 at *
    generalize p.metadata.l.length = n2 at *
    generalize p.registers.l.length = n3 at *
    clear hp hp3 HC
    have i0 := arr4_0
    have i1 := arr4_1
    have i2 := arr4_2
    have i3 := arr4_3
    go_wp2
    refine wp_loop_rounds 5 ?_
    rw [rounds_succ]
    go_wp2
    rw [rounds_succ]
    go_wp2
    rw [rounds_succ]
    go_wp2
    rw [rounds_succ]
    go_wp2
    rw [rounds_succ]
    go_wp2
    go_ret
    exact ⟨by rw [HR.out]; simp, below_step HW.out HB⟩
theorem accCells_any (p : ProgD) (w : World) (o : ProgOk w p) (hs : AccSm p) :
    Calls Tryz.prog 89 #[.agg (progCells p)] w fun e w' => e = .returned (.int .i64 (firstN p 4)) ∧ Below w.heap.size w w' := by
  obtain ⟨W, hW, hw, HB, hp⟩ := box1 w (progCells p) 31
  have HW := hi_ hw
  have HC := hi_ (fun u (hb : Below W.heap.size W u) => first_any p 4 ⟨by decide, by decide⟩ u (o.below (below_step hw hb)) hs)
  clear o hs hw
  go_enter Tryz.func89, Tryz.ntmps89
  go_upto_region 1 with fail
  rw [← hW]
  clear hW
  have hp3 := hp W HB
  go_wp2_with fail
  refine (HC.out _ (by first | exact HB | exact below_alloc HB _ | exact ba2 HB | exact ba3 HB)).mono ?_
  rintro e w1 ⟨rfl, hbN⟩
  replace HB := below_step (by first | exact HB | exact below_alloc HB _ | exact ba2 HB | exact ba3 HB) hbN
  clear hbN
  go_wp2
  go_ret
  exact ⟨rfl, below_step HW.out HB⟩
theorem arr4 (a b c d : Int) (w : World) (k : Nat) (hk : k = 0 ∨ k = 1 ∨ k = 2 ∨ k = 3) : (Instr.index 186 (.agg #[.int .i64 a, .int .i64 b, .int .i64 c, .int .i64 d]) (.int .i64 k)).run Tryz.prog w = .ok (.int .i64 (if k = 0 then a else if k = 1 then b else if k = 2 then c else d)) w := by
  rcases hk with rfl | rfl | rfl | rfl
  · exact arr4_0 a b c d w
  · exact arr4_1 a b c d w
  · exact arr4_2 a b c d w
  · exact arr4_3 a b c d w
def countN (p : ProgD) : Nat → Nat
  | 0 => fN p
  | 1 => p.headers.l.length
  | 2 => p.metadata.l.length
  | _ => p.registers.l.length
theorem cell_any (p : ProgD) (j : Nat) (hj : j = 1 ∨ j = 2) (i : Nat) (hi : i < countN p j) (w : World) (o : ProgOk w p) (hs : AccSm p) :
    Calls Tryz.prog 106 #[.agg (progCells p), .int .i64 j, .int .i64 i] w fun e w' => e = .returned (.int .i64 (firstN p j + i : Nat)) ∧ Below w.heap.size w w' := by
  obtain ⟨W, hW, hw, HB, hp⟩ := box1 w (progCells p) 31
  have HW := hi_ hw
  have HC := hi_ (fun u (hb : Below W.heap.size W u) => first_any p j (by omega) u (o.below (below_step hw hb)) hs)
  have HCt := hi_ (fun u (hb : Below W.heap.size W u) => counts_any p u (o.below (below_step hw hb)) hs)
  have hf := fN_le hs
  have hH := hs.headers
  have hM := hs.metadata
  have hbd : firstN p j ≤ 20000 := by rcases hj with rfl | rfl <;> simp only [firstN] <;> omega
  have h64 : i ≤ 20000 := by rcases hj with rfl | rfl <;> simp only [countN] at hi <;> omega
  clear o hs hw hf hH hM
  have hci : ((countN p j : Nat) : Int) = if j = 0 then (fN p : Int) else if j = 1 then (p.headers.l.length : Int) else if j = 2 then (p.metadata.l.length : Int) else (p.registers.l.length : Int) := by
    rcases hj with rfl | rfl <;> rfl
  generalize firstN p j = R at *
  have ha := arr4 (fN p) p.headers.l.length p.metadata.l.length p.registers.l.length
  have ha2 := fun w => ha w j (by omega)
  simp only [← hci] at ha2
  clear ha hci
  generalize countN p j = cn at *
  have hi' : (i : Int) < (cn : Int) := by omega
  go_enter Tryz.func106, Tryz.ntmps106
  go_upto_region 1 with fail
  rw [← hW]
  clear hW
  have hp3 := hp W HB
  go_wp2_with fail
  refine (HCt.out _ (by first | exact HB | exact below_alloc HB _ | exact ba2 HB | exact ba3 HB)).mono ?_
  rintro e w1 ⟨rfl, hbN⟩
  replace HB := below_step (by first | exact HB | exact below_alloc HB _ | exact ba2 HB | exact ba3 HB) hbN
  clear hbN
  clear hp3
  have hp3 := hp _ HB
  go_wp2_with fail
  refine (HC.out _ (by first | exact HB | exact below_alloc HB _ | exact ba2 HB | exact ba3 HB)).mono ?_
  rintro e w2 ⟨rfl, hbN⟩
  replace HB := below_step (by first | exact HB | exact below_alloc HB _ | exact ba2 HB | exact ba3 HB) hbN
  clear hbN
  go_wp2
  go_ret
  exact ⟨by first | rfl | (congr 2; omega), below_step HW.out HB⟩
theorem validCell_any (p : ProgD) (i : Nat) (hi : i < p.headers.l.length) (w : World) (o : ProgOk w p) (hs : AccSm p) :
    Calls Tryz.prog 69 #[.agg (progCells p), .int .i64 i] w fun e w' => e = .returned (.int .i64 (fN p + i : Nat)) ∧ Below w.heap.size w w' := by
  obtain ⟨W, hW, hw, HB, hp⟩ := box1 w (progCells p) 31
  have HW := hi_ hw
  have HC := hi_ (fun u (hb : Below W.heap.size W u) => cell_any p 1 (.inl rfl) i hi u (o.below (below_step hw hb)) hs)
  clear o hs hw
  go_enter Tryz.func69, Tryz.ntmps69
  go_upto_region 1 with fail
  rw [← hW]
  clear hW
  have hp3 := hp W HB
  go_wp2_with fail
  refine (HC.out _ (by first | exact HB | exact below_alloc HB _ | exact ba2 HB | exact ba3 HB)).mono ?_
  rintro e w1 ⟨rfl, hbN⟩
  replace HB := below_step (by first | exact HB | exact below_alloc HB _ | exact ba2 HB | exact ba3 HB) hbN
  clear hbN
  go_wp2
  go_ret
  exact ⟨rfl, below_step HW.out HB⟩
theorem metaCell_any (p : ProgD) (i : Nat) (hi : i < p.metadata.l.length) (w : World) (o : ProgOk w p) (hs : AccSm p) :
    Calls Tryz.prog 72 #[.agg (progCells p), .agg #[.int .i64 (-1), .int .i64 i]] w fun e w' => e = .returned (.int .i64 (fN p + p.headers.l.length + i : Nat)) ∧ Below w.heap.size w w' := by
  obtain ⟨W, hW, hw, HB, hp⟩ := box2 w (progCells p) 31 #[.int .i64 (-1), .int .i64 i] 98
  have HW := hi_ hw
  have HC := hi_ (fun u (hb : Below W.heap.size W u) => cell_any p 2 (.inr rfl) i hi u (o.below (below_step hw hb)) hs)
  clear o hs hw
  go_enter Tryz.func72, Tryz.ntmps72
  go_upto_region 1 with fail
  rw [← hW]
  clear hW
  have hp3 := hp W HB
  go_wp2_with fail
  refine (HC.out _ (by first | exact HB | exact below_alloc HB _ | exact ba2 HB | exact ba3 HB)).mono ?_
  rintro e w1 ⟨rfl, hbN⟩
  replace HB := below_step (by first | exact HB | exact below_alloc HB _ | exact ba2 HB | exact ba3 HB) hbN
  clear hbN
  go_wp2
  go_ret
  exact ⟨rfl, below_step HW.out HB⟩
theorem fieldCell_any (p : ProgD) (h f : Nat) (hh : h < p.headers.l.length) (hf : f < nF p h) (w : World) (o : ProgOk w p) (hs : AccSm p) :
    Calls Tryz.prog 72 #[.agg (progCells p), .agg #[.int .i64 h, .int .i64 f]] w fun e w' => e = .returned (.int .i64 (preF p h + f : Nat)) ∧ Below w.heap.size w w' := by
  obtain ⟨W, hW, hw, HB, hp⟩ := box2 w (progCells p) 31 #[.int .i64 h, .int .i64 f] 98
  have HW := hi_ hw
  have HF : Hid (∀ k (h : k < p.headers.l.length), nF p k = p.headers.l[k].fields.l.length) := hi_ (fun k h => nF_at h)
  have HFS := hi_ hs.fields
  have hH := hs.headers
  have hcap := hs.cap
  obtain ⟨g0, of0, hA, hall⟩ := HeaderD.allA (o.headers.below hw (Nat.le_refl _)) (show 0 < p.headers.l.length by omega)
  have HAL := hi_ hall
  simp only [progCells, hA] at hp hW ⊢
  have hh' : (h : Int) < (p.headers.l.length : Int) := by omega
  have hf' : (f : Int) < ((p.headers.l[h].fields.l.length : Nat) : Int) := by rw [HF.out h hh] at hf; omega
  have hf2 : f ≤ 100 := by have := HFS.out h; omega
  clear o hs hw hall hA
  have dh := (HAL.out W HB h hh).2
  generalize p.headers.l[h].fields = fx at *
  obtain ⟨fl, fA, fc⟩ := fx
  simp only at dh hf'
  have h1 : ((h : Int) == -1) = false := beq_eq_false_iff_ne.2 (by omega)
  go_enter Tryz.func72, Tryz.ntmps72
  go_upto_region 1 with fail
  rw [← hW]
  clear hW
  have hp3 := hp W HB
  have hcm : (h : Int) ≤ (p.headers.c : Int) := by omega
  have b0 : decide ((h : Int) < 0) = false := decide_eq_false (by omega)
  have b1 : decide ((p.headers.l.length : Int) ≤ (h : Int)) = false := decide_eq_false (by omega)
  have b2 : decide ((f : Int) < 0) = false := decide_eq_false (by omega)
  have b3 : decide ((fl.length : Int) ≤ (f : Int)) = false := decide_eq_false (by omega)
  have HB1 := hi_ HB
  go_wp2
  go_quiet (fail)
  go_wp2
  clear hp3 dh HB
  go_loopw [5, 7, 52] (fun nv _ iv wr => ∃ k n : Nat, k ≤ h ∧ iv = .int .i64 k ∧ nv = .int .i64 n ∧ n ≤ 100 * k + 100 ∧ Hid (n = preF p k + f) ∧ Below W.heap.size W wr) (fun _ _ i _ => h - (intOf i).toNat)
  case atStart => exact ⟨0, f, Nat.zero_le _, rfl, rfl, by omega, hi_ (by rw [preF]; omega), below_drewN HB1.out _⟩
  case round =>
  obtain ⟨k, n, hk, rfl, rfl, hn, HN, HB⟩ := hrel
  by_cases hlt : k < h
  · obtain ⟨d0, d1⟩ := HAL.out wr HB k (by omega)
    have HNk := hi_ (HF.out k (by omega))
    have HFk := HFS.out k
    rw [HNk.out] at HFk
    generalize p.headers.l[k] = x at *
    obtain ⟨xn, ⟨xl, xA, xc⟩⟩ := x
    simp only at d0 d1 HNk HFk
    have hca := @World.cell?_alloc_some
    have HBw := hi_ HB
    clear HB
    go_wp2
    go_roundw
    case rel => exact ⟨k + 1, n + xl.length, by omega, by go_num, by go_num, by omega, hi_ (by rw [preF, HN.out, HNk.out]; omega), below_alloc HBw.out _⟩
    case measure => simp [intOf]; omega
  · have e : k = h := by omega
    subst e
    have HRn := hi_ HN.out.symm
    go_wp2
    go_ret
    exact ⟨by rw [HRn.out]; first | done | rfl, below_step HW.out HB⟩
theorem widthC_any (p : ProgD) (h f : Int) (w : World) (o : ProgOk w p) : Calls Tryz.prog 91 #[.agg (progCells p), .agg #[.int .i64 h, .int .i64 f]] w fun e w' => e = .returned (.int .i64 (widthAt p h f)) ∧ Below w.heap.size w w' := width_any p h f w o
theorem cellWidth_any (p : ProgD) (i : Nat) (hi : i < cellsN p) (w : World) (o : ProgOk w p) (hs : AccSm p) :
    Calls Tryz.prog 40 #[.agg (progCells p), .int .i64 i] w fun e w' => e = .returned (.int .i64 ((wsM p).getD i 0)) ∧ Below w.heap.size w w' := by
  obtain ⟨W, hW, hw, HB, hp⟩ := box1 w (progCells p) 31
  have HW := hi_ hw
  have HC1 := hi_ (fun u (hb : Below W.heap.size W u) => first_any p 1 (by decide) u (o.below (below_step hw hb)) hs)
  have HC2 := hi_ (fun u (hb : Below W.heap.size W u) => first_any p 2 (by decide) u (o.below (below_step hw hb)) hs)
  have HC3 := hi_ (fun u (hb : Below W.heap.size W u) => first_any p 3 (by decide) u (o.below (below_step hw hb)) hs)
  have HCw := hi_ (fun u (hb : Below W.heap.size W u) (h f : Int) => widthC_any p h f u (o.below (below_step hw hb)))
  have HLO := hi_ (o.headers.below hw (Nat.le_refl _))
  have HF : Hid (∀ k (h : k < p.headers.l.length), nF p k = p.headers.l[k].fields.l.length) := hi_ (fun k h => nF_at h)
  have HPF : Hid (preF p p.headers.l.length = fN p) := hi_ rfl
  have hf := fN_le hs
  have hH := hs.headers
  have hM := hs.metadata
  have e1 : firstN p 1 = fN p := rfl
  have e2 : firstN p 2 = fN p + p.headers.l.length := rfl
  have e3 : firstN p 3 = fN p + p.headers.l.length + p.metadata.l.length := rfl
  have hi3 : i < fN p + p.headers.l.length + p.metadata.l.length := by unfold cellsN at hi; omega
  have HR := hi_ (cell_cases p hi)
  rw [e1] at HC1
  rw [e2] at HC2
  rw [e3] at HC3
  clear e1 e2 e3 o hs hw hi
  by_cases h2 : fN p + p.headers.l.length ≤ i
  · have HRw : Hid ((wsM p).getD i 0 = widthAt p (-1) ((i : Int) - ((fN p + p.headers.l.length : Nat) : Int))) := hi_ (by
      obtain ⟨f, hf, e⟩ : ∃ f, f < p.metadata.l.length ∧ i = fN p + p.headers.l.length + f := ⟨i - (fN p + p.headers.l.length), by omega, by omega⟩
      rw [List.getD_eq_getElem?_getD, e, wsM, cells_meta p _ _ hf, Option.getD_some]
      congr 1
      omega)
    have H0 := hi_ (Below.refl W.heap.size W)
    clear HLO HF HPF HR
    generalize hgn : fN p + p.headers.l.length = n2 at *
    generalize hgm : n2 + p.metadata.l.length = n3 at *
    have a1 : ¬ (i : Int) < 0 := by omega
    have a2 : (i : Int) < (n3 : Int) := by omega
    have a3 : (n2 : Int) ≤ (i : Int) := by omega
    have a4 : (n3 : Int) ≤ 20000 := by omega
    have hwr : IntKind.i64.wrap ((i : Int) - (n2 : Int)) = (i : Int) - (n2 : Int) := IntWalk.i64_in _ (by omega)
    have HWr := hi_ hwr
    clear hgn hgm hf hH hM h2 hi3 hwr
    go_enter Tryz.func40, Tryz.ntmps40
    go_upto_region 1 with fail
    rw [← hW]
    clear hW
    have hp3 := hp W HB
    go_wp2_with fail
    refine (HC3.out _ (by first | exact HB | exact below_alloc HB _ | exact ba2 HB | exact ba3 HB)).mono ?_
    rintro e w1 ⟨rfl, hbN⟩
    replace HB := below_step (by first | exact HB | exact below_alloc HB _ | exact ba2 HB | exact ba3 HB) hbN
    clear hbN
    clear hp3
    have hp3 := hp _ HB
    go_wp2_with fail
    refine (HC2.out _ (by first | exact HB | exact below_alloc HB _ | exact ba2 HB | exact ba3 HB)).mono ?_
    rintro e w2 ⟨rfl, hbN⟩
    replace HB := below_step (by first | exact HB | exact below_alloc HB _ | exact ba2 HB | exact ba3 HB) hbN
    clear hbN
    clear hp3
    have HBw := hi_ HB
    have hq := fun u (hb : Below w2.heap.size w2 u) => hp u (below_step HB hb)
    have HD2 := hi_ (fun u (hb : Below w2.heap.size w2 u) => HC2.out u (below_step HBw.out hb))
    have HDw := hi_ (fun u (hb : Below w2.heap.size w2 u) h f => HCw.out u (below_step HBw.out hb) h f)
    have H2 := hi_ (Below.refl w2.heap.size w2)
    clear HB hp HC1 HC2 HC3 HCw H0
    go_upto_region 4 with fail
    go_region_held3 (fun w' => Below w2.heap.size w2 w') (first | exact H2.out | exact below_drew H2.out | (exact below_step (by assumption) (by assumption)) | assumption)
      (first
      | (go_at_call 90; refine (HD2.out _ (by assumption)).mono ?_; rintro e w5 ⟨rfl, hb1⟩)
      | (go_at_call 91; refine (HDw.out _ (by assumption) _ _).mono ?_; rintro e w5 ⟨rfl, hb1⟩))
    have HB5 : Hid (Below w2.heap.size w2 _) := hi_ (by assumption)
    go_wp2
    go_ret
    exact ⟨by rw [HRw.out]; simp only [HWr.out]; rfl, below_step HW.out (below_step HBw.out HB5.out)⟩
  by_cases h1 : fN p ≤ i
  · have HRw : Hid ((wsM p).getD i 0 = 1) := hi_ (by
      obtain ⟨f, hf, e⟩ : ∃ f, f < p.headers.l.length ∧ i = fN p + f := ⟨i - fN p, by omega, by omega⟩
      rw [List.getD_eq_getElem?_getD, e, wsM, cells_val p _ _ hf, Option.getD_some])
    clear HLO HF HPF HR
    generalize fN p = n1 at *
    go_enter Tryz.func40, Tryz.ntmps40
    go_upto_region 1 with fail
    rw [← hW]
    clear hW
    have hp3 := hp W HB
    go_wp2_with fail
    refine (HC3.out _ (by first | exact HB | exact below_alloc HB _ | exact ba2 HB | exact ba3 HB)).mono ?_
    rintro e w1 ⟨rfl, hbN⟩
    replace HB := below_step (by first | exact HB | exact below_alloc HB _ | exact ba2 HB | exact ba3 HB) hbN
    clear hbN
    clear hp3
    have hp3 := hp _ HB
    go_wp2_with fail
    refine (HC2.out _ (by first | exact HB | exact below_alloc HB _ | exact ba2 HB | exact ba3 HB)).mono ?_
    rintro e w2 ⟨rfl, hbN⟩
    replace HB := below_step (by first | exact HB | exact below_alloc HB _ | exact ba2 HB | exact ba3 HB) hbN
    clear hbN
    clear hp3
    have hp3 := hp _ HB
    go_wp2_with fail
    refine (HC1.out _ (by first | exact HB | exact below_alloc HB _ | exact ba2 HB | exact ba3 HB)).mono ?_
    rintro e w3 ⟨rfl, hbN⟩
    replace HB := below_step (by first | exact HB | exact below_alloc HB _ | exact ba2 HB | exact ba3 HB) hbN
    clear hbN
    go_wp2
    go_ret
    exact ⟨by rw [HRw.out]; first | done | rfl, below_step HW.out HB⟩
  have h0 : i < fN p := by omega
  have HLP := hi_ HLO.out
  have hmx : p.headers.l.length ≤ 9223372036854775807 := HLO.out.1
  have HI0 : Hid (i < preF p p.headers.l.length) := hi_ (by rw [HPF.out]; exact h0)
  have HWF : Hid (∀ k f, k < p.headers.l.length → f < nF p k → i = preF p k + f → (wsM p).getD i 0 = widthAt p k f) := hi_ (fun k f hk hf e => by
    rw [List.getD_eq_getElem?_getD, e, wsM, cells_fld p _ _ hk hf, Option.getD_some])
  clear HLO HF HPF hmx HI0
  obtain ⟨hx, HX⟩ : ∃ x, Hid (x = p.headers) := ⟨_, hi_ rfl⟩
  have hx2 := HX.out
  have HLO : Hid (LOk W 2 HeaderD.cells hx) := hi_ (by rw [hx2]; exact HLP.out)
  have HF : Hid (∀ k (h : k < hx.l.length), nF p k = hx.l[k].fields.l.length) := hi_ (by rw [hx2]; exact fun k h => nF_at h)
  have hmx : hx.l.length ≤ 9223372036854775807 := HLO.out.1
  have HI0 : Hid (i < preF p hx.l.length) := hi_ (by rw [hx2]; exact h0)
  simp only [progCells, ← hx2] at hp hW hH HC1 HC2 HC3 HCw h1 h2 hi3 HWF ⊢
  clear hx2 HR
  obtain ⟨l, A, c⟩ := hx
  generalize hn1 : fN p = n1 at *
  go_enter Tryz.func40, Tryz.ntmps40
  go_upto_region 1 with fail
  rw [← hW]
  clear hW
  have hp3 := hp W HB
  go_wp2_with fail
  refine (HC3.out _ (by first | exact HB | exact below_alloc HB _ | exact ba2 HB | exact ba3 HB)).mono ?_
  rintro e w1 ⟨rfl, hbN⟩
  replace HB := below_step (by first | exact HB | exact below_alloc HB _ | exact ba2 HB | exact ba3 HB) hbN
  clear hbN
  clear hp3
  have hp3 := hp _ HB
  go_wp2_with fail
  refine (HC2.out _ (by first | exact HB | exact below_alloc HB _ | exact ba2 HB | exact ba3 HB)).mono ?_
  rintro e w2 ⟨rfl, hbN⟩
  replace HB := below_step (by first | exact HB | exact below_alloc HB _ | exact ba2 HB | exact ba3 HB) hbN
  clear hbN
  clear hp3
  have hp3 := hp _ HB
  go_wp2_with fail
  refine (HC1.out _ (by first | exact HB | exact below_alloc HB _ | exact ba2 HB | exact ba3 HB)).mono ?_
  rintro e w3 ⟨rfl, hbN⟩
  replace HB := below_step (by first | exact HB | exact below_alloc HB _ | exact ba2 HB | exact ba3 HB) hbN
  clear hbN
  clear hp3
  have hp3 := hp _ HB
  have HB1 := hi_ HB
  go_wp2
  clear hp3 HB
  go_loopw [1, 5, 6, 33] (fun cv _ _ iv wr => ∃ k n : Nat, k ≤ l.length ∧ iv = .int .i64 k ∧ cv = .int .i64 n ∧ n ≤ i ∧ Hid (i = preF p k + n) ∧ Below W.heap.size W wr) (fun _ _ _ i _ => l.length - (intOf i).toNat)
  case atStart => exact ⟨0, i, Nat.zero_le _, rfl, rfl, Nat.le_refl _, hi_ (by rw [preF]; omega), HB1.out⟩
  case round =>
  obtain ⟨k, n, hk, rfl, rfl, hn, HN, HB⟩ := hrel
  by_cases hlt : k < l.length
  · obtain ⟨g0, of0, hA, hall⟩ := HeaderD.atA HLO.out hlt
    simp only at hA
    subst hA
    obtain ⟨d0, d1⟩ := hall wr HB
    have HNk := hi_ (HF.out k hlt)
    have HWk := hi_ (fun f => HWF.out k f hlt)
    generalize l[k] = x at *
    obtain ⟨xn, ⟨xl, xA, xc⟩⟩ := x
    simp only at d0 d1 HNk
    have hca := @World.cell?_alloc_some
    clear hall
    have hp3 := hp wr HB
    by_cases hin : n < xl.length
    · have HRw : Hid ((wsM p).getD i 0 = widthAt p k n) := hi_ (HWk.out n (by rw [HNk.out]; exact hin) HN.out)
      go_wp2_with fail
      refine (HCw.out _ (by first | exact HB | exact below_alloc HB _ | exact ba2 HB | exact ba3 HB) _ _).mono ?_
      rintro e w5 ⟨rfl, hbN⟩
      replace HB := below_step (by first | exact HB | exact below_alloc HB _ | exact ba2 HB | exact ba3 HB) hbN
      clear hbN
      go_wp2
      go_ret
      exact ⟨by rw [HRw.out]; first | done | rfl, below_step HW.out HB⟩
    · have HBw := hi_ HB
      clear HB
      go_wp2
      go_roundw
      case rel => exact ⟨k + 1, n - xl.length, by omega, by go_num, by first | go_num | (congr 1; omega), by omega, hi_ (by have := HN.out; rw [preF, HNk.out]; omega), below_alloc HBw.out _⟩
      case measure => simp [intOf]; omega
  · have e : k = l.length := by omega
    exfalso
    have h3 := HN.out
    have h4 := HI0.out
    rw [e] at h3
    omega
theorem rvalid_any (n : Int) (w : World) :
    Calls Tryz.prog 154 #[.int .i64 n] w fun e w' => e = .returned (.bool (okW n)) ∧ w = w' := by
  by_cases h1 : 1 ≤ n
  · have HR := hi_ (show okW n = decide (n ≤ 32) by simp [okW, h1])
    by_cases h2 : n ≤ 32
    all_goals
      go_enter Tryz.func154, Tryz.ntmps154
      go_wp2
      go_ret
      exact ⟨by rw [HR.out]; simp [h2], rfl⟩
  · have HR := hi_ (show okW n = false by simp [okW, h1])
    go_enter Tryz.func154, Tryz.ntmps154
    go_wp2
    go_ret
    exact ⟨by rw [HR.out]; rfl, rfl⟩
theorem pow_le40 {k : Nat} (h : k ≤ 40) : 2 ^ k ≤ 1099511627776 := Nat.pow_le_pow_right (by decide) h
theorem rpower_any (n : Nat) (hn : n ≤ 40) (w : World) :
    Calls Tryz.prog 155 #[.int .i64 n] w fun e w' => e = .returned (.int .u64 ((2 ^ n : Nat) : Int)) ∧ w = w' := by
  go_enter Tryz.func155, Tryz.ntmps155
  go_wp2
  go_loop [3, 4] (fun v i => ∃ k x : Nat, k ≤ n ∧ i = .int .i64 k ∧ v = .int .u64 x ∧ Hid (x = 2 ^ k)) (fun _ i => n - (intOf i).toNat)
  case atStart => exact ⟨0, 1, Nat.zero_le _, rfl, rfl, hi_ rfl⟩
  case round =>
  obtain ⟨k, x, hk, rfl, rfl, hx⟩ := hrel
  by_cases hlt : k < n
  · have HX : Hid (2 * x = 2 ^ (k + 1) ∧ 2 * x ≤ 1099511627776) := hi_ (by
      have h1 : 2 * x = 2 ^ (k + 1) := by rw [hx.out, Nat.pow_succ, Nat.mul_comm]
      exact ⟨h1, by rw [h1]; exact pow_le40 (by omega)⟩)
    go_wp2
    go_round
    case rel => exact ⟨k + 1, 2 * x, by omega, by go_num, by
      have h2 := HX.out.2
      refine congrArg (Value.int .u64) ?_
      rw [IntWalk.u64_in _ (by omega)]; rfl, hi_ HX.out.1⟩
    case measure => simp [intOf]; omega
  · have e : k = n := by omega
    subst e
    go_wp2
    go_ret
    exact ⟨by rw [hx.out]; simp, rfl⟩
theorem rmask_any (n : Int) (w : World) :
    Calls Tryz.prog 105 #[.int .i64 n] w fun e w' => e = .returned (.int .u32 (maskM n)) ∧ w = w' := by
  cases hv : okW n
  · have HM := hi_ (show maskM n = 0 by rw [maskM, hv]; rfl)
    have HV := hi_ hv
    clear hv
    go_enter Tryz.func105, Tryz.ntmps105
    go_wp2_with fail
    refine (rvalid_any n _).mono ?_
    rintro e w1 ⟨rfl, rfl⟩
    rw [HV.out]
    go_wp2
    go_ret
    exact ⟨by rw [HM.out]; rfl, rfl⟩
  · have HV := hi_ hv
    have hr : 1 ≤ n ∧ n ≤ 32 := okW_iff.1 hv
    obtain ⟨m, rfl⟩ : ∃ m : Nat, n = m := ⟨n.toNat, by omega⟩
    have HR := hi_ hr
    have HM : Hid (IntKind.u32.wrap (((2 ^ m : Nat) : Int) - 1) = (maskM m : Int)) := hi_ (by
      have h1 : maskM (m : Int) = 2 ^ m - 1 := by rw [maskM, hv]; rfl
      have h2 : 2 ^ m ≤ 2 ^ 32 := Nat.pow_le_pow_right (by decide) (by omega)
      have h3 : 0 < 2 ^ m := Nat.pow_pos (by decide)
      rw [h1, IntWalk.u32_in _ (by omega)]
      omega)
    have HP : Hid ((2 ^ m : Nat) ≤ 4294967296 ∧ 0 < 2 ^ m) := hi_ ⟨Nat.pow_le_pow_right (n := 2) (by decide) (show m ≤ 32 by omega), Nat.pow_pos (by decide)⟩
    clear hv hr
    go_enter Tryz.func105, Tryz.ntmps105
    go_wp2_with fail
    refine (rvalid_any m _).mono ?_
    rintro e w1 ⟨rfl, rfl⟩
    rw [HV.out]
    go_wp2_with fail
    refine (rpower_any m (by have := HR.out; omega) _).mono ?_
    rintro e w1 ⟨rfl, rfl⟩
    generalize hX : 2 ^ m = X at *
    have hX1 : 0 < (X : Int) := by have := HP.out; omega
    have hX2 : (X : Int) ≤ 4294967296 := by have := HP.out; omega
    clear hX
    go_wp2
    go_ret
    exact ⟨by rw [← HM.out, IntWalk.u32_in _ (by omega)]; rfl, rfl⟩
theorem valid_any (z i f d : Int) (w : World) : Calls Tryz.prog 58 #[.agg #[.int .i64 z, .int .i64 i, .int .i64 f, .int .i64 d]] w fun e w' => e = .returned (.bool (validS ⟨z, i, f, d⟩)) ∧ Below w.heap.size w w' := by
  have hv := validS_iff (s := ⟨z, i, f, d⟩)
  simp only at hv
  by_cases h8 : z = 8
  case pos =>
    subst h8
    by_cases c0 : 0 ≤ i
    case neg =>
      have HR : Hid (validS ⟨8, i, f, d⟩ = false) := hi_ (Bool.eq_false_iff.2 (fun h => by have := hv.1 h; omega))
      clear hv
      go_enter Tryz.func58, Tryz.ntmps58
      go_wp2
      go_ret
      exact ⟨by rw [HR.out]; rfl, below1 _ _⟩
    by_cases c1 : i < 64
    case neg =>
      have HR : Hid (validS ⟨8, i, f, d⟩ = false) := hi_ (Bool.eq_false_iff.2 (fun h => by have := hv.1 h; omega))
      clear hv
      go_enter Tryz.func58, Tryz.ntmps58
      go_wp2
      go_ret
      exact ⟨by rw [HR.out]; rfl, below1 _ _⟩
    by_cases c2 : 0 ≤ f
    case neg =>
      have HR : Hid (validS ⟨8, i, f, d⟩ = false) := hi_ (Bool.eq_false_iff.2 (fun h => by have := hv.1 h; omega))
      clear hv
      go_enter Tryz.func58, Tryz.ntmps58
      go_wp2
      go_ret
      exact ⟨by rw [HR.out]; rfl, below1 _ _⟩
    by_cases c3 : 1 ≤ d
    case neg =>
      have HR : Hid (validS ⟨8, i, f, d⟩ = false) := hi_ (Bool.eq_false_iff.2 (fun h => by have := hv.1 h; omega))
      clear hv
      go_enter Tryz.func58, Tryz.ntmps58
      go_wp2
      go_ret
      exact ⟨by rw [HR.out]; rfl, below1 _ _⟩
    by_cases c4 : d ≤ 8
    case neg =>
      have HR : Hid (validS ⟨8, i, f, d⟩ = false) := hi_ (Bool.eq_false_iff.2 (fun h => by have := hv.1 h; omega))
      clear hv
      go_enter Tryz.func58, Tryz.ntmps58
      go_wp2
      go_ret
      exact ⟨by rw [HR.out]; rfl, below1 _ _⟩
    by_cases c5 : f ≤ 8 - d
    case neg =>
      have HR : Hid (validS ⟨8, i, f, d⟩ = false) := hi_ (Bool.eq_false_iff.2 (fun h => by have := hv.1 h; omega))
      clear hv
      go_enter Tryz.func58, Tryz.ntmps58
      go_wp2
      go_ret
      exact ⟨by rw [HR.out]; rfl, below1 _ _⟩
    have HR : Hid (validS ⟨8, i, f, d⟩ = true) := hi_ (hv.2 (by omega))
    clear hv
    go_enter Tryz.func58, Tryz.ntmps58
    go_wp2
    go_ret
    exact ⟨by rw [HR.out]; rfl, below1 _ _⟩
  by_cases h16 : z = 16
  case pos =>
    subst h16
    by_cases c0 : 0 ≤ i
    case neg =>
      have HR : Hid (validS ⟨16, i, f, d⟩ = false) := hi_ (Bool.eq_false_iff.2 (fun h => by have := hv.1 h; omega))
      clear hv
      go_enter Tryz.func58, Tryz.ntmps58
      go_wp2
      go_ret
      exact ⟨by rw [HR.out]; rfl, below1 _ _⟩
    by_cases c1 : i < 64
    case neg =>
      have HR : Hid (validS ⟨16, i, f, d⟩ = false) := hi_ (Bool.eq_false_iff.2 (fun h => by have := hv.1 h; omega))
      clear hv
      go_enter Tryz.func58, Tryz.ntmps58
      go_wp2
      go_ret
      exact ⟨by rw [HR.out]; rfl, below1 _ _⟩
    by_cases c2 : 0 ≤ f
    case neg =>
      have HR : Hid (validS ⟨16, i, f, d⟩ = false) := hi_ (Bool.eq_false_iff.2 (fun h => by have := hv.1 h; omega))
      clear hv
      go_enter Tryz.func58, Tryz.ntmps58
      go_wp2
      go_ret
      exact ⟨by rw [HR.out]; rfl, below1 _ _⟩
    by_cases c3 : 1 ≤ d
    case neg =>
      have HR : Hid (validS ⟨16, i, f, d⟩ = false) := hi_ (Bool.eq_false_iff.2 (fun h => by have := hv.1 h; omega))
      clear hv
      go_enter Tryz.func58, Tryz.ntmps58
      go_wp2
      go_ret
      exact ⟨by rw [HR.out]; rfl, below1 _ _⟩
    by_cases c4 : d ≤ 16
    case neg =>
      have HR : Hid (validS ⟨16, i, f, d⟩ = false) := hi_ (Bool.eq_false_iff.2 (fun h => by have := hv.1 h; omega))
      clear hv
      go_enter Tryz.func58, Tryz.ntmps58
      go_wp2
      go_ret
      exact ⟨by rw [HR.out]; rfl, below1 _ _⟩
    by_cases c5 : f ≤ 16 - d
    case neg =>
      have HR : Hid (validS ⟨16, i, f, d⟩ = false) := hi_ (Bool.eq_false_iff.2 (fun h => by have := hv.1 h; omega))
      clear hv
      go_enter Tryz.func58, Tryz.ntmps58
      go_wp2
      go_ret
      exact ⟨by rw [HR.out]; rfl, below1 _ _⟩
    have HR : Hid (validS ⟨16, i, f, d⟩ = true) := hi_ (hv.2 (by omega))
    clear hv
    go_enter Tryz.func58, Tryz.ntmps58
    go_wp2
    go_ret
    exact ⟨by rw [HR.out]; rfl, below1 _ _⟩
  by_cases h32 : z = 32
  case pos =>
    subst h32
    by_cases c0 : 0 ≤ i
    case neg =>
      have HR : Hid (validS ⟨32, i, f, d⟩ = false) := hi_ (Bool.eq_false_iff.2 (fun h => by have := hv.1 h; omega))
      clear hv
      go_enter Tryz.func58, Tryz.ntmps58
      go_wp2
      go_ret
      exact ⟨by rw [HR.out]; rfl, below1 _ _⟩
    by_cases c1 : i < 64
    case neg =>
      have HR : Hid (validS ⟨32, i, f, d⟩ = false) := hi_ (Bool.eq_false_iff.2 (fun h => by have := hv.1 h; omega))
      clear hv
      go_enter Tryz.func58, Tryz.ntmps58
      go_wp2
      go_ret
      exact ⟨by rw [HR.out]; rfl, below1 _ _⟩
    by_cases c2 : 0 ≤ f
    case neg =>
      have HR : Hid (validS ⟨32, i, f, d⟩ = false) := hi_ (Bool.eq_false_iff.2 (fun h => by have := hv.1 h; omega))
      clear hv
      go_enter Tryz.func58, Tryz.ntmps58
      go_wp2
      go_ret
      exact ⟨by rw [HR.out]; rfl, below1 _ _⟩
    by_cases c3 : 1 ≤ d
    case neg =>
      have HR : Hid (validS ⟨32, i, f, d⟩ = false) := hi_ (Bool.eq_false_iff.2 (fun h => by have := hv.1 h; omega))
      clear hv
      go_enter Tryz.func58, Tryz.ntmps58
      go_wp2
      go_ret
      exact ⟨by rw [HR.out]; rfl, below1 _ _⟩
    by_cases c4 : d ≤ 32
    case neg =>
      have HR : Hid (validS ⟨32, i, f, d⟩ = false) := hi_ (Bool.eq_false_iff.2 (fun h => by have := hv.1 h; omega))
      clear hv
      go_enter Tryz.func58, Tryz.ntmps58
      go_wp2
      go_ret
      exact ⟨by rw [HR.out]; rfl, below1 _ _⟩
    by_cases c5 : f ≤ 32 - d
    case neg =>
      have HR : Hid (validS ⟨32, i, f, d⟩ = false) := hi_ (Bool.eq_false_iff.2 (fun h => by have := hv.1 h; omega))
      clear hv
      go_enter Tryz.func58, Tryz.ntmps58
      go_wp2
      go_ret
      exact ⟨by rw [HR.out]; rfl, below1 _ _⟩
    have HR : Hid (validS ⟨32, i, f, d⟩ = true) := hi_ (hv.2 (by omega))
    clear hv
    go_enter Tryz.func58, Tryz.ntmps58
    go_wp2
    go_ret
    exact ⟨by rw [HR.out]; rfl, below1 _ _⟩
  have b8 : (z == 8) = false := beq_eq_false_iff_ne.2 h8
  have b16 : (z == 16) = false := beq_eq_false_iff_ne.2 h16
  have b32 : (z == 32) = false := beq_eq_false_iff_ne.2 h32
  have HR : Hid (validS ⟨z, i, f, d⟩ = false) := hi_ (Bool.eq_false_iff.2 (fun h => by have := hv.1 h; omega))
  clear hv
  go_enter Tryz.func58, Tryz.ntmps58
  go_wp2
  go_ret
  exact ⟨by rw [HR.out]; rfl, below1 _ _⟩
theorem rvalidSlot_any (z i f d : Int) (w : World) : Calls Tryz.prog 18 #[.agg #[.int .i64 z, .int .i64 i, .int .i64 f, .int .i64 d]] w fun e w' => e = .returned (.bool (validS ⟨z, i, f, d⟩)) ∧ Below w.heap.size w w' := by
  have hv := validS_iff (s := ⟨z, i, f, d⟩)
  simp only at hv
  by_cases h8 : z = 8
  case pos =>
    subst h8
    by_cases c0 : 0 ≤ i
    case neg =>
      have HR : Hid (validS ⟨8, i, f, d⟩ = false) := hi_ (Bool.eq_false_iff.2 (fun h => by have := hv.1 h; omega))
      clear hv
      go_enter Tryz.func18, Tryz.ntmps18
      go_wp2
      go_ret
      exact ⟨by rw [HR.out]; rfl, below1 _ _⟩
    by_cases c1 : i < 64
    case neg =>
      have HR : Hid (validS ⟨8, i, f, d⟩ = false) := hi_ (Bool.eq_false_iff.2 (fun h => by have := hv.1 h; omega))
      clear hv
      go_enter Tryz.func18, Tryz.ntmps18
      go_wp2
      go_ret
      exact ⟨by rw [HR.out]; rfl, below1 _ _⟩
    by_cases c2 : 0 ≤ f
    case neg =>
      have HR : Hid (validS ⟨8, i, f, d⟩ = false) := hi_ (Bool.eq_false_iff.2 (fun h => by have := hv.1 h; omega))
      clear hv
      go_enter Tryz.func18, Tryz.ntmps18
      go_wp2
      go_ret
      exact ⟨by rw [HR.out]; rfl, below1 _ _⟩
    by_cases c3 : f < 8
    case neg =>
      have HR : Hid (validS ⟨8, i, f, d⟩ = false) := hi_ (Bool.eq_false_iff.2 (fun h => by have := hv.1 h; omega))
      clear hv
      go_enter Tryz.func18, Tryz.ntmps18
      go_wp2
      go_ret
      exact ⟨by rw [HR.out]; rfl, below1 _ _⟩
    by_cases c4 : 1 ≤ d
    case neg =>
      have HR : Hid (validS ⟨8, i, f, d⟩ = false) := hi_ (Bool.eq_false_iff.2 (fun h => by have := hv.1 h; omega))
      clear hv
      go_enter Tryz.func18, Tryz.ntmps18
      go_wp2
      go_ret
      exact ⟨by rw [HR.out]; rfl, below1 _ _⟩
    by_cases c5 : d ≤ 8 - f
    case neg =>
      have HR : Hid (validS ⟨8, i, f, d⟩ = false) := hi_ (Bool.eq_false_iff.2 (fun h => by have := hv.1 h; omega))
      clear hv
      go_enter Tryz.func18, Tryz.ntmps18
      go_wp2
      go_ret
      exact ⟨by rw [HR.out]; rfl, below1 _ _⟩
    have HR : Hid (validS ⟨8, i, f, d⟩ = true) := hi_ (hv.2 (by omega))
    clear hv
    go_enter Tryz.func18, Tryz.ntmps18
    go_wp2
    go_ret
    exact ⟨by rw [HR.out]; rfl, below1 _ _⟩
  by_cases h16 : z = 16
  case pos =>
    subst h16
    by_cases c0 : 0 ≤ i
    case neg =>
      have HR : Hid (validS ⟨16, i, f, d⟩ = false) := hi_ (Bool.eq_false_iff.2 (fun h => by have := hv.1 h; omega))
      clear hv
      go_enter Tryz.func18, Tryz.ntmps18
      go_wp2
      go_ret
      exact ⟨by rw [HR.out]; rfl, below1 _ _⟩
    by_cases c1 : i < 64
    case neg =>
      have HR : Hid (validS ⟨16, i, f, d⟩ = false) := hi_ (Bool.eq_false_iff.2 (fun h => by have := hv.1 h; omega))
      clear hv
      go_enter Tryz.func18, Tryz.ntmps18
      go_wp2
      go_ret
      exact ⟨by rw [HR.out]; rfl, below1 _ _⟩
    by_cases c2 : 0 ≤ f
    case neg =>
      have HR : Hid (validS ⟨16, i, f, d⟩ = false) := hi_ (Bool.eq_false_iff.2 (fun h => by have := hv.1 h; omega))
      clear hv
      go_enter Tryz.func18, Tryz.ntmps18
      go_wp2
      go_ret
      exact ⟨by rw [HR.out]; rfl, below1 _ _⟩
    by_cases c3 : f < 16
    case neg =>
      have HR : Hid (validS ⟨16, i, f, d⟩ = false) := hi_ (Bool.eq_false_iff.2 (fun h => by have := hv.1 h; omega))
      clear hv
      go_enter Tryz.func18, Tryz.ntmps18
      go_wp2
      go_ret
      exact ⟨by rw [HR.out]; rfl, below1 _ _⟩
    by_cases c4 : 1 ≤ d
    case neg =>
      have HR : Hid (validS ⟨16, i, f, d⟩ = false) := hi_ (Bool.eq_false_iff.2 (fun h => by have := hv.1 h; omega))
      clear hv
      go_enter Tryz.func18, Tryz.ntmps18
      go_wp2
      go_ret
      exact ⟨by rw [HR.out]; rfl, below1 _ _⟩
    by_cases c5 : d ≤ 16 - f
    case neg =>
      have HR : Hid (validS ⟨16, i, f, d⟩ = false) := hi_ (Bool.eq_false_iff.2 (fun h => by have := hv.1 h; omega))
      clear hv
      go_enter Tryz.func18, Tryz.ntmps18
      go_wp2
      go_ret
      exact ⟨by rw [HR.out]; rfl, below1 _ _⟩
    have HR : Hid (validS ⟨16, i, f, d⟩ = true) := hi_ (hv.2 (by omega))
    clear hv
    go_enter Tryz.func18, Tryz.ntmps18
    go_wp2
    go_ret
    exact ⟨by rw [HR.out]; rfl, below1 _ _⟩
  by_cases h32 : z = 32
  case pos =>
    subst h32
    by_cases c0 : 0 ≤ i
    case neg =>
      have HR : Hid (validS ⟨32, i, f, d⟩ = false) := hi_ (Bool.eq_false_iff.2 (fun h => by have := hv.1 h; omega))
      clear hv
      go_enter Tryz.func18, Tryz.ntmps18
      go_wp2
      go_ret
      exact ⟨by rw [HR.out]; rfl, below1 _ _⟩
    by_cases c1 : i < 64
    case neg =>
      have HR : Hid (validS ⟨32, i, f, d⟩ = false) := hi_ (Bool.eq_false_iff.2 (fun h => by have := hv.1 h; omega))
      clear hv
      go_enter Tryz.func18, Tryz.ntmps18
      go_wp2
      go_ret
      exact ⟨by rw [HR.out]; rfl, below1 _ _⟩
    by_cases c2 : 0 ≤ f
    case neg =>
      have HR : Hid (validS ⟨32, i, f, d⟩ = false) := hi_ (Bool.eq_false_iff.2 (fun h => by have := hv.1 h; omega))
      clear hv
      go_enter Tryz.func18, Tryz.ntmps18
      go_wp2
      go_ret
      exact ⟨by rw [HR.out]; rfl, below1 _ _⟩
    by_cases c3 : f < 32
    case neg =>
      have HR : Hid (validS ⟨32, i, f, d⟩ = false) := hi_ (Bool.eq_false_iff.2 (fun h => by have := hv.1 h; omega))
      clear hv
      go_enter Tryz.func18, Tryz.ntmps18
      go_wp2
      go_ret
      exact ⟨by rw [HR.out]; rfl, below1 _ _⟩
    by_cases c4 : 1 ≤ d
    case neg =>
      have HR : Hid (validS ⟨32, i, f, d⟩ = false) := hi_ (Bool.eq_false_iff.2 (fun h => by have := hv.1 h; omega))
      clear hv
      go_enter Tryz.func18, Tryz.ntmps18
      go_wp2
      go_ret
      exact ⟨by rw [HR.out]; rfl, below1 _ _⟩
    by_cases c5 : d ≤ 32 - f
    case neg =>
      have HR : Hid (validS ⟨32, i, f, d⟩ = false) := hi_ (Bool.eq_false_iff.2 (fun h => by have := hv.1 h; omega))
      clear hv
      go_enter Tryz.func18, Tryz.ntmps18
      go_wp2
      go_ret
      exact ⟨by rw [HR.out]; rfl, below1 _ _⟩
    have HR : Hid (validS ⟨32, i, f, d⟩ = true) := hi_ (hv.2 (by omega))
    clear hv
    go_enter Tryz.func18, Tryz.ntmps18
    go_wp2
    go_ret
    exact ⟨by rw [HR.out]; rfl, below1 _ _⟩
  have b8 : (z == 8) = false := beq_eq_false_iff_ne.2 h8
  have b16 : (z == 16) = false := beq_eq_false_iff_ne.2 h16
  have b32 : (z == 32) = false := beq_eq_false_iff_ne.2 h32
  have HR : Hid (validS ⟨z, i, f, d⟩ = false) := hi_ (Bool.eq_false_iff.2 (fun h => by have := hv.1 h; omega))
  clear hv
  go_enter Tryz.func18, Tryz.ntmps18
  go_wp2
  go_ret
  exact ⟨by rw [HR.out]; rfl, below1 _ _⟩
theorem mask64 {s : SlotD} (h : validS s = true) : IntKind.u64.wrap (IntKind.u64.wrap (2 ^ s.width.toNat) - 1) % 4294967296 = (maskM s.width : Int) := by
  obtain ⟨o, w, h1, h2, ho, hle, hw1, hm⟩ := slot_nat h
  have hp : 2 ^ w ≤ 2 ^ 32 := Nat.pow_le_pow_right (by decide) (by omega)
  have hp0 : 0 < 2 ^ w := Nat.pow_pos (by decide)
  rw [hm, h2, show (w : Int).toNat = w from rfl, show (2 : Int) ^ w = ((2 ^ w : Nat) : Int) by simp]
  rw [IntWalk.u64_in ((2 ^ w : Nat) : Int) (by omega), IntWalk.u64_in (((2 ^ w : Nat) : Int) - 1) (by omega)]
  omega
theorem pmask_any (s : SlotD) (hv : validS s = true) (w : World) : Calls Tryz.prog 103 #[.agg #[.int .i64 s.size, .int .i64 s.index, .int .i64 s.off, .int .i64 s.width]] w fun e w' => e = .returned (.int .u32 (maskS s)) ∧ Below w.heap.size w w' := by
  have HM := hi_ (mask64 hv)
  have HR : Hid (maskS s = (maskM s.width : Int) * 2 ^ s.off.toNat % 4294967296) := hi_ (IntKind.wrap_u32 _)
  obtain ⟨z, i, f, d⟩ := s
  have hr := validS_iff.1 hv
  simp only at hr HM HR ⊢
  have hz0 : 0 ≤ f := by omega
  have hz1 : f ≤ 32 := by omega
  have hd0 : 0 ≤ d := by omega
  have hd1 : d ≤ 64 := by omega
  clear hv hr
  go_enter Tryz.func103, Tryz.ntmps103
  go_upto_region 1 with fail
  go_quiet (fail)
  go_wp2
  go_ret
  exact ⟨by rw [HR.out, ← HM.out]; rfl, below_drewN (below1 _ _) _⟩
theorem pbit_any (b : Bool) (w : World) : Calls Tryz.prog 61 #[.bool b] w fun e w' => e = .returned (.int .u32 (if b = true then 1 else 0)) ∧ w = w' := by
  cases b
  all_goals
    go_enter Tryz.func61, Tryz.ntmps61
    go_wp2
    go_ret
    exact ⟨rfl, rfl⟩
theorem eql_ref (a b c d : Int) (w : World) : Sem.run Tryz.prog (binOp .eql 98 (.agg #[.int .i64 a, .int .i64 b]) (.agg #[.int .i64 c, .int .i64 d])) w = .ok (.bool ((a == c) && (b == d))) w := by
  have hS : Tryz.prog.underlying 98 = some (.struct (Tryz.prog.fieldsOf 98)) := by kernel_rfl
  have hp : Tryz.prog.stoodInHeld 98 = false := by kernel_rfl
  have u0 := Tryz.underlying3
  have a0 := Tryz.isAgg3
  have z0 := Tryz.sizeOf3
  rw [run_eql_struct, show (10000 : Nat) = 9999 + 1 from rfl, run_equalIn_agg w 9999 98 _ _ hS hp]
  simp only [Program.fieldsOf, Tryz.underlying98]
  go_simp
  repeat' split
  all_goals simp_all
def elemL (e : EnvD) (h : Int) : L Int := if h = -1 then e.metaV else atU e.fields h
def elemB (e : EnvD) (h f : Int) : Bool := (decide (h = -1) || atB e.valid h) && (decide (0 ≤ f) && decide (f < ((elemL e h).l.length : Int)))
theorem elem_ok {w : World} {e : EnvD} (o : EnvOk w e) (h : Int) : LOkN w 1 ucell (elemL e h) := by
  unfold elemL
  split
  · exact o.metaV
  · unfold atU
    split
    · exact ⟨⟨Nat.zero_le _, .inl rfl⟩, fun _ => rfl⟩
    · rcases hk : e.fields.l[h.toNat]? with _ | y
      · exact ⟨⟨Nat.zero_le _, .inl rfl⟩, fun _ => rfl⟩
      · exact o.each y (List.mem_of_getElem? hk)
theorem getE_eq (e : EnvD) (h f : Int) : getE e.bare h f = if elemB e h f = true then (elemL e h).l.getD f.toNat 0 else 0 := by
  unfold getE elemB elemL
  by_cases h1 : h = -1
  · subst h1
    simp only [if_true, decide_true, Bool.true_or, Bool.true_and]
    by_cases h2 : f < 0
    · rw [if_pos h2, if_neg (by simp; omega)]
    · rw [if_neg h2]
      show e.metaV.l.getD f.toNat 0 = _
      by_cases h3 : f < (e.metaV.l.length : Int)
      · rw [if_pos (by simp; omega)]
      · rw [if_neg (by simp; omega), List.getD_eq_getElem?_getD, List.getElem?_eq_none (by omega)]; rfl
  · rw [if_neg h1]
    simp only [h1, decide_false, Bool.false_or, if_false]
    by_cases h2 : h < 0 ∨ f < 0
    · rw [if_pos h2, if_neg]
      rintro h3
      simp only [Bool.and_eq_true, decide_eq_true_eq] at h3
      obtain ⟨h4, h5, h6⟩ := h3
      rcases h2 with h2 | h2
      · rw [atB, if_pos h2] at h4; cases h4
      · omega
    · rw [if_neg h2]
      have e1 : atB e.valid h = e.bare.valid.getD h.toNat false := by rw [atB, if_neg (by omega), List.getD_eq_getElem?_getD]; rfl
      have e2 : (atU e.fields h).l = e.bare.fields.getD h.toNat [] := by
        rw [atU, if_neg (by omega), List.getD_eq_getElem?_getD]
        show _ = ((e.fields.l.map L.l)[h.toNat]?).getD []
        rw [List.getElem?_map]
        cases e.fields.l[h.toNat]? <;> rfl
      rw [e1, e2]
      by_cases h3 : e.bare.valid.getD h.toNat false = true
      · rw [if_pos h3]
        generalize e.bare.fields.getD h.toNat [] = fl
        by_cases h4 : f < (fl.length : Int)
        · rw [if_pos (by rw [h3]; simp; omega)]
        · rw [if_neg (by simp; omega)]
          conv => lhs; rw [List.getD_eq_getElem?_getD, List.getElem?_eq_none (by omega)]
          rfl
      · rw [if_neg h3, if_neg (by simp only [Bool.and_eq_true]; exact fun h => h3 h.1)]
theorem element_any (e : EnvD) (h f : Int) (w : World) (o : EnvOk w e) :
    Calls Tryz.prog 109 #[.agg (envCells e), .agg #[.int .i64 h, .int .i64 f]] w fun r w' => r = .returned (.tuple #[.slice (elemL e h).A (elemL e h).l.length (elemL e h).c, .bool (elemB e h f)]) ∧ Below w.heap.size w w' := by
  obtain ⟨W, hW, hw, HB, hp⟩ := box2 w (envCells e) 56 #[.int .i64 h, .int .i64 f] 98
  have HW := hi_ hw
  have HO := hi_ (o.below hw)
  have heq := eql_ref h f (-1) f
  have H0 := hi_ (Below.refl W.heap.size W)
  clear o hw
  by_cases h1 : h = -1
  · subst h1
    have heq2 : ∀ w : World, Sem.run Tryz.prog (binOp .eql 98 (.agg #[.int .i64 (-1), .int .i64 f]) (.agg #[.int .i64 (-1), .int .i64 f])) w = .ok (.bool true) w := fun w => by rw [heq]; simp
    have HR : Hid (elemL e (-1) = e.metaV ∧ elemB e (-1) f = (decide (0 ≤ f) && decide (f < (e.metaV.l.length : Int)))) := hi_ ⟨rfl, by simp [elemB, elemL]⟩
    clear heq
    go_enter Tryz.func109, Tryz.ntmps109
    go_upto_region 1 with fail
    rw [← hW]
    clear hW
    have hp3 := hp W HB
    go_upto_region 2 with fail
    clear hp3
    go_region_held3 (fun w' => Below W.heap.size W w') (first | exact H0.out | exact below_drew H0.out | (exact below_step (by assumption) (by assumption)) | assumption)
      (first | (go_at_call 162; refine (inB_u32 e.metaV f _).mono ?_; rintro r w5 ⟨rfl, rfl⟩))
    have HB5 : Hid (Below W.heap.size W _) := hi_ (by assumption)
    go_wp2
    go_ret2
    exact ⟨by rw [HR.out.1, HR.out.2]; rfl, below_step HW.out HB5.out⟩
  · have h1b : (h == -1) = false := beq_eq_false_iff_ne.2 h1
    have heq2 : ∀ w : World, Sem.run Tryz.prog (binOp .eql 98 (.agg #[.int .i64 h, .int .i64 f]) (.agg #[.int .i64 (-1), .int .i64 f])) w = .ok (.bool false) w := fun w => by rw [heq, h1b]; rfl
    have HR : Hid (elemL e h = atU e.fields h ∧ elemB e h f = (atB e.valid h && (decide (0 ≤ f) && decide (f < ((atU e.fields h).l.length : Int))))) := hi_ ⟨by rw [elemL, if_neg h1], by simp [elemB, elemL, h1]⟩
    clear heq h1 h1b
    go_enter Tryz.func109, Tryz.ntmps109
    go_upto_region 1 with fail
    rw [← hW]
    clear hW
    have hp3 := hp W HB
    go_wp2_with fail
    refine (at_u32s e.fields h _ HO.out.fields.1).mono ?_
    rintro r w' ⟨rfl, rfl⟩
    go_wp2_with fail
    refine (at_bool e.valid h _ HO.out.valid.1).mono ?_
    rintro r w' ⟨rfl, rfl⟩
    cases hb : atB e.valid h with
    | false =>
      rw [hb] at HR
      go_wp2
      go_ret2
      exact ⟨by rw [HR.out.1, HR.out.2]; rfl, below_step HW.out HB⟩
    | true =>
      rw [hb] at HR
      go_wp2_with fail
      refine (inB_u32 (atU e.fields h) f _).mono ?_
      rintro r w' ⟨rfl, rfl⟩
      go_wp2
      go_ret2
      exact ⟨by rw [HR.out.1, HR.out.2]; rfl, below_step HW.out HB⟩
theorem get_any (e : EnvD) (h f : Int) (w : World) (o : EnvOk w e) :
    Calls Tryz.prog 102 #[.agg (envCells e), .agg #[.int .i64 h, .int .i64 f]] w fun r w' => r = .returned (.int .u32 (getE e.bare h f)) ∧ Below w.heap.size w w' := by
  obtain ⟨W, hW, hw, HB, hp⟩ := box2 w (envCells e) 56 #[.int .i64 h, .int .i64 f] 98
  have HW := hi_ hw
  have HE := hi_ (fun u (hb : Below W.heap.size W u) => element_any e h f u (o.below (below_step hw hb)))
  have HL := hi_ (fun u (hb : Below W.heap.size W u) => (elem_ok (o.below (below_step hw hb)) h).1)
  have HG := hi_ (getE_eq e h f)
  have HBd := hi_ (elemB.eq_1 e h f)
  clear o hw
  generalize elemL e h = x at *
  obtain ⟨l, A, c⟩ := x
  simp only at HE HL HG HBd
  cases hb : elemB e h f with
  | false =>
    have HR : Hid (getE e.bare h f = 0) := hi_ (by rw [HG.out, hb]; rfl)
    rw [hb] at HE
    go_enter Tryz.func102, Tryz.ntmps102
    go_upto_region 1 with fail
    rw [← hW]
    clear hW
    have hp3 := hp W HB
    go_wp2_with fail
    refine (HE.out _ (by first | exact HB | exact below_alloc HB _ | exact ba2 HB | exact ba3 HB)).mono ?_
    rintro e w1 ⟨rfl, hbN⟩
    replace HB := below_step (by first | exact HB | exact below_alloc HB _ | exact ba2 HB | exact ba3 HB) hbN
    clear hbN
    go_wp2
    go_ret
    exact ⟨by rw [HR.out]; rfl, below_step HW.out HB⟩
  | true =>
    have hbd := HBd.out
    rw [hb] at hbd
    have hf : 0 ≤ f ∧ f < (l.length : Int) := by
      have := hbd.symm
      simp only [Bool.and_eq_true, decide_eq_true_eq] at this
      exact this.2
    obtain ⟨k, rfl⟩ : ∃ k : Nat, f = k := ⟨f.toNat, by omega⟩
    have hk : k < l.length := by omega
    obtain ⟨g, of, hA, d0⟩ := ucell_atA (HL.out W (Below.refl _ _)) hk
    simp only at hA d0
    subst hA
    have HR : Hid (getE e.bare h k = l[k]) := hi_ (by rw [HG.out, hb]; simp [List.getD_eq_getElem?_getD, hk])
    rw [hb] at HE
    have hk' : (k : Int) < (l.length : Int) := by omega
    clear hbd hf HBd HL HG
    generalize l[k] = y at *
    go_enter Tryz.func102, Tryz.ntmps102
    go_upto_region 1 with fail
    rw [← hW]
    clear hW
    have hp3 := hp W HB
    go_wp2_with fail
    refine (HE.out _ (by first | exact HB | exact below_alloc HB _ | exact ba2 HB | exact ba3 HB)).mono ?_
    rintro e w1 ⟨rfl, hbN⟩
    replace HB := below_step (by first | exact HB | exact below_alloc HB _ | exact ba2 HB | exact ba3 HB) hbN
    clear hbN
    clear hp3
    have hp3 := hp _ HB
    have d1 := d0 _ HB
    go_wp2
    go_ret
    exact ⟨by rw [HR.out]; rfl, below_step HW.out HB⟩
theorem row_slice1 {w : World} {B : Nat} {t : TypeId} {k : Nat} {v : Value} {n : Nat} {xs : List Value} (h : w.ownsRow B t k v n xs) : ∃ A c, v = .slice A n c := by
  rcases h.2 with ⟨hv, h0⟩ | ⟨g', cap, cur, hv, _, _, _⟩
  · exact ⟨none, 0, by rw [hv, h0]⟩
  · exact ⟨_, _, hv⟩
theorem range_one {α : Type} (g : Nat → α) (n : Nat) : (List.range (n + 1)).map g = (List.range n).map g ++ [g n] := by rw [List.range_succ, List.map_append]; rfl
theorem cells_split {α : Type} (p : ProgD) (fld : Int → Int → α) (val : Nat → α) : cellsOf p fld val = (partOf p fld p.headers.l.length ++ (List.range p.headers.l.length).map val) ++ (List.range p.metadata.l.length).map fun (f : Nat) => fld (-1) f := by
  rw [cellsOf, List.append_assoc]
theorem pvalues_any (p : ProgD) (e : EnvD) (w : World) (o : ProgOk w p) (hs : AccSm p) (oe : EnvOk w e) :
    Calls Tryz.prog 60 #[.agg (progCells p), .agg (envCells e)] w fun r w' => ∃ A cp, r = .returned (.slice A (cellsN p) cp) ∧ w'.ownsRow w.heap.size 83 1 (.slice A (cellsN p) cp) (cellsN p) ((valsM p e.bare).flatMap ucell) ∧ Below w.heap.size w w' := by
  obtain ⟨W, hW, hw, HB, hpq⟩ := box2 w (progCells p) 31 (envCells e) 56
  have HW := hi_ hw
  have HG := hi_ (fun u (hb : Below W.heap.size W u) (h f : Int) => get_any e h f u (oe.below (below_step hw hb)))
  have HVl := hi_ (oe.below hw).valid
  have HF : Hid (∀ k (h : k < p.headers.l.length), nF p k = p.headers.l[k].fields.l.length) := hi_ (fun k h => nF_at h)
  have HFS := hi_ hs.fields
  have HPL := hi_ (preF_le hs)
  have hH := hs.headers
  have hM := hs.metadata
  have HCS := hi_ (cells_split p (getE e.bare) (fun h => bitI (e.bare.valid.getD h false)))
  have HCL := hi_ (cells_len p (getE e.bare) (fun h => bitI (e.bare.valid.getD h false)))
  obtain ⟨i0, hi, hz0, hz1, hz2⟩ := info_parts info_u32
  obtain ⟨hx, HX⟩ : ∃ x, Hid (x = p.headers) := ⟨_, hi_ rfl⟩
  have hx2 := HX.out
  have HLO : Hid (LOk W 2 HeaderD.cells hx) := hi_ (by rw [hx2]; exact o.headers.below hw (Nat.le_refl _))
  have HF : Hid (∀ k (h : k < hx.l.length), nF p k = hx.l[k].fields.l.length) := hi_ (by rw [hx2]; exact fun k h => nF_at h)
  have hmx : hx.l.length ≤ 9223372036854775807 := HLO.out.1
  simp only [progCells, ← hx2] at hpq hW hH HCS ⊢
  have hsW : w.heap.size ≤ W.heap.size := hw.size
  clear o hs hw oe hx2
  obtain ⟨l, A0, c0⟩ := hx
  obtain ⟨ev, ef, em, ep⟩ := e
  obtain ⟨vl, vA, vc⟩ := ev
  simp only [envCells] at hpq hW HG HVl HCS ⊢
  have HB1 := hi_ HB
  go_enter Tryz.func60, Tryz.ntmps60
  go_upto_region 1 with fail
  rw [← hW]
  clear hW
  have hp3 := hpq W HB
  go_wp2
  clear hp3 HB
  go_loopw [5, 6, 7, 8, 14] (fun out _ _ _ iv wr => ∃ (k n : Nat) (A : Option Addr) (cp : Nat), k ≤ l.length ∧ iv = .int .i64 k ∧ out = .slice A n cp ∧ n ≤ 100 * k ∧ Hid (n = preF p k ∧ wr.ownsRow W.heap.size 83 1 (.slice A n cp) n ((partOf p (getE (EnvD.bare ⟨⟨vl, vA, vc⟩, ef, em, ep⟩)) k).flatMap ucell)) ∧ Below W.heap.size W wr) (fun _ _ _ _ i _ => l.length - (intOf i).toNat)
  case atStart => exact ⟨0, 0, none, 0, Nat.zero_le _, rfl, rfl, Nat.zero_le _, hi_ ⟨rfl, World.ownsRow_nil _ _ _ _⟩, HB1.out⟩
  case round =>
  obtain ⟨k, n, A, cp, hk, rfl, rfl, hn, HO, HB⟩ := hrel
  by_cases hlt : k < l.length
  · obtain ⟨g0, of0, hA, hall⟩ := HeaderD.atA HLO.out hlt
    simp only at hA
    subst hA
    obtain ⟨d0, d1⟩ := hall wr HB
    have HNk := hi_ (HF.out k hlt)
    have HFk := HFS.out k
    rw [HNk.out] at HFk
    generalize l[k] = x at *
    obtain ⟨xn, ⟨xl, xA, xc⟩⟩ := x
    simp only at d0 d1 HNk HFk
    have hca := @World.cell?_alloc_some
    clear hall
    have HBb := hi_ (below_alloc HB (.cells #[.string xn, .slice xA xl.length xc] 96))
    have HOb := hi_ (⟨HO.out.1, HO.out.2.alloc (.cells #[.string xn, .slice xA xl.length xc] 96)⟩ : _ ∧ _)
    clear HB HO
    go_wp2
    clear hca d0 d1
    go_loopw [5, 8, 22] (fun out _ fv wq => ∃ (f m : Nat) (A' : Option Addr) (cp' : Nat), f ≤ xl.length ∧ fv = .int .i64 f ∧ out = .slice A' m cp' ∧ m ≤ 20000 ∧ Hid (m = n + f) ∧ Hid (wq.ownsRow W.heap.size 83 1 (.slice A' m cp') m ((partOf p (getE (EnvD.bare ⟨⟨vl, vA, vc⟩, ef, em, ep⟩)) k ++ (List.range f).map fun (j : Nat) => getE (EnvD.bare ⟨⟨vl, vA, vc⟩, ef, em, ep⟩) k j).flatMap ucell)) ∧ Below W.heap.size W wq) (fun _ _ fv _ => xl.length - (intOf fv).toNat)
    case atStart => exact ⟨0, n, A, cp, Nat.zero_le _, rfl, rfl, by omega, hi_ rfl, hi_ (by simpa using HOb.out.2), HBb.out⟩
    case round =>
      obtain ⟨f, m, A', cp', hf, rfl, rfl, hm, HM, HO, HB⟩ := hrel
      by_cases hfl : f < xl.length
      · have hp3 := hpq wr HB
        have HS : Hid ((List.range (f + 1)).map (fun (j : Nat) => getE (EnvD.bare ⟨⟨vl, vA, vc⟩, ef, em, ep⟩) k j) = (List.range f).map (fun (j : Nat) => getE (EnvD.bare ⟨⟨vl, vA, vc⟩, ef, em, ep⟩) k j) ++ [getE (EnvD.bare ⟨⟨vl, vA, vc⟩, ef, em, ep⟩) k f]) := hi_ (range_one _ _)
        go_wp2_with fail
        refine (HG.out _ HB (k : Int) (f : Int)).mono ?_
        rintro r w5 ⟨rfl, hbN⟩
        have hown := own_below HO.out hbN
        replace HB := below_step HB hbN
        clear hbN hp3 HO
        generalize getE (EnvD.bare ⟨⟨vl, vA, vc⟩, ef, em, ep⟩) k f = v at *
        have HBc := hi_ HB
        go_wp2_with (first
          | (at_builtin; refine wpList_append_own_at _ rfl _ _ 53 rfl W.heap.size 83 i0 _ 1 4 Tryz.underlying53 hi hz0 hz1 hz2 rfl (by decide) _ _ _ rfl (hown.alloc _) ⟨w5.heap.size, 0, none⟩ 1 1 [.int .u32 v] rfl rfl ?g01 ?g02 ?g03 ?g04 ?g05 ?_))
        case g01 => exact new_cells _ _ _
        case g02 => intro u hu; simp only [List.mem_cons, List.not_mem_nil, or_false] at hu; subst hu; rfl
        case g03 => unfold maxLen; omega
        case g04 => omega
        case g05 => have := HBc.out.size; first | omega | (simp; omega)
        intro v1 w6 hown2 hgrow _ _
        obtain ⟨A1, c1, rfl⟩ := row_slice1 hown2
        have HB6 : Hid (Below W.heap.size W w6) := hi_ ((below_alloc HBc.out _).grown hgrow (below_alloc HBc.out _).size fun j hj => (own_lt (hown.alloc (.cells #[.int .u32 v] 83)) j hj).1)
        have HO2 : Hid (w6.ownsRow W.heap.size 83 1 (.slice A1 (m + 1) c1) (m + 1) ((partOf p (getE (EnvD.bare ⟨⟨vl, vA, vc⟩, ef, em, ep⟩)) k ++ (List.range (f + 1)).map fun (j : Nat) => getE (EnvD.bare ⟨⟨vl, vA, vc⟩, ef, em, ep⟩) k j).flatMap ucell)) := hi_ (by rw [HS.out]; simpa [List.flatMap_append, ucell, List.append_assoc] using hown2)
        clear hown hown2 hgrow HB HBc HS
        go_wp2
        go_roundw
        case rel => exact ⟨f + 1, m + 1, A1, c1, by omega, by go_num, rfl, by have := HM.out; omega, hi_ (by have := HM.out; omega), HO2, HB6.out⟩
        case measure => simp [intOf]; omega
      · have e : f = xl.length := by omega
        have HO2 : Hid (m = preF p (k + 1) ∧ wr.ownsRow W.heap.size 83 1 (.slice A' m cp') m ((partOf p (getE (EnvD.bare ⟨⟨vl, vA, vc⟩, ef, em, ep⟩)) (k + 1)).flatMap ucell)) := hi_ ⟨by rw [preF, HNk.out, HM.out, ← HOb.out.1, e], by rw [part_succ, HNk.out, ← e]; exact HO.out⟩
        have hm2 : m ≤ 100 * (k + 1) := by have := HM.out; omega
        clear HO HM HOb HBb
        go_wp2
        go_roundw
        case rel => exact ⟨k + 1, m, A', cp', by omega, by go_num, rfl, hm2, HO2, HB⟩
        case measure => simp [intOf]; omega
  have e : k = l.length := by omega
  have HO1 : Hid (n = preF p l.length ∧ wr.ownsRow W.heap.size 83 1 (.slice A n cp) n ((partOf p (getE (EnvD.bare ⟨⟨vl, vA, vc⟩, ef, em, ep⟩)) l.length).flatMap ucell)) := hi_ (by rw [← e]; exact HO.out)
  have HB2 := hi_ HB
  have hn2 : n ≤ 10000 := by omega
  have hp3 := hpq wr HB
  clear HO e
  go_wp2
  clear hp3 HB
  go_loopw [5, 9, 38] (fun out _ iv wq => ∃ (h m : Nat) (A' : Option Addr) (cp' : Nat), h ≤ l.length ∧ iv = .int .i64 h ∧ out = .slice A' m cp' ∧ m ≤ 20000 ∧ Hid (m = n + h) ∧ Hid (wq.ownsRow W.heap.size 83 1 (.slice A' m cp') m ((partOf p (getE (EnvD.bare ⟨⟨vl, vA, vc⟩, ef, em, ep⟩)) l.length ++ (List.range h).map (fun (h : Nat) => bitI (vl.getD h false))).flatMap ucell)) ∧ Below W.heap.size W wq) (fun _ _ iv _ => l.length - (intOf iv).toNat)
  case atStart => exact ⟨0, n, A, cp, Nat.zero_le _, rfl, rfl, by omega, hi_ rfl, hi_ (by simpa using HO1.out.2), HB2.out⟩
  case round =>
  obtain ⟨h, m, A', cp', hh, rfl, rfl, hm, HM, HO, HB⟩ := hrel
  by_cases hlt : h < l.length
  · have HS : Hid ((List.range (h + 1)).map (fun (h : Nat) => bitI (vl.getD h false)) = (List.range h).map (fun (h : Nat) => bitI (vl.getD h false)) ++ [bitI (vl.getD h false)]) := hi_ (range_one _ _)
    have hp3 := hpq wr HB
    have hown := HO.out
    have HBc := hi_ HB
    have hh' : (h : Int) < (l.length : Int) := by omega
    by_cases hv : h < vl.length
    · obtain ⟨g0, of0, hA, d0⟩ := bcell_atA HVl.out.1 hv
      simp only at hA d0
      subst hA
      have d1 := d0 wr HB
      have hb : vl.getD h false = vl[h] := by simp [List.getD_eq_getElem?_getD, hv]
      rw [hb] at HS
      have hv' : (h : Int) < (vl.length : Int) := by omega
      have HSs := hi_ HS.out
      clear HS hb d0
      generalize vl[h] = b at *
      go_wp2_with fail
      refine (pbit_any b _).mono ?_
      rintro r w' ⟨rfl, rfl⟩
      have HVb : Hid ((if b = true then (1 : Int) else 0) = bitI b) := hi_ rfl
      generalize (if b = true then (1 : Int) else 0) = v at *
      go_wp2_with (first
        | (at_builtin; refine wpList_append_own_at _ rfl _ _ 53 rfl W.heap.size 83 i0 _ 1 4 Tryz.underlying53 hi hz0 hz1 hz2 rfl (by decide) _ _ _ rfl (hown.alloc _) ⟨wr.heap.size, 0, none⟩ 1 1 [.int .u32 v] rfl rfl ?p01 ?p02 ?p03 ?p04 ?p05 ?_))
      case p01 => exact new_cells _ _ _
      case p02 => intro u hu; simp only [List.mem_cons, List.not_mem_nil, or_false] at hu; subst hu; rfl
      case p03 => unfold maxLen; omega
      case p04 => omega
      case p05 => have := HBc.out.size; first | omega | (simp; omega)
      intro v1 w6 hown2 hgrow _ _
      obtain ⟨A1, c1, rfl⟩ := row_slice1 hown2
      have HB6 : Hid (Below W.heap.size W w6) := hi_ ((below_alloc HBc.out _).grown hgrow (below_alloc HBc.out _).size fun j hj => (own_lt (hown.alloc (.cells #[.int .u32 v] 83)) j hj).1)
      have HO2 : Hid (w6.ownsRow W.heap.size 83 1 (.slice A1 (m + 1) c1) (m + 1) ((partOf p (getE (EnvD.bare ⟨⟨vl, some ⟨g0, of0, none⟩, vc⟩, ef, em, ep⟩)) l.length ++ (List.range (h + 1)).map (fun (h : Nat) => bitI (vl.getD h false))).flatMap ucell)) := hi_ (by rw [HSs.out, ← HVb.out]; simpa [List.flatMap_append, ucell, List.append_assoc] using hown2)
      clear hown hown2 hgrow HB HBc HSs hp3 d1
      go_wp2
      go_roundw
      case rel => exact ⟨h + 1, m + 1, A1, c1, by omega, by go_num, rfl, by have := HM.out; omega, hi_ (by have := HM.out; omega), HO2, HB6.out⟩
      case measure => simp [intOf]; omega
    · have hb : bitI (vl.getD h false) = 0 := by rw [List.getD_eq_getElem?_getD, List.getElem?_eq_none (by omega)]; rfl
      rw [hb] at HS
      have hv' : ¬ (h : Int) < (vl.length : Int) := by omega
      have HSs := hi_ HS.out
      clear HS hb
      go_wp2_with fail
      refine (pbit_any false _).mono ?_
      rintro r w' ⟨rfl, rfl⟩
      go_wp2_with (first
        | (at_builtin; refine wpList_append_own_at _ rfl _ _ 53 rfl W.heap.size 83 i0 _ 1 4 Tryz.underlying53 hi hz0 hz1 hz2 rfl (by decide) _ _ _ rfl (hown.alloc _) ⟨wr.heap.size, 0, none⟩ 1 1 [.int .u32 0] rfl rfl ?q01 ?q02 ?q03 ?q04 ?q05 ?_))
      case q01 => exact new_cells _ _ _
      case q02 => intro u hu; simp only [List.mem_cons, List.not_mem_nil, or_false] at hu; subst hu; rfl
      case q03 => unfold maxLen; omega
      case q04 => omega
      case q05 => have := HBc.out.size; first | omega | (simp; omega)
      intro v1 w6 hown2 hgrow _ _
      obtain ⟨A1, c1, rfl⟩ := row_slice1 hown2
      have HB6 : Hid (Below W.heap.size W w6) := hi_ ((below_alloc HBc.out _).grown hgrow (below_alloc HBc.out _).size fun j hj => (own_lt (hown.alloc (.cells #[.int .u32 0] 83)) j hj).1)
      have HO2 : Hid (w6.ownsRow W.heap.size 83 1 (.slice A1 (m + 1) c1) (m + 1) ((partOf p (getE (EnvD.bare ⟨⟨vl, vA, vc⟩, ef, em, ep⟩)) l.length ++ (List.range (h + 1)).map (fun (h : Nat) => bitI (vl.getD h false))).flatMap ucell)) := hi_ (by rw [HSs.out]; simpa [List.flatMap_append, ucell, List.append_assoc] using hown2)
      clear hown hown2 hgrow HB HBc HSs hp3
      go_wp2
      go_roundw
      case rel => exact ⟨h + 1, m + 1, A1, c1, by omega, by go_num, rfl, by have := HM.out; omega, hi_ (by have := HM.out; omega), HO2, HB6.out⟩
      case measure => simp [intOf]; omega
  have e : h = l.length := by omega
  have HO3 : Hid (m = n + l.length ∧ wr.ownsRow W.heap.size 83 1 (.slice A' m cp') m ((partOf p (getE (EnvD.bare ⟨⟨vl, vA, vc⟩, ef, em, ep⟩)) l.length ++ (List.range l.length).map (fun (h : Nat) => bitI (vl.getD h false))).flatMap ucell)) := hi_ ⟨by have h1 := HM.out; rw [e] at h1; exact h1, by have h1 := HO.out; rw [e] at h1; exact h1⟩
  have HB3 := hi_ HB
  have hm2 : m ≤ 10100 := by have := HO3.out.1; omega
  have hp3 := hpq wr HB
  clear HO HM e
  go_wp2
  clear hp3 HB
  go_loopw [5, 10, 61] (fun out _ iv wq => ∃ (f q : Nat) (A2 : Option Addr) (cp2 : Nat), f ≤ p.metadata.l.length ∧ iv = .int .i64 f ∧ out = .slice A2 q cp2 ∧ q ≤ 20000 ∧ Hid (q = m + f) ∧ Hid (wq.ownsRow W.heap.size 83 1 (.slice A2 q cp2) q (((partOf p (getE (EnvD.bare ⟨⟨vl, vA, vc⟩, ef, em, ep⟩)) l.length ++ (List.range l.length).map (fun (h : Nat) => bitI (vl.getD h false))) ++ (List.range f).map fun (j : Nat) => getE (EnvD.bare ⟨⟨vl, vA, vc⟩, ef, em, ep⟩) (-1) j).flatMap ucell)) ∧ Below W.heap.size W wq) (fun _ _ iv _ => p.metadata.l.length - (intOf iv).toNat)
  case atStart => exact ⟨0, m, A', cp', Nat.zero_le _, rfl, rfl, by omega, hi_ rfl, hi_ (by simpa using HO3.out.2), HB3.out⟩
  case round =>
  obtain ⟨f, q, A2, cp2, hf, rfl, rfl, hq, HM, HO, HB⟩ := hrel
  by_cases hlt : f < p.metadata.l.length
  · have HS : Hid ((List.range (f + 1)).map (fun (j : Nat) => getE (EnvD.bare ⟨⟨vl, vA, vc⟩, ef, em, ep⟩) (-1) j) = (List.range f).map (fun (j : Nat) => getE (EnvD.bare ⟨⟨vl, vA, vc⟩, ef, em, ep⟩) (-1) j) ++ [getE (EnvD.bare ⟨⟨vl, vA, vc⟩, ef, em, ep⟩) (-1) f]) := hi_ (range_one _ _)
    have hf' : (f : Int) < (p.metadata.l.length : Int) := by omega
    have hp3 := hpq wr HB
    go_wp2_with fail
    refine (HG.out _ HB (-1 : Int) (f : Int)).mono ?_
    rintro r w5 ⟨rfl, hbN⟩
    have hown := own_below HO.out hbN
    replace HB := below_step HB hbN
    clear hbN hp3 HO
    generalize getE (EnvD.bare ⟨⟨vl, vA, vc⟩, ef, em, ep⟩) (-1) f = v at *
    have HBc := hi_ HB
    go_wp2_with (first
      | (at_builtin; refine wpList_append_own_at _ rfl _ _ 53 rfl W.heap.size 83 i0 _ 1 4 Tryz.underlying53 hi hz0 hz1 hz2 rfl (by decide) _ _ _ rfl (hown.alloc _) ⟨w5.heap.size, 0, none⟩ 1 1 [.int .u32 v] rfl rfl ?r01 ?r02 ?r03 ?r04 ?r05 ?_))
    case r01 => exact new_cells _ _ _
    case r02 => intro u hu; simp only [List.mem_cons, List.not_mem_nil, or_false] at hu; subst hu; rfl
    case r03 => unfold maxLen; omega
    case r04 => omega
    case r05 => have := HBc.out.size; first | omega | (simp; omega)
    intro v1 w6 hown2 hgrow _ _
    obtain ⟨A1, c1, rfl⟩ := row_slice1 hown2
    have HB6 : Hid (Below W.heap.size W w6) := hi_ ((below_alloc HBc.out _).grown hgrow (below_alloc HBc.out _).size fun j hj => (own_lt (hown.alloc (.cells #[.int .u32 v] 83)) j hj).1)
    have HO2 : Hid (w6.ownsRow W.heap.size 83 1 (.slice A1 (q + 1) c1) (q + 1) (((partOf p (getE (EnvD.bare ⟨⟨vl, vA, vc⟩, ef, em, ep⟩)) l.length ++ (List.range l.length).map (fun (h : Nat) => bitI (vl.getD h false))) ++ (List.range (f + 1)).map fun (j : Nat) => getE (EnvD.bare ⟨⟨vl, vA, vc⟩, ef, em, ep⟩) (-1) j).flatMap ucell)) := hi_ (by rw [HS.out]; simpa [List.flatMap_append, ucell, List.append_assoc] using hown2)
    clear hown hown2 hgrow HB HBc HS
    go_wp2
    go_roundw
    case rel => exact ⟨f + 1, q + 1, A1, c1, by omega, by go_num, rfl, by have := HM.out; omega, hi_ (by have := HM.out; omega), HO2, HB6.out⟩
    case measure => simp [intOf]; omega
  have e : f = p.metadata.l.length := by omega
  have HQ : Hid (q = cellsN p) := hi_ (by have h1 := HX.out; have h2 := HM.out; have h3 := HO3.out.1; have h4 := HO1.out.1; unfold cellsN fN; rw [← h1]; simp only; omega)
  have HOf : Hid (wr.ownsRow W.heap.size 83 1 (.slice A2 q cp2) q ((valsM p (EnvD.bare ⟨⟨vl, vA, vc⟩, ef, em, ep⟩)).flatMap ucell)) := hi_ (by
    rw [valsM, HCS.out, ← e]; exact HO.out)
  clear HO
  go_wp2
  go_ret
  have h1 := HQ.out
  have h2 := HOf.out
  subst h1
  exact ⟨A2, cp2, rfl, ⟨h2.1, by
    rcases h2.2 with h0 | ⟨g, cap, cur, e, hbg, hr⟩
    · exact .inl h0
    · exact .inr ⟨g, cap, cur, e, Nat.le_trans hsW hbg, hr⟩⟩, below_step HW.out HB⟩
open Go.RowKit Go.WideShapes Go.ChangeShapes
theorem list_of {α : Type} {Q : Nat → α → Prop} (n : Nat) (h : ∀ i, i < n → ∃ d, Q i d) : ∃ l : List α, l.length = n ∧ ∀ i (hi : i < l.length), Q i l[i] := by
  refine ⟨List.ofFn (fun i : Fin n => Classical.choose (h i.1 i.2)), by simp, fun i hi => ?_⟩
  rw [List.getElem_ofFn]
  exact Classical.choose_spec (h i (by simpa using hi))
theorem cut_get {cs ys : List Value} {o k : Nat} (h : (cs.drop o).take k = ys) : ∀ j, j < ys.length → cs[o + j]? = ys[j]? := by
  intro j hj
  have hk : j < k := by
    have := congrArg List.length h
    simp at this
    omega
  rw [← h, List.getElem?_take_of_lt hk, List.getElem?_drop]
section
variable {H : Type} (enc : TypeId × Value → H) (P : Program) (w : World) (base : Nat) (held : Bool)
def RdB (N : Nat) (t : TypeId) {α : Type} (cells : α → List Value) (Ok : α → Prop) : Prop :=
  ∀ m, m < N → ∀ (cs : List Value) (x : DataW H × List MemPlace), DataW.trod enc P w base (fun _ => true) held m t cs = some x → (∀ n ∈ x.1.weights P t, n ≤ reachBytes) → ∃ d : α, cs = cells d ∧ Ok d
end
section
variable {H : Type} {enc : TypeId × Value → H} {P : Program} {w : World} {base : Nat} {held : Bool} {N : Nat}
theorem RdB.mono {t : TypeId} {α : Type} {cells : α → List Value} {Ok : α → Prop} {M : Nat} (h : RdB enc P w base held N t cells Ok) (hM : M ≤ N) : RdB enc P w base held M t cells Ok :=
  fun m hm cs x hx => h m (by omega) cs x hx
theorem rd_int {t : TypeId} {k : IntKind} (ht : P.underlying t = some (.int k)) : RdB enc P w base held N t (fun z : Int => [.int k z]) (fun z => (Lit.int k z).wf = true) := by
  intro m _ cs x h _
  obtain ⟨n, e, _, hw⟩ := DataW.trod_int ht h
  exact ⟨n, e, hw⟩
theorem rd_str {t : TypeId} (ht : P.underlying t = some .string) : RdB enc P w base held N t (fun s : ByteArray => [.string s]) (fun s => s.size ≤ maxLen) := by
  intro m _ cs x h _
  obtain ⟨s, e, _, hw⟩ := DataW.trod_string ht h
  exact ⟨s, e, hw⟩
theorem rd_bool {t : TypeId} (ht : P.underlying t = some .bool) : RdB enc P w base held N t (fun b : Bool => [.bool b]) (fun _ => True) := by
  intro m _ cs x h _
  obtain ⟨b, e, _⟩ := DataW.trod_bool ht h
  exact ⟨b, e, trivial⟩
theorem mem_weightsAll {e : TypeId} {d : DataW H} : ∀ {l : List (DataW H)}, d ∈ l → ∀ {n : Nat}, n ∈ d.weights P e → n ∈ DataW.weightsAll P e l
  | x :: l, hd, n, hn => by
    simp only [DataW.weightsAll, List.mem_append]
    rcases List.mem_cons.1 hd with rfl | h
    · exact .inl hn
    · exact .inr (mem_weightsAll h hn)
structure ListOk (w : World) (k kb : Nat) {α : Type} (cells : α → List Value) (Ok : α → Prop) (y : L α) : Prop where
  lok : LOk w k cells y
  all : ∀ d ∈ y.l, Ok d
  nil : y.A = none → y.c = 0
  le : y.l.length ≤ y.c
  cap : y.c ≤ maxLen
  bytes : y.c * kb ≤ reachBytes
theorem rd_list {t e : TypeId} {k kb : Nat} {α : Type} {cells : α → List Value} {Ok : α → Prop} (ht : P.underlying t = some (.slice e)) (he : P.cellsOf e = k) (hbe : P.bytesOf e = kb) (hk0 : 0 < k) (hk : ∀ d, (cells d).length = k)
    (hR : RdB enc P w base held N e cells Ok) : RdB enc P w base held (N + 1) t (fun y : L α => [y.v]) (ListOk w k kb cells Ok) := by
  intro m hm cs x h hw
  rcases DataW.trod_slice ht h with ⟨rfl, _⟩ | ⟨a, len, cap, elems, rest, n, e1, rfl, hx, _, hlc, hcm, hel, hget, hrest, _⟩
  · exact ⟨⟨[], none, 0⟩, rfl, ⟨⟨by simp, .inl rfl⟩, fun d hd => (by cases hd), fun _ => rfl, Nat.le_refl _, Nat.zero_le _, by simp⟩⟩
  · rw [he] at hget
    subst hx
    simp only [DataW.weights, ht, List.mem_cons, List.mem_append, hbe, List.length_map] at hw
    have hsz : cap * kb ≤ reachBytes := by
      have := hw _ (.inl rfl)
      rwa [(hrest rfl).1, hel, show len + (cap - len) = cap by omega] at this
    have hev : ∀ i, i < len → ∃ d, w.cells? base (a.add (i * k)) k = some (cells d) ∧ Ok d := by
      intro i hi
      have h1 := hget i hi
      obtain ⟨y, hy⟩ : ∃ y, elems[i]? = some y := ⟨elems[i], List.getElem?_eq_getElem (by omega)⟩
      rw [hy, Option.bind_eq_some_iff] at h1
      obtain ⟨cs', hc, hr⟩ := h1
      obtain ⟨d, rfl, hd⟩ := hR n (by omega) cs' y hr (fun n' hn' => hw n' (.inr (.inl (mem_weightsAll (List.mem_map_of_mem (List.mem_of_getElem? hy)) hn'))))
      exact ⟨d, hc, hd⟩
    obtain ⟨l, hl, hq⟩ := list_of len hev
    refine ⟨⟨l, some a, cap⟩, by simp only [L.v]; rw [hl], ⟨⟨by simp only; omega, ?_⟩, fun d hd => ?_, fun h0 => (by cases h0), by simp only; omega, hcm, hsz⟩⟩
    · by_cases hl0 : l = []
      · exact .inl hl0
      · obtain ⟨g, o, spot⟩ := a
        have hlen : 0 < l.length := List.length_pos_iff.2 hl0
        have hsp : spot = none := by
          obtain ⟨_, _, h2⟩ := World.cells?_some (hq 0 hlen).1
          have h3 := h2 0 hk0
          obtain ⟨c0, hc0⟩ : ∃ c0, (cells l[0])[0]? = some c0 := ⟨(cells l[0])[0]'(by rw [hk]; exact hk0), List.getElem?_eq_getElem _⟩
          rw [hc0] at h3
          simpa [Addr.add] using World.cell?_spot h3
        subst hsp
        have hall : ∀ i (hi : i < l.length) j, j < k → w.cell? ⟨g, o + i * k + j, none⟩ = (cells l[i])[j]? := by
          intro i hi j hj
          obtain ⟨_, _, h2⟩ := World.cells?_some (hq i hi).1
          have h3 := h2 j hj
          rwa [add_plain, add_plain] at h3
        refine .inr ⟨g, o, rfl, ?_, hall⟩
        have h3 := hall 0 hlen 0 hk0
        rw [List.getElem?_eq_getElem (by rw [hk]; exact hk0)] at h3
        exact World.block_lt_of_cell? w _ h3
    · obtain ⟨i, hi, rfl⟩ := List.mem_iff_getElem.1 hd
      exact (hq i hi).2
theorem rd_field {ft : TypeId} {fs : Array Field} {α : Type} {cells : α → List Value} {Ok : α → Prop} {xs : List (DataW H × List MemPlace)} {n : Nat} {cs : List Value} (i : Nat) (f : Field) (o k : Nat)
    (hxs : ∀ (i : Nat) (f : Field), fs[i]? = some f → DataW.trod enc P w base (fun _ => true) held n f.type ((cs.drop f.offset).take (P.cellsOf f.type)) = xs[i]?) (hlen : xs.length = fs.size) (hw : ∀ m ∈ DataW.weightsEach P (fs.toList.map (·.type)) (xs.map (·.1)), m ≤ reachBytes)
    (hf : fs[i]? = some f) (hft : f.type = ft) (ho : f.offset = o) (hk : P.cellsOf ft = k) (hR : RdB enc P w base held N ft cells Ok) (hn : n < N) :
    ∃ d : α, (cs.drop o).take k = cells d ∧ Ok d := by
  subst hft ho hk
  have hi : i < xs.length := by rw [hlen]; exact (Array.getElem?_eq_some_iff.1 hf).1
  have h1 := hxs i f hf
  rw [List.getElem?_eq_getElem hi] at h1
  refine hR n hn _ _ h1 (fun m hm => hw m (DataW.weights_mem_each (j := i) ?_ ?_ m hm))
  · simp [hf]
  · simp [hi]
theorem arg_list {t e : TypeId} {k kb : Nat} {α : Type} {cells : α → List Value} {Ok : α → Prop} (ht : P.underlying t = some (.slice e)) (hR : ∀ N, RdB enc P w base held N t (fun y : L α => [y.v]) (ListOk w k kb cells Ok))
    {v : Value} {d : DataW H} {ps : List MemPlace} {r : Reach} {b : Nat} (hv : Value.okWide P w r b t v) (h : DataW.Trod enc P w base (fun _ => true) held t v d ps) (hw : ∀ m ∈ d.weights P t, m ≤ reachBytes) : ∃ y : L α, v = y.v ∧ ListOk w k kb cells Ok y := by
  obtain ⟨a, len, cap, rfl⟩ := okWide_slice ht hv
  obtain ⟨n, hn⟩ := h
  obtain ⟨y, e, hy⟩ := hR (n + 1) n (Nat.lt_succ_self n) _ _ hn hw
  refine ⟨y, ?_, hy⟩
  simpa [Value.cells] using e
theorem arg_struct {t : TypeId} {fs : Array Field} {α : Type} {cells : α → List Value} {Ok : α → Prop} (ht : P.underlying t = some (.struct fs)) (hR : ∀ N, RdB enc P w base held N t cells Ok)
    {v : Value} {d : DataW H} {ps : List MemPlace} {r : Reach} {b : Nat} (hv : Value.okWide P w r b t v) (h : DataW.Trod enc P w base (fun _ => true) held t v d ps) (hw : ∀ m ∈ d.weights P t, m ≤ reachBytes) : ∃ y : α, v = .agg (cells y).toArray ∧ Ok y := by
  obtain ⟨cs, rfl, _⟩ := okWide_struct ht hv
  obtain ⟨n, hn⟩ := h
  obtain ⟨y, e, hy⟩ := hR (n + 1) n (Nat.lt_succ_self n) _ _ hn hw
  refine ⟨y, ?_, hy⟩
  have e' : cs.toList = cells y := by simpa [Value.cells] using e
  rw [← e']
theorem trodAll_carry {W W' : World} {sp : Nat → Bool} {b : Nat} {hd : Bool} : ∀ {ts : List TypeId} {vs : List Value} {ds : List (DataW H)} {ps : List MemPlace}, DataW.TrodAll enc P W b sp hd ts vs ds ps → (∀ p ∈ ps, W.sameAt W' p) →
    DataW.TrodAll enc P W' b sp hd ts vs ds ps
  | [], [], [], _, h, _ => h
  | _ :: _, _ :: _, _ :: _, _, ⟨p, q, ⟨n, hn⟩, h2, e⟩, hs => ⟨p, q, ⟨n, DataW.trod_carry n _ _ _ hn (fun x hx => hs x (by rw [e]; exact List.mem_append_left _ hx))⟩, trodAll_carry h2 (fun x hx => hs x (by rw [e]; exact List.mem_append_right _ hx)), e⟩
theorem args_again (hl : laidOutB P = true) (hm : mapsRowed P = true) (hz : ((List.range P.types.size).all fun t => match P.underlying t with | some (.slice e) => decide (0 < P.cellsOf e) | _ => true) = true)
    {W W' : World} {ts : List TypeId} {vs : List Value} {ds : List (DataW H)} {ps : List MemPlace} (hT : ∀ t ∈ ts, t < P.types.size) (h : DataW.TrodAll enc P W 0 (fun _ => true) true ts vs ds ps) (hb : Below W.heap.size W W')
    (sp : Nat → Bool) (hs : ∀ p ∈ ps, sp p.block = true) : DataW.TrodAll enc P W' 0 sp true ts vs ds ps :=
  trodAll_carry (DataW.TrodAll.respare (kids_rows hl hm) (slices_full_of P hz) hT h hs) (fun p hp => hb.same (DataW.TrodAll.lt h p hp))
end
open Go.RowKit Go.WideShapes Go.ChangeShapes
theorem cells_eq {cs ys : List Value} (h : cs.length = ys.length) (hi : ∀ i, i < ys.length → cs[i]? = ys[i]?) : cs = ys := by
  refine List.ext_getElem? fun i => ?_
  by_cases h1 : i < ys.length
  · exact hi i h1
  · rw [List.getElem?_eq_none (by omega), List.getElem?_eq_none (by omega)]
def IOk (z : Int) : Prop := (Lit.int .i64 z).wf = true
def UOk (z : Int) : Prop := (Lit.int .u32 z).wf = true
structure FldGood (f : FieldD) : Prop where
  name : NameOk f.name
  width : IOk f.width
structure HdrGood (w : World) (h : HeaderD) : Prop where
  name : NameOk h.name
  fields : ListOk w 2 24 FieldD.cells FldGood h.fields
structure RegGood (r : RegD) : Prop where
  name : NameOk r.name
  width : IOk r.width
  size : IOk r.size
structure NodeGood (x : NodeD) : Prop where
  op : IOk x.op
  n : IOk x.n
  w : IOk x.w
structure StmtGood (w : World) (s : StmtD) : Prop where
  kind : IOk s.kind
  index : ListOk w 3 24 NodeD.cells NodeGood s.index
  value : ListOk w 3 24 NodeD.cells NodeGood s.value
structure ActGood (w : World) (a : ActD) : Prop where
  name : NameOk a.name
  params : ListOk w 2 24 FieldD.cells FldGood a.params
  body : ListOk w 7 88 StmtD.cells (StmtGood w) a.body
structure KeyGood (k : KeyD) : Prop where
  h : IOk k.h
  f : IOk k.f
  kind : IOk k.kind
structure TabGood (w : World) (t : TabD) : Prop where
  name : NameOk t.name
  keys : ListOk w 3 24 KeyD.cells KeyGood t.keys
  acts : ListOk w 1 8 icell IOk t.acts
  defA : IOk t.defA
  args : ListOk w 1 4 ucell UOk t.args
  size : IOk t.size
structure CaseGood (c : CaseD) : Prop where
  value : UOk c.value
  mask : UOk c.mask
  next : IOk c.next
structure StateGood (w : World) (s : StateD) : Prop where
  name : NameOk s.name
  extract : ListOk w 1 8 icell IOk s.extract
  cases : ListOk w 3 16 CaseD.cells CaseGood s.cases
  dflt : IOk s.dflt
structure CtlGood (w : World) (x : CtlD) : Prop where
  ok : CtlOk w x
  caps : CtlCaps [x]
structure ProgGood (w : World) (p : ProgD) : Prop where
  name : NameOk p.name
  headers : ListOk w 2 40 HeaderD.cells (HdrGood w) p.headers
  metadata : ListOk w 2 24 FieldD.cells FldGood p.metadata
  registers : ListOk w 3 32 RegD.cells RegGood p.registers
  actions : ListOk w 3 64 ActD.cells (ActGood w) p.actions
  tables : ListOk w 6 104 TabD.cells (TabGood w) p.tables
  states : ListOk w 7 96 StateD.cells (StateGood w) p.states
  control : ListOk w 5 88 CtlD.cells (CtlGood w) p.control
  deparser : ListOk w 1 8 icell IOk p.deparser
theorem CtlCaps.all {l : List CtlD} (h : ∀ x ∈ l, CtlCaps [x]) : CtlCaps l := by
  induction l with
  | nil => exact .nil
  | cons x l ih =>
    cases h x (List.mem_cons_self ..) with
    | cons a b c d _ => exact .cons a b c d (ih fun y hy => h y (List.mem_cons_of_mem _ hy))
theorem ctls_of {w : World} : ∀ {l : List CtlD}, (∀ x ∈ l, CtlOk w x) → CtlsOk w l
  | [], _ => by rw [CtlsOk]; trivial
  | x :: l, h => by
    rw [CtlsOk]
    exact ⟨h x (List.mem_cons_self ..), ctls_of fun y hy => h y (List.mem_cons_of_mem _ hy)⟩
theorem ProgGood.ok {w : World} {p : ProgD} (h : ProgGood w p) : ProgOk w p :=
  ⟨h.name, h.headers.lok, fun x hx => ⟨(h.headers.all x hx).name, (h.headers.all x hx).fields.lok, fun f hf => ((h.headers.all x hx).fields.all f hf).name⟩,
   h.metadata.lok, fun f hf => (h.metadata.all f hf).name, h.registers.lok, fun r hr => (h.registers.all r hr).name,
   h.actions.lok, fun a ha => ⟨(h.actions.all a ha).name, (h.actions.all a ha).params.lok, fun f hf => ((h.actions.all a ha).params.all f hf).name, (h.actions.all a ha).body.lok,
     fun s hs => ⟨((h.actions.all a ha).body.all s hs).index.lok, ((h.actions.all a ha).body.all s hs).value.lok⟩⟩,
   h.tables.lok, fun t ht => ⟨(h.tables.all t ht).name, (h.tables.all t ht).keys.lok, (h.tables.all t ht).acts.lok, (h.tables.all t ht).args.lok⟩,
   h.states.lok, fun s hs => ⟨(h.states.all s hs).name, (h.states.all s hs).extract.lok, (h.states.all s hs).cases.lok⟩,
   h.control.lok, ctls_of fun x hx => (h.control.all x hx).ok, h.deparser.lok⟩
theorem ProgGood.cap {w : World} {p : ProgD} (h : ProgGood w p) : ProgCap p :=
  ⟨fun x hx => (h.headers.all x hx).fields.le, fun a ha => (h.actions.all a ha).params.le, h.deparser.le, fun t ht => (h.tables.all t ht).defA, fun t ht v hv => (h.tables.all t ht).args.all v hv,
   fun s hs c hc => ⟨((h.states.all s hs).cases.all c hc).value, ((h.states.all s hs).cases.all c hc).mask⟩⟩
theorem len_cap {w : World} {k kb : Nat} {α : Type} {cells : α → List Value} {Ok : α → Prop} {y : L α} (h : ListOk w k kb cells Ok y) (hk : 32 ≤ kb) : y.l.length ≤ 4398046511104 := by
  have h1 := h.bytes
  have h2 := h.le
  have h3 : y.c * 32 ≤ y.c * kb := Nat.mul_le_mul_left _ hk
  have h4 : reachBytes = 140737488351232 := rfl
  omega
theorem ProgGood.caps {w : World} {p : ProgD} (h : ProgGood w p) : CtlCaps p.control.l := CtlCaps.all fun x hx => (h.control.all x hx).caps
section
variable {H : Type} {enc : TypeId × Value → H} {w : World} {base : Nat} {held : Bool}
theorem rd_ints (N : Nat) : RdB enc Tryz.prog w base held N 29 (fun y : L Int => [y.v]) (ListOk w 1 8 icell IOk) :=
  (rd_list (N := N) (k := 1) (kb := 8) Tryz.underlying29 (by kernel_rfl) (by kernel_rfl) (by decide) (fun _ => rfl) (rd_int Tryz.underlying3)).mono (Nat.le_succ N)
theorem rd_u32s (N : Nat) : RdB enc Tryz.prog w base held N 53 (fun y : L Int => [y.v]) (ListOk w 1 4 ucell UOk) :=
  (rd_list (N := N) (k := 1) (kb := 4) Tryz.underlying53 (by kernel_rfl) (by kernel_rfl) (by decide) (fun _ => rfl) (rd_int Tryz.underlying83)).mono (Nat.le_succ N)
theorem rd_ref (N : Nat) : RdB enc Tryz.prog w base held N 98 (fun r : Int × Int => [.int .i64 r.1, .int .i64 r.2]) (fun r => IOk r.1 ∧ IOk r.2) := by
  intro m hm cs x h hw
  obtain ⟨xs, n, e1, hx, hlen, hl, hf⟩ := DataW.trod_struct Tryz.underlying98 h
  subst hx
  simp only [DataW.weights, Tryz.underlying98] at hw
  obtain ⟨d0, h0, w0⟩ := rd_field (N := N) 0 _ 0 1 hf hl hw rfl rfl rfl (by kernel_rfl) (rd_int Tryz.underlying3) (by omega)
  obtain ⟨d1, h1, w1⟩ := rd_field (N := N) 1 _ 1 1 hf hl hw rfl rfl rfl (by kernel_rfl) (rd_int Tryz.underlying3) (by omega)
  have e2 : cs.length = 2 := hlen.trans (by kernel_rfl)
  refine ⟨(d0, d1), cells_eq e2 fun i hi => ?_, ⟨w0, w1⟩⟩
  match i, hi with
  | 0, _ => exact cell_of_cut h0
  | 1, _ => exact cell_of_cut h1
theorem rd_call (N : Nat) : RdB enc Tryz.prog w base held N 127 (fun c : Int × L Int => [.int .i64 c.1, c.2.v]) (fun c => IOk c.1 ∧ ListOk w 1 4 ucell UOk c.2) := by
  intro m hm cs x h hw
  obtain ⟨xs, n, e1, hx, hlen, hl, hf⟩ := DataW.trod_struct Tryz.underlying127 h
  subst hx
  simp only [DataW.weights, Tryz.underlying127] at hw
  obtain ⟨d0, h0, w0⟩ := rd_field (N := N) 0 _ 0 1 hf hl hw rfl rfl rfl (by kernel_rfl) (rd_int Tryz.underlying3) (by omega)
  obtain ⟨d1, h1, w1⟩ := rd_field (N := N) 1 _ 1 1 hf hl hw rfl rfl rfl (by kernel_rfl) (rd_u32s N) (by omega)
  have e2 : cs.length = 2 := hlen.trans (by kernel_rfl)
  refine ⟨(d0, d1), cells_eq e2 fun i hi => ?_, ⟨w0, w1⟩⟩
  match i, hi with
  | 0, _ => exact cell_of_cut h0
  | 1, _ => exact cell_of_cut h1
theorem rd_fld (N : Nat) : RdB enc Tryz.prog w base held N 135 FieldD.cells FldGood := by
  intro m hm cs x h hw
  obtain ⟨xs, n, e1, hx, hlen, hl, hf⟩ := DataW.trod_struct Tryz.underlying135 h
  subst hx
  simp only [DataW.weights, Tryz.underlying135] at hw
  obtain ⟨d0, h0, w0⟩ := rd_field (N := N) 0 _ 0 1 hf hl hw rfl rfl rfl (by kernel_rfl) (rd_str Tryz.underlying9) (by omega)
  obtain ⟨d1, h1, w1⟩ := rd_field (N := N) 1 _ 1 1 hf hl hw rfl rfl rfl (by kernel_rfl) (rd_int Tryz.underlying3) (by omega)
  have e2 : cs.length = 2 := hlen.trans (by kernel_rfl)
  refine ⟨⟨d0, d1⟩, cells_eq e2 fun i hi => ?_, ⟨w0, w1⟩⟩
  match i, hi with
  | 0, _ => exact cell_of_cut h0
  | 1, _ => exact cell_of_cut h1
theorem rd_fields (N : Nat) : RdB enc Tryz.prog w base held N 23 (fun y : L FieldD => [y.v]) (ListOk w 2 24 FieldD.cells FldGood) :=
  (rd_list (N := N) (k := 2) (kb := 24) Tryz.underlying23 (by kernel_rfl) (by kernel_rfl) (by decide) (fun _ => rfl) (rd_fld N)).mono (Nat.le_succ N)
theorem rd_header (N : Nat) : RdB enc Tryz.prog w base held N 96 HeaderD.cells (HdrGood w) := by
  intro m hm cs x h hw
  obtain ⟨xs, n, e1, hx, hlen, hl, hf⟩ := DataW.trod_struct Tryz.underlying96 h
  subst hx
  simp only [DataW.weights, Tryz.underlying96] at hw
  obtain ⟨d0, h0, w0⟩ := rd_field (N := N) 0 _ 0 1 hf hl hw rfl rfl rfl (by kernel_rfl) (rd_str Tryz.underlying9) (by omega)
  obtain ⟨d1, h1, w1⟩ := rd_field (N := N) 1 _ 1 1 hf hl hw rfl rfl rfl (by kernel_rfl) (rd_fields N) (by omega)
  have e2 : cs.length = 2 := hlen.trans (by kernel_rfl)
  refine ⟨⟨d0, d1⟩, cells_eq e2 fun i hi => ?_, ⟨w0, w1⟩⟩
  match i, hi with
  | 0, _ => exact cell_of_cut h0
  | 1, _ => exact cell_of_cut h1
theorem rd_headers (N : Nat) : RdB enc Tryz.prog w base held N 22 (fun y : L HeaderD => [y.v]) (ListOk w 2 40 HeaderD.cells (HdrGood w)) :=
  (rd_list (N := N) (k := 2) (kb := 40) Tryz.underlying22 (by kernel_rfl) (by kernel_rfl) (by decide) (fun _ => rfl) (rd_header N)).mono (Nat.le_succ N)
theorem rd_reg (N : Nat) : RdB enc Tryz.prog w base held N 120 RegD.cells RegGood := by
  intro m hm cs x h hw
  obtain ⟨xs, n, e1, hx, hlen, hl, hf⟩ := DataW.trod_struct Tryz.underlying120 h
  subst hx
  simp only [DataW.weights, Tryz.underlying120] at hw
  obtain ⟨d0, h0, w0⟩ := rd_field (N := N) 0 _ 0 1 hf hl hw rfl rfl rfl (by kernel_rfl) (rd_str Tryz.underlying9) (by omega)
  obtain ⟨d1, h1, w1⟩ := rd_field (N := N) 1 _ 1 1 hf hl hw rfl rfl rfl (by kernel_rfl) (rd_int Tryz.underlying3) (by omega)
  obtain ⟨d2, h2, w2⟩ := rd_field (N := N) 2 _ 2 1 hf hl hw rfl rfl rfl (by kernel_rfl) (rd_int Tryz.underlying3) (by omega)
  have e2 : cs.length = 3 := hlen.trans (by kernel_rfl)
  refine ⟨⟨d0, d1, d2⟩, cells_eq e2 fun i hi => ?_, ⟨w0, w1, w2⟩⟩
  match i, hi with
  | 0, _ => exact cell_of_cut h0
  | 1, _ => exact cell_of_cut h1
  | 2, _ => exact cell_of_cut h2
theorem rd_regs (N : Nat) : RdB enc Tryz.prog w base held N 24 (fun y : L RegD => [y.v]) (ListOk w 3 32 RegD.cells RegGood) :=
  (rd_list (N := N) (k := 3) (kb := 32) Tryz.underlying24 (by kernel_rfl) (by kernel_rfl) (by decide) (fun _ => rfl) (rd_reg N)).mono (Nat.le_succ N)
theorem rd_node (N : Nat) : RdB enc Tryz.prog w base held N 252 NodeD.cells NodeGood := by
  intro m hm cs x h hw
  obtain ⟨xs, n, e1, hx, hlen, hl, hf⟩ := DataW.trod_struct Tryz.underlying252 h
  subst hx
  simp only [DataW.weights, Tryz.underlying252] at hw
  obtain ⟨d0, h0, w0⟩ := rd_field (N := N) 0 _ 0 1 hf hl hw rfl rfl rfl (by kernel_rfl) (rd_int Tryz.underlying3) (by omega)
  obtain ⟨d1, h1, w1⟩ := rd_field (N := N) 1 _ 1 1 hf hl hw rfl rfl rfl (by kernel_rfl) (rd_int Tryz.underlying3) (by omega)
  obtain ⟨d2, h2, w2⟩ := rd_field (N := N) 2 _ 2 1 hf hl hw rfl rfl rfl (by kernel_rfl) (rd_int Tryz.underlying3) (by omega)
  have e2 : cs.length = 3 := hlen.trans (by kernel_rfl)
  refine ⟨⟨d0, d1, d2⟩, cells_eq e2 fun i hi => ?_, ⟨w0, w1, w2⟩⟩
  match i, hi with
  | 0, _ => exact cell_of_cut h0
  | 1, _ => exact cell_of_cut h1
  | 2, _ => exact cell_of_cut h2
theorem rd_nodes (N : Nat) : RdB enc Tryz.prog w base held N 165 (fun y : L NodeD => [y.v]) (ListOk w 3 24 NodeD.cells NodeGood) :=
  (rd_list (N := N) (k := 3) (kb := 24) Tryz.underlying165 (by kernel_rfl) (by kernel_rfl) (by decide) (fun _ => rfl) (rd_node N)).mono (Nat.le_succ N)
theorem rd_stmt (N : Nat) : RdB enc Tryz.prog w base held N 167 StmtD.cells (StmtGood w) := by
  intro m hm cs x h hw
  obtain ⟨xs, n, e1, hx, hlen, hl, hf⟩ := DataW.trod_struct Tryz.underlying167 h
  subst hx
  simp only [DataW.weights, Tryz.underlying167] at hw
  obtain ⟨d0, h0, w0⟩ := rd_field (N := N) 0 _ 0 1 hf hl hw rfl rfl rfl (by kernel_rfl) (rd_int Tryz.underlying3) (by omega)
  obtain ⟨d1, h1, w1⟩ := rd_field (N := N) 1 _ 1 2 hf hl hw rfl rfl rfl (by kernel_rfl) (rd_ref N) (by omega)
  obtain ⟨d2, h2, w2⟩ := rd_field (N := N) 2 _ 3 1 hf hl hw rfl rfl rfl (by kernel_rfl) (rd_int Tryz.underlying3) (by omega)
  obtain ⟨d3, h3, w3⟩ := rd_field (N := N) 3 _ 4 1 hf hl hw rfl rfl rfl (by kernel_rfl) (rd_int Tryz.underlying3) (by omega)
  obtain ⟨d4, h4, w4⟩ := rd_field (N := N) 4 _ 5 1 hf hl hw rfl rfl rfl (by kernel_rfl) (rd_nodes N) (by omega)
  obtain ⟨d5, h5, w5⟩ := rd_field (N := N) 5 _ 6 1 hf hl hw rfl rfl rfl (by kernel_rfl) (rd_nodes N) (by omega)
  have e2 : cs.length = 7 := hlen.trans (by kernel_rfl)
  refine ⟨⟨d0, d1.1, d1.2, d2, d3, d4, d5⟩, cells_eq e2 fun i hi => ?_, ⟨w0, w4, w5⟩⟩
  match i, hi with
  | 0, _ => exact cell_of_cut h0
  | 1, _ => exact cut_get h1 0 (by simp)
  | 2, _ => exact cut_get h1 1 (by simp)
  | 3, _ => exact cell_of_cut h2
  | 4, _ => exact cell_of_cut h3
  | 5, _ => exact cell_of_cut h4
  | 6, _ => exact cell_of_cut h5
theorem rd_stmts (N : Nat) : RdB enc Tryz.prog w base held N 122 (fun y : L StmtD => [y.v]) (ListOk w 7 88 StmtD.cells (StmtGood w)) :=
  (rd_list (N := N) (k := 7) (kb := 88) Tryz.underlying122 (by kernel_rfl) (by kernel_rfl) (by decide) (fun _ => rfl) (rd_stmt N)).mono (Nat.le_succ N)
theorem rd_act (N : Nat) : RdB enc Tryz.prog w base held N 124 ActD.cells (ActGood w) := by
  intro m hm cs x h hw
  obtain ⟨xs, n, e1, hx, hlen, hl, hf⟩ := DataW.trod_struct Tryz.underlying124 h
  subst hx
  simp only [DataW.weights, Tryz.underlying124] at hw
  obtain ⟨d0, h0, w0⟩ := rd_field (N := N) 0 _ 0 1 hf hl hw rfl rfl rfl (by kernel_rfl) (rd_str Tryz.underlying9) (by omega)
  obtain ⟨d1, h1, w1⟩ := rd_field (N := N) 1 _ 1 1 hf hl hw rfl rfl rfl (by kernel_rfl) (rd_fields N) (by omega)
  obtain ⟨d2, h2, w2⟩ := rd_field (N := N) 2 _ 2 1 hf hl hw rfl rfl rfl (by kernel_rfl) (rd_stmts N) (by omega)
  have e2 : cs.length = 3 := hlen.trans (by kernel_rfl)
  refine ⟨⟨d0, d1, d2⟩, cells_eq e2 fun i hi => ?_, ⟨w0, w1, w2⟩⟩
  match i, hi with
  | 0, _ => exact cell_of_cut h0
  | 1, _ => exact cell_of_cut h1
  | 2, _ => exact cell_of_cut h2
theorem rd_acts (N : Nat) : RdB enc Tryz.prog w base held N 25 (fun y : L ActD => [y.v]) (ListOk w 3 64 ActD.cells (ActGood w)) :=
  (rd_list (N := N) (k := 3) (kb := 64) Tryz.underlying25 (by kernel_rfl) (by kernel_rfl) (by decide) (fun _ => rfl) (rd_act N)).mono (Nat.le_succ N)
theorem rd_key (N : Nat) : RdB enc Tryz.prog w base held N 231 KeyD.cells KeyGood := by
  intro m hm cs x h hw
  obtain ⟨xs, n, e1, hx, hlen, hl, hf⟩ := DataW.trod_struct Tryz.underlying231 h
  subst hx
  simp only [DataW.weights, Tryz.underlying231] at hw
  obtain ⟨d0, h0, w0⟩ := rd_field (N := N) 0 _ 0 2 hf hl hw rfl rfl rfl (by kernel_rfl) (rd_ref N) (by omega)
  obtain ⟨d1, h1, w1⟩ := rd_field (N := N) 1 _ 2 1 hf hl hw rfl rfl rfl (by kernel_rfl) (rd_int Tryz.underlying3) (by omega)
  have e2 : cs.length = 3 := hlen.trans (by kernel_rfl)
  refine ⟨⟨d0.1, d0.2, d1⟩, cells_eq e2 fun i hi => ?_, ⟨w0.1, w0.2, w1⟩⟩
  match i, hi with
  | 0, _ => exact cut_get h0 0 (by simp)
  | 1, _ => exact cut_get h0 1 (by simp)
  | 2, _ => exact cell_of_cut h1
theorem rd_keys (N : Nat) : RdB enc Tryz.prog w base held N 125 (fun y : L KeyD => [y.v]) (ListOk w 3 24 KeyD.cells KeyGood) :=
  (rd_list (N := N) (k := 3) (kb := 24) Tryz.underlying125 (by kernel_rfl) (by kernel_rfl) (by decide) (fun _ => rfl) (rd_key N)).mono (Nat.le_succ N)
theorem rd_tab (N : Nat) : RdB enc Tryz.prog w base held N 129 TabD.cells (TabGood w) := by
  intro m hm cs x h hw
  obtain ⟨xs, n, e1, hx, hlen, hl, hf⟩ := DataW.trod_struct Tryz.underlying129 h
  subst hx
  simp only [DataW.weights, Tryz.underlying129] at hw
  obtain ⟨d0, h0, w0⟩ := rd_field (N := N) 0 _ 0 1 hf hl hw rfl rfl rfl (by kernel_rfl) (rd_str Tryz.underlying9) (by omega)
  obtain ⟨d1, h1, w1⟩ := rd_field (N := N) 1 _ 1 1 hf hl hw rfl rfl rfl (by kernel_rfl) (rd_keys N) (by omega)
  obtain ⟨d2, h2, w2⟩ := rd_field (N := N) 2 _ 2 1 hf hl hw rfl rfl rfl (by kernel_rfl) (rd_ints N) (by omega)
  obtain ⟨d3, h3, w3⟩ := rd_field (N := N) 3 _ 3 2 hf hl hw rfl rfl rfl (by kernel_rfl) (rd_call N) (by omega)
  obtain ⟨d4, h4, w4⟩ := rd_field (N := N) 4 _ 5 1 hf hl hw rfl rfl rfl (by kernel_rfl) (rd_int Tryz.underlying3) (by omega)
  have e2 : cs.length = 6 := hlen.trans (by kernel_rfl)
  refine ⟨⟨d0, d1, d2, d3.1, d3.2, d4⟩, cells_eq e2 fun i hi => ?_, ⟨w0, w1, w2, w3.1, w3.2, w4⟩⟩
  match i, hi with
  | 0, _ => exact cell_of_cut h0
  | 1, _ => exact cell_of_cut h1
  | 2, _ => exact cell_of_cut h2
  | 3, _ => exact cut_get h3 0 (by simp)
  | 4, _ => exact cut_get h3 1 (by simp)
  | 5, _ => exact cell_of_cut h4
theorem rd_tabs (N : Nat) : RdB enc Tryz.prog w base held N 26 (fun y : L TabD => [y.v]) (ListOk w 6 104 TabD.cells (TabGood w)) :=
  (rd_list (N := N) (k := 6) (kb := 104) Tryz.underlying26 (by kernel_rfl) (by kernel_rfl) (by decide) (fun _ => rfl) (rd_tab N)).mono (Nat.le_succ N)
theorem rd_case (N : Nat) : RdB enc Tryz.prog w base held N 245 CaseD.cells CaseGood := by
  intro m hm cs x h hw
  obtain ⟨xs, n, e1, hx, hlen, hl, hf⟩ := DataW.trod_struct Tryz.underlying245 h
  subst hx
  simp only [DataW.weights, Tryz.underlying245] at hw
  obtain ⟨d0, h0, w0⟩ := rd_field (N := N) 0 _ 0 1 hf hl hw rfl rfl rfl (by kernel_rfl) (rd_int Tryz.underlying83) (by omega)
  obtain ⟨d1, h1, w1⟩ := rd_field (N := N) 1 _ 1 1 hf hl hw rfl rfl rfl (by kernel_rfl) (rd_int Tryz.underlying83) (by omega)
  obtain ⟨d2, h2, w2⟩ := rd_field (N := N) 2 _ 2 1 hf hl hw rfl rfl rfl (by kernel_rfl) (rd_int Tryz.underlying3) (by omega)
  have e2 : cs.length = 3 := hlen.trans (by kernel_rfl)
  refine ⟨⟨d0, d1, d2⟩, cells_eq e2 fun i hi => ?_, ⟨w0, w1, w2⟩⟩
  match i, hi with
  | 0, _ => exact cell_of_cut h0
  | 1, _ => exact cell_of_cut h1
  | 2, _ => exact cell_of_cut h2
theorem rd_cases (N : Nat) : RdB enc Tryz.prog w base held N 130 (fun y : L CaseD => [y.v]) (ListOk w 3 16 CaseD.cells CaseGood) :=
  (rd_list (N := N) (k := 3) (kb := 16) Tryz.underlying130 (by kernel_rfl) (by kernel_rfl) (by decide) (fun _ => rfl) (rd_case N)).mono (Nat.le_succ N)
theorem rd_state (N : Nat) : RdB enc Tryz.prog w base held N 132 StateD.cells (StateGood w) := by
  intro m hm cs x h hw
  obtain ⟨xs, n, e1, hx, hlen, hl, hf⟩ := DataW.trod_struct Tryz.underlying132 h
  subst hx
  simp only [DataW.weights, Tryz.underlying132] at hw
  obtain ⟨d0, h0, w0⟩ := rd_field (N := N) 0 _ 0 1 hf hl hw rfl rfl rfl (by kernel_rfl) (rd_str Tryz.underlying9) (by omega)
  obtain ⟨d1, h1, w1⟩ := rd_field (N := N) 1 _ 1 1 hf hl hw rfl rfl rfl (by kernel_rfl) (rd_ints N) (by omega)
  obtain ⟨d2, h2, w2⟩ := rd_field (N := N) 2 _ 2 1 hf hl hw rfl rfl rfl (by kernel_rfl) (rd_bool Tryz.underlying4) (by omega)
  obtain ⟨d3, h3, w3⟩ := rd_field (N := N) 3 _ 3 2 hf hl hw rfl rfl rfl (by kernel_rfl) (rd_ref N) (by omega)
  obtain ⟨d4, h4, w4⟩ := rd_field (N := N) 4 _ 5 1 hf hl hw rfl rfl rfl (by kernel_rfl) (rd_cases N) (by omega)
  obtain ⟨d5, h5, w5⟩ := rd_field (N := N) 5 _ 6 1 hf hl hw rfl rfl rfl (by kernel_rfl) (rd_int Tryz.underlying3) (by omega)
  have e2 : cs.length = 7 := hlen.trans (by kernel_rfl)
  refine ⟨⟨d0, d1, d2, d3.1, d3.2, d4, d5⟩, cells_eq e2 fun i hi => ?_, ⟨w0, w1, w4, w5⟩⟩
  match i, hi with
  | 0, _ => exact cell_of_cut h0
  | 1, _ => exact cell_of_cut h1
  | 2, _ => exact cell_of_cut h2
  | 3, _ => exact cut_get h3 0 (by simp)
  | 4, _ => exact cut_get h3 1 (by simp)
  | 5, _ => exact cell_of_cut h4
  | 6, _ => exact cell_of_cut h5
theorem rd_states (N : Nat) : RdB enc Tryz.prog w base held N 27 (fun y : L StateD => [y.v]) (ListOk w 7 96 StateD.cells (StateGood w)) :=
  (rd_list (N := N) (k := 7) (kb := 96) Tryz.underlying27 (by kernel_rfl) (by kernel_rfl) (by decide) (fun _ => rfl) (rd_state N)).mono (Nat.le_succ N)
theorem rd_ctl : ∀ N, RdB enc Tryz.prog w base held N 169 CtlD.cells (CtlGood w)
  | 0 => fun m hm => absurd hm (Nat.not_lt_zero _)
  | N + 1 => by
    have HL : RdB enc Tryz.prog w base held (N + 1) 28 (fun y : L CtlD => [y.v]) (ListOk w 5 88 CtlD.cells (CtlGood w)) :=
      rd_list (N := N) (k := 5) (kb := 88) Tryz.underlying28 (by kernel_rfl) (by kernel_rfl) (by decide) (fun _ => rfl) (rd_ctl N)
    intro m hm cs x h hw
    obtain ⟨xs, n, e1, hx, hlen, hl, hf⟩ := DataW.trod_struct Tryz.underlying169 h
    subst hx
    simp only [DataW.weights, Tryz.underlying169] at hw
    obtain ⟨d0, h0, w0⟩ := rd_field (N := N + 1) 0 _ 0 1 hf hl hw rfl rfl rfl (by kernel_rfl) (rd_int Tryz.underlying3) (by omega)
    obtain ⟨d1, h1, w1⟩ := rd_field (N := N + 1) 1 _ 1 1 hf hl hw rfl rfl rfl (by kernel_rfl) (rd_int Tryz.underlying3) (by omega)
    obtain ⟨d2, h2, w2⟩ := rd_field (N := N + 1) 2 _ 2 1 hf hl hw rfl rfl rfl (by kernel_rfl) (rd_nodes (N + 1)) (by omega)
    obtain ⟨d3, h3, w3⟩ := rd_field (N := N + 1) 3 _ 3 1 hf hl hw rfl rfl rfl (by kernel_rfl) HL (by omega)
    obtain ⟨d4, h4, w4⟩ := rd_field (N := N + 1) 4 _ 4 1 hf hl hw rfl rfl rfl (by kernel_rfl) HL (by omega)
    have e2 : cs.length = 5 := hlen.trans (by kernel_rfl)
    have hG : CtlGood w (.mk d0 d1 d2 d3.l d4.l d3.A d4.A d3.c d4.c) := by
      refine ⟨?_, .cons (len_cap w3 (by decide)) (len_cap w4 (by decide)) (CtlCaps.all fun y hy => (w3.all y hy).caps) (CtlCaps.all fun y hy => (w4.all y hy).caps) .nil⟩
      rw [CtlOk]
      exact ⟨w2.lok, w3.lok, w4.lok, ctls_of fun y hy => (w3.all y hy).ok, ctls_of fun y hy => (w4.all y hy).ok⟩
    refine ⟨.mk d0 d1 d2 d3.l d4.l d3.A d4.A d3.c d4.c, cells_eq e2 fun i hi => ?_, hG⟩
    match i, hi with
    | 0, _ => exact cell_of_cut h0
    | 1, _ => exact cell_of_cut h1
    | 2, _ => exact cell_of_cut h2
    | 3, _ => exact cell_of_cut h3
    | 4, _ => exact cell_of_cut h4
theorem rd_ctls (N : Nat) : RdB enc Tryz.prog w base held N 28 (fun y : L CtlD => [y.v]) (ListOk w 5 88 CtlD.cells (CtlGood w)) :=
  (rd_list (N := N) (k := 5) (kb := 88) Tryz.underlying28 (by kernel_rfl) (by kernel_rfl) (by decide) (fun _ => rfl) (rd_ctl N)).mono (Nat.le_succ N)
theorem rd_prog (N : Nat) : RdB enc Tryz.prog w base held N 31 (fun p : ProgD => (progCells p).toList) (ProgGood w) := by
  intro m hm cs x h hw
  obtain ⟨xs, n, e1, hx, hlen, hl, hf⟩ := DataW.trod_struct Tryz.underlying31 h
  subst hx
  simp only [DataW.weights, Tryz.underlying31] at hw
  obtain ⟨d0, h0, w0⟩ := rd_field (N := N) 0 _ 0 1 hf hl hw rfl rfl rfl (by kernel_rfl) (rd_str Tryz.underlying9) (by omega)
  obtain ⟨d1, h1, w1⟩ := rd_field (N := N) 1 _ 1 1 hf hl hw rfl rfl rfl (by kernel_rfl) (rd_headers N) (by omega)
  obtain ⟨d2, h2, w2⟩ := rd_field (N := N) 2 _ 2 1 hf hl hw rfl rfl rfl (by kernel_rfl) (rd_fields N) (by omega)
  obtain ⟨d3, h3, w3⟩ := rd_field (N := N) 3 _ 3 1 hf hl hw rfl rfl rfl (by kernel_rfl) (rd_regs N) (by omega)
  obtain ⟨d4, h4, w4⟩ := rd_field (N := N) 4 _ 4 1 hf hl hw rfl rfl rfl (by kernel_rfl) (rd_acts N) (by omega)
  obtain ⟨d5, h5, w5⟩ := rd_field (N := N) 5 _ 5 1 hf hl hw rfl rfl rfl (by kernel_rfl) (rd_tabs N) (by omega)
  obtain ⟨d6, h6, w6⟩ := rd_field (N := N) 6 _ 6 1 hf hl hw rfl rfl rfl (by kernel_rfl) (rd_states N) (by omega)
  obtain ⟨d7, h7, w7⟩ := rd_field (N := N) 7 _ 7 1 hf hl hw rfl rfl rfl (by kernel_rfl) (rd_ctls N) (by omega)
  obtain ⟨d8, h8, w8⟩ := rd_field (N := N) 8 _ 8 1 hf hl hw rfl rfl rfl (by kernel_rfl) (rd_ints N) (by omega)
  have e2 : cs.length = 9 := hlen.trans (by kernel_rfl)
  refine ⟨⟨d0, d1, d2, d3, d4, d5, d6, d7, d8⟩, cells_eq e2 fun i hi => ?_, ⟨w0, w1, w2, w3, w4, w5, w6, w7, w8⟩⟩
  match i, hi with
  | 0, _ => exact cell_of_cut h0
  | 1, _ => exact cell_of_cut h1
  | 2, _ => exact cell_of_cut h2
  | 3, _ => exact cell_of_cut h3
  | 4, _ => exact cell_of_cut h4
  | 5, _ => exact cell_of_cut h5
  | 6, _ => exact cell_of_cut h6
  | 7, _ => exact cell_of_cut h7
  | 8, _ => exact cell_of_cut h8
end
open Go.RowKit Go.WideShapes Go.ChangeShapes
def YOk (z : Int) : Prop := (Lit.int .u8 z).wf = true
structure SlotGood (s : SlotD) : Prop where
  size : IOk s.size
  index : IOk s.index
  off : IOk s.off
  width : IOk s.width
structure EnvGood (w : World) (e : EnvD) : Prop where
  valid : ListOk w 1 1 bcell (fun _ => True) e.valid
  fields : ListOk w 1 24 lcell (ListOk w 1 4 ucell UOk) e.fields
  metaV : ListOk w 1 4 ucell UOk e.metaV
  payload : ListOk w 1 1 ycell YOk e.payload
structure StatD where
  env : EnvD
  bits : L Bool
def StatD.cells (s : StatD) : List Value := [s.env.valid.v, s.env.fields.v, s.env.metaV.v, s.env.payload.v, s.bits.v]
structure ConD where
  c8 : L Int
  c16 : L Int
  c32 : L Int
def ConD.cells (c : ConD) : List Value := [c.c8.v, c.c16.v, c.c32.v]
structure ConGood (w : World) (c : ConD) : Prop where
  c8 : ListOk w 1 4 ucell UOk c.c8
  c16 : ListOk w 1 4 ucell UOk c.c16
  c32 : ListOk w 1 4 ucell UOk c.c32
theorem EnvGood.ok {w : World} {e : EnvD} (h : EnvGood w e) : EnvOk w e :=
  ⟨⟨h.valid.lok, h.valid.nil⟩, ⟨h.fields.lok, h.fields.nil⟩, fun x hx => ⟨(h.fields.all x hx).lok, (h.fields.all x hx).nil⟩, ⟨h.metaV.lok, h.metaV.nil⟩, ⟨h.payload.lok, h.payload.nil⟩⟩
section
variable {H : Type} {enc : TypeId × Value → H} {w : World} {base : Nat} {held : Bool}
theorem rd_slot (N : Nat) : RdB enc Tryz.prog w base held N 48 SlotD.cells SlotGood := by
  intro m hm cs x h hw
  obtain ⟨xs, n, e1, hx, hlen, hl, hf⟩ := DataW.trod_struct Tryz.underlying48 h
  subst hx
  simp only [DataW.weights, Tryz.underlying48] at hw
  obtain ⟨d0, h0, w0⟩ := rd_field (N := N) 0 _ 0 1 hf hl hw rfl rfl rfl (by kernel_rfl) (rd_int Tryz.underlying3) (by omega)
  obtain ⟨d1, h1, w1⟩ := rd_field (N := N) 1 _ 1 1 hf hl hw rfl rfl rfl (by kernel_rfl) (rd_int Tryz.underlying3) (by omega)
  obtain ⟨d2, h2, w2⟩ := rd_field (N := N) 2 _ 2 1 hf hl hw rfl rfl rfl (by kernel_rfl) (rd_int Tryz.underlying3) (by omega)
  obtain ⟨d3, h3, w3⟩ := rd_field (N := N) 3 _ 3 1 hf hl hw rfl rfl rfl (by kernel_rfl) (rd_int Tryz.underlying3) (by omega)
  have e2 : cs.length = 4 := hlen.trans (by kernel_rfl)
  refine ⟨⟨d0, d1, d2, d3⟩, cells_eq e2 fun i hi => ?_, ⟨w0, w1, w2, w3⟩⟩
  match i, hi with
  | 0, _ => exact cell_of_cut h0
  | 1, _ => exact cell_of_cut h1
  | 2, _ => exact cell_of_cut h2
  | 3, _ => exact cell_of_cut h3
theorem rd_slots (N : Nat) : RdB enc Tryz.prog w base held N 36 (fun y : L SlotD => [y.v]) (ListOk w 4 32 SlotD.cells SlotGood) :=
  (rd_list (N := N) (k := 4) (kb := 32) Tryz.underlying36 (by kernel_rfl) (by kernel_rfl) (by decide) (fun _ => rfl) (rd_slot N)).mono (Nat.le_succ N)
theorem rd_con (N : Nat) : RdB enc Tryz.prog w base held N 62 ConD.cells (ConGood w) := by
  intro m hm cs x h hw
  obtain ⟨xs, n, e1, hx, hlen, hl, hf⟩ := DataW.trod_struct Tryz.underlying62 h
  subst hx
  simp only [DataW.weights, Tryz.underlying62] at hw
  obtain ⟨d0, h0, w0⟩ := rd_field (N := N) 0 _ 0 1 hf hl hw rfl rfl rfl (by kernel_rfl) (rd_u32s N) (by omega)
  obtain ⟨d1, h1, w1⟩ := rd_field (N := N) 1 _ 1 1 hf hl hw rfl rfl rfl (by kernel_rfl) (rd_u32s N) (by omega)
  obtain ⟨d2, h2, w2⟩ := rd_field (N := N) 2 _ 2 1 hf hl hw rfl rfl rfl (by kernel_rfl) (rd_u32s N) (by omega)
  have e2 : cs.length = 3 := hlen.trans (by kernel_rfl)
  refine ⟨⟨d0, d1, d2⟩, cells_eq e2 fun i hi => ?_, ⟨w0, w1, w2⟩⟩
  match i, hi with
  | 0, _ => exact cell_of_cut h0
  | 1, _ => exact cell_of_cut h1
  | 2, _ => exact cell_of_cut h2
end
def cix (z : Int) : Nat := if z = 8 then 0 else if z = 16 then 1 else 2
theorem clist_any (g : Nat) (z : Int) (w : World) : Calls Tryz.prog 59 #[.pointer (some ⟨g, 0, none⟩), .int .i64 z] w fun r w' => r = .returned (.pointer (some ⟨g, cix z, none⟩)) ∧ w = w' := by
  by_cases h8 : z = 8
  · subst h8
    go_enter Tryz.func59, Tryz.ntmps59
    go_wp2
    go_ret
    exact ⟨rfl, rfl⟩
  by_cases h16 : z = 16
  · subst h16
    go_enter Tryz.func59, Tryz.ntmps59
    go_wp2
    go_ret
    exact ⟨rfl, rfl⟩
  have b8 : (z == 8) = false := beq_eq_false_iff_ne.2 h8
  have b16 : (z == 16) = false := beq_eq_false_iff_ne.2 h16
  have HR : Hid (cix z = 2) := hi_ (by simp [cix, h8, h16])
  clear h8 h16
  go_enter Tryz.func59, Tryz.ntmps59
  go_wp2
  go_ret
  exact ⟨by rw [HR.out]; rfl, rfl⟩
def ConD.bare (x : ConD) : ConM := ⟨x.c8.l, x.c16.l, x.c32.l⟩
def conL (x : ConD) (z : Int) : L Int := if z = 8 then x.c8 else if z = 16 then x.c16 else x.c32
def conS (x : ConD) (z : Int) (y : L Int) : ConD := if z = 8 then ⟨y, x.c16, x.c32⟩ else if z = 16 then ⟨x.c8, y, x.c32⟩ else ⟨x.c8, x.c16, y⟩
theorem conL_l (x : ConD) (z : Int) : (conL x z).l = ofC x.bare z := by
  unfold conL ofC ConD.bare
  split
  · rfl
  · split <;> rfl
theorem conS_bare (x : ConD) (z : Int) (y : L Int) : (conS x z y).bare = setC x.bare z y.l := by
  unfold conS setC ConD.bare
  split
  · rfl
  · split <;> rfl
structure ConOwn (w : World) (B g : Nat) (x : ConD) : Prop where
  blk : Blk w g 64 #[x.c8.v, x.c16.v, x.c32.v]
  o8 : OwnL w B 83 ucell x.c8
  o16 : OwnL w B 83 ucell x.c16
  o32 : OwnL w B 83 ucell x.c32
  lt : g < B
  a1 : ∀ b, x.c8.v.ownBlock = some b → x.c16.v.ownBlock ≠ some b
  a2 : ∀ b, x.c8.v.ownBlock = some b → x.c32.v.ownBlock ≠ some b
  a3 : ∀ b, x.c16.v.ownBlock = some b → x.c32.v.ownBlock ≠ some b
theorem ConOwn.below {w w' : World} {B g : Nat} {x : ConD} (o : ConOwn w B g x) (hb : Below w.heap.size w w') : ConOwn w' B g x :=
  ⟨o.blk.below hb o.blk.lt, o.o8.below hb, o.o16.below hb, o.o32.below hb, o.lt, o.a1, o.a2, o.a3⟩
theorem ConOwn.list {w : World} {B g : Nat} {x : ConD} (o : ConOwn w B g x) (z : Int) : OwnL w B 83 ucell (conL x z) := by
  unfold conL
  split
  · exact o.o8
  · split
    · exact o.o16
    · exact o.o32
theorem ConOwn.cell {w : World} {B g : Nat} {x : ConD} (o : ConOwn w B g x) (z : Int) : w.cell? ⟨g, cix z, none⟩ = some (.slice (conL x z).A (conL x z).l.length (conL x z).c) := by
  rw [o.blk.cell]
  unfold cix conL
  split
  · rfl
  · split <;> rfl
theorem ConOwn.put {w : World} {B g : Nat} {x : ConD} (o : ConOwn w B g x) (z : Int) {gl : Nat} (hA : (conL x z).A = some ⟨gl, 0, none⟩) (i : Nat) (n : Int) :
    ConOwn (w.setCell ⟨gl, i, none⟩ (.int .u32 n)) B g (conS x z ⟨(conL x z).l.set i n, (conL x z).A, (conL x z).c⟩) := by
  obtain ⟨hb, o8, o16, o32, hlt, a1, a2, a3⟩ := o
  obtain ⟨⟨l8, A8, c8⟩, ⟨l16, A16, c16⟩, ⟨l32, A32, c32⟩⟩ := x
  have hgl : ∀ {y : L Int}, OwnL w B 83 ucell y → y.A = some ⟨gl, 0, none⟩ → B ≤ gl := fun h e => (h.lt gl (by rw [L.v, e]; rfl)).1
  unfold conL at hA ⊢
  unfold conS
  by_cases h8 : z = 8
  · simp only [h8, if_true] at hA ⊢
    subst hA
    have hB := hgl o8 rfl
    refine ⟨?_, OwnL.put (fun n => .int .u32 n) (fun _ => rfl) o8 i n, o16.far _ (a1 gl rfl), o32.far _ (a2 gl rfl), hlt, a1, a2, a3⟩
    simpa [L.v] using hb.far (p := ⟨gl, i, none⟩) (by show g ≠ gl; omega) (.int .u32 n)
  · by_cases h16 : z = 16
    · simp only [h16, if_neg (show ¬ (16 : Int) = 8 by decide), if_true] at hA ⊢
      subst hA
      have hB := hgl o16 rfl
      refine ⟨?_, o8.far _ (fun e => a1 gl e rfl), OwnL.put (fun n => .int .u32 n) (fun _ => rfl) o16 i n, o32.far _ (a3 gl rfl), hlt, a1, a2, a3⟩
      simpa [L.v] using hb.far (p := ⟨gl, i, none⟩) (by show g ≠ gl; omega) (.int .u32 n)
    · simp only [h8, h16, if_false] at hA ⊢
      subst hA
      have hB := hgl o32 rfl
      refine ⟨?_, o8.far _ (fun e => a2 gl e rfl), o16.far _ (fun e => a3 gl e rfl), OwnL.put (fun n => .int .u32 n) (fun _ => rfl) o32 i n, hlt, a1, a2, a3⟩
      simpa [L.v] using hb.far (p := ⟨gl, i, none⟩) (by show g ≠ gl; omega) (.int .u32 n)
def SetS (V : World) (a : Addr) (nv : Value) (w' : World) : Prop := ∃ w0, Below V.heap.size V w0 ∧ (w' = w0 ∨ w' = w0.setCell a nv)
theorem SetS.cell {V w' : World} {a b : Addr} {nv u : Value} (h : SetS V a nv w') (hc : V.cell? b = some u) (hne : b.block ≠ a.block) : w'.cell? b = some u := by
  obtain ⟨w0, hb, rfl | rfl⟩ := h
  · exact below_cell hb hc
  · rw [World.cell?_setCell_other _ _ _ _ (fun e => hne (by first | exact congrArg Addr.block e | exact (congrArg Addr.block e).symm))]
    exact below_cell hb hc
theorem conS_block (x : ConD) (z : Int) (y : L Int) (h : y.A = (conL x z).A) (z' : Int) : (conL (conS x z y) z').v.ownBlock = (conL x z').v.ownBlock := by
  have e : ∀ a b : L Int, a.A = b.A → a.v.ownBlock = b.v.ownBlock := fun a b h => by
    simp only [L.v, Value.ownBlock, h]
    cases b.A <;> rfl
  by_cases h8 : z = 8
  · subst h8
    have h' := e y x.c8 h
    unfold conL conS
    split
    · simp only [if_true]; exact h'
    · split <;> rfl
  · by_cases h16 : z = 16
    · subst h16
      have h' := e y x.c16 h
      unfold conL conS
      split
      · simp
      · split
        · simp; exact h'
        · simp
    · have hc : (conL x z) = x.c32 := by unfold conL; rw [if_neg h8, if_neg h16]
      rw [hc] at h
      have h' := e y x.c32 h
      unfold conS
      rw [if_neg h8, if_neg h16]
      unfold conL
      split
      · rfl
      · split
        · rfl
        · exact h'
theorem set_grown {w V w5 : World} {gl i : Nat} (h : Below w.heap.size w V) (h2 : Below V.heap.size V w5) (v : Value) : w.grownBy (w5.setCell ⟨gl, i, none⟩ v) (some gl) := by
  have hb := below_step h h2
  exact ⟨hb.os, hb.tape, hb.output, by simpa using hb.size, fun j hj hne => (Below.heap_setCell w5 _ v j (fun e => hne (by rw [e]))).trans (hb.block j hj)⟩
theorem cset_any (x : ConD) (s : SlotD) (v : Int) (B g : Nat) (w : World) (o : ConOwn w B g x) (hv : validS s = true) (hi : s.index < ((ofC x.bare s.size).length : Int)) :
    Calls Tryz.prog 62 #[.pointer (some ⟨g, 0, none⟩), .agg #[.int .i64 s.size, .int .i64 s.index, .int .i64 s.off, .int .i64 s.width], .int .u32 v] w fun r w' =>
      r = .returned (.tuple #[]) ∧ (∃ x', x'.bare = putC x.bare s v ∧ ConOwn w' B g x' ∧ ∀ z', (conL x' z').v.ownBlock = (conL x z').v.ownBlock) ∧ w.grownBy w' ((conL x s.size).v.ownBlock) := by
  have hbs := validS_iff.1 hv
  obtain ⟨k, hk⟩ : ∃ k : Nat, s.index = k := ⟨s.index.toNat, by omega⟩
  have hkl : k < (conL x s.size).l.length := by rw [conL_l]; omega
  obtain ⟨gl, hA, hBl, hglt⟩ := (o.list s.size).at (fun e => by rw [e] at hkl; cases hkl)
  obtain ⟨V, hV⟩ : ∃ V, V = w.alloc (.cells #[.int .i64 s.size, .int .i64 s.index, .int .i64 s.off, .int .i64 s.width] 48) := ⟨_, rfl⟩
  have HX : Hid (Blk V w.heap.size 48 #[.int .i64 s.size, .int .i64 s.index, .int .i64 s.off, .int .i64 s.width]) := hi_ (by rw [hV]; exact Blk.new _ _ _)
  have HwV : Hid (Below w.heap.size w V) := hi_ (by rw [hV]; exact below1 _ _)
  have HO : Hid (ConOwn V B g x) := hi_ (o.below HwV.out)
  have HM := hi_ (fun u => pmask_any s hv u)
  have hc0 := HO.out.cell s.size
  obtain ⟨y, hy⟩ : ∃ y, (conL x s.size).l[k]? = some y := ⟨_, List.getElem?_eq_getElem hkl⟩
  have HE : Hid (V.cell? ⟨gl, k, none⟩ = some (.int .u32 y)) := hi_ (by
    obtain ⟨g', o', e', d'⟩ := ucell_at ((HO.out.list s.size).ok (fun _ => rfl)).1 hkl
    rw [hA] at e'
    injection e' with e'
    injection e' with e1 e2
    subst e1 e2
    rw [Nat.zero_add] at d'
    rw [d']
    rw [List.getElem?_eq_getElem hkl] at hy
    injection hy with hy
    rw [hy])
  have HFr : Hid (∀ u, Below V.heap.size V u → u.frozen? ⟨gl, k, none⟩ = false) := hi_ (fun u hb => by
    have h := (HO.out.below hb).list s.size
    generalize conL x s.size = yl at h hA
    obtain ⟨l, A, c⟩ := yl
    simp only at hA
    subst hA
    exact h.frozen k)
  have HPut : Hid (∀ u n, ConOwn u B g x → n = putI y s v → ∃ x', x'.bare = putC x.bare s v ∧ ConOwn (u.setCell ⟨gl, k, none⟩ (.int .u32 n)) B g x' ∧ ∀ z', (conL x' z').v.ownBlock = (conL x z').v.ownBlock) := hi_ (fun u n ou hn => by
    refine ⟨_, ?_, ou.put s.size hA k n, conS_block x s.size _ rfl⟩
    rw [conS_bare, putC, ← conL_l, hk, Int.toNat_natCast, List.getD_eq_getElem?_getD, hy, hn]; rfl)
  have hne : ¬ w.heap.size = gl := by omega
  have HGl : Hid ((conL x s.size).v.ownBlock = some gl) := hi_ (by rw [L.v, hA]; rfl)
  rw [hA] at hc0
  have hklen : (k : Int) < ((conL x s.size).l.length : Int) := by omega
  have HPI : Hid (putI y s v = bits .or .u32 (bits .andNot .u32 y (maskS s)) (bits .and .u32 (IntKind.u32.wrap (v * 2 ^ s.off.toNat)) (maskS s))) := hi_ rfl
  have ho0 : 0 ≤ s.off := hbs.2.2.2.1
  have ho1 : s.off ≤ 32 := by omega
  clear o hi hkl hBl hy hbs hA hglt hv
  obtain ⟨z, i, f, d⟩ := s
  simp only at hk ho0 ho1 hc0 hklen HX HM HE HPut HPI hV HFr HGl ⊢
  subst hk
  generalize (conL x z).l.length = len at *
  generalize (conL x z).c = cc at *
  generalize maskS ⟨z, (k : Int), f, d⟩ = mk at *
  have x0 : V.cell? ⟨w.heap.size, 0, none⟩ = some (.int .i64 z) := HX.out.cell 0
  have x1 : V.cell? ⟨w.heap.size, 1, none⟩ = some (.int .i64 k) := HX.out.cell 1
  have x2 : V.cell? ⟨w.heap.size, 2, none⟩ = some (.int .i64 f) := HX.out.cell 2
  have x3 : V.cell? ⟨w.heap.size, 3, none⟩ = some (.int .i64 d) := HX.out.cell 3
  have q0 := fun w' (h : SetS V ⟨gl, k, none⟩ (.int .u32 (putI y ⟨z, (k : Int), f, d⟩ v)) w') => h.cell x0 hne
  have q1 := fun w' (h : SetS V ⟨gl, k, none⟩ (.int .u32 (putI y ⟨z, (k : Int), f, d⟩ v)) w') => h.cell x1 hne
  have q2 := fun w' (h : SetS V ⟨gl, k, none⟩ (.int .u32 (putI y ⟨z, (k : Int), f, d⟩ v)) w') => h.cell x2 hne
  have q3 := fun w' (h : SetS V ⟨gl, k, none⟩ (.int .u32 (putI y ⟨z, (k : Int), f, d⟩ v)) w') => h.cell x3 hne
  go_enter Tryz.func62, Tryz.ntmps62
  go_wp2_with fail
  rw [← hV]
  clear hV
  refine (clist_any g z V).mono ?_
  rintro r w' ⟨rfl, rfl⟩
  have e0 := HE.out
  have e1 := HFr.out V (Below.refl _ _)
  have H0 : Below V.heap.size V V.drew := below_drew (Below.refl _ _)
  have e2 : V.drew.cell? ⟨gl, k, none⟩ = some (.int .u32 y) := HE.out
  go_upto_region 2 with fail
  refine wp_region_held_drew (S := fun w' => SetS V ⟨gl, k, none⟩ (.int .u32 (putI y ⟨z, (k : Int), f, d⟩ v)) w') (by kernel_rfl) ⟨V.drew, H0, .inl rfl⟩ (fun hHeld => ?_)
  refine wpAnyH_take (i := 0) (oi := { dst := some 13, op := Op.move (Operand.tmp 6), type := 53, pos := "phv.go:101", after := #[], guard := none }) (v := ?t1_v) rfl (by kernel_rfl) (by kernel_rfl) (by kernel_rfl) (fun _ _ _ h => h) (Or.inl ⟨by rfl, ?t1_y⟩) (by assumption) ?t1_r
  case t1_y => (intro w hSw; (try dsimp only at hSw); go_simp; try (with_reducible rfl))
  try simp only [Act.put, sA, sZ, sS]
  refine wpAnyH_take (i := 1) (oi := { dst := some 14, op := Op.fieldAddr 48 (Operand.tmp 4) 1, type := 0, pos := "phv.go:101", after := #[], guard := none }) (v := ?t2_v) rfl (by kernel_rfl) (by kernel_rfl) (by kernel_rfl) (fun _ _ _ h => h) (Or.inl ⟨by rfl, ?t2_y⟩) (by assumption) ?t2_r
  case t2_y => (intro w hSw; (try dsimp only at hSw); go_simp; try (with_reducible rfl))
  try simp only [Act.put, sA, sZ, sS]
  refine wpAnyH_take (i := 2) (oi := { dst := some 15, op := Op.load 3 (Operand.tmp 14), type := 3, pos := "phv.go:101", after := #[{ on := 1, ground := Ground.data }], guard := none }) (v := ?t3_v) rfl (by kernel_rfl) (by kernel_rfl) (by kernel_rfl) (fun _ _ _ h => h) (Or.inl ⟨by rfl, ?t3_y⟩) (by assumption) ?t3_r
  case t3_y => (intro w hSw; (try dsimp only at hSw); go_simp; try (with_reducible rfl))
  try simp only [Act.put, sA, sZ, sS]
  refine wpAnyH_take (i := 3) (oi := { dst := some 16, op := Op.move (Operand.tmp 6), type := 53, pos := "phv.go:101", after := #[], guard := none }) (v := ?t4_v) rfl (by kernel_rfl) (by kernel_rfl) (by kernel_rfl) (fun _ _ _ h => h) (Or.inl ⟨by rfl, ?t4_y⟩) (by assumption) ?t4_r
  case t4_y => (intro w hSw; (try dsimp only at hSw); go_simp; try (with_reducible rfl))
  try simp only [Act.put, sA, sZ, sS]
  refine wpAnyH_take (i := 4) (oi := { dst := some 17, op := Op.fieldAddr 48 (Operand.tmp 4) 1, type := 0, pos := "phv.go:101", after := #[], guard := none }) (v := ?t5_v) rfl (by kernel_rfl) (by kernel_rfl) (by kernel_rfl) (fun _ _ _ h => h) (Or.inl ⟨by rfl, ?t5_y⟩) (by assumption) ?t5_r
  case t5_y => (intro w hSw; (try dsimp only at hSw); go_simp; try (with_reducible rfl))
  try simp only [Act.put, sA, sZ, sS]
  refine wpAnyH_take (i := 5) (oi := { dst := some 18, op := Op.load 3 (Operand.tmp 17), type := 3, pos := "phv.go:101", after := #[{ on := 4, ground := Ground.data }], guard := none }) (v := ?t6_v) rfl (by kernel_rfl) (by kernel_rfl) (by kernel_rfl) (fun _ _ _ h => h) (Or.inl ⟨by rfl, ?t6_y⟩) (by assumption) ?t6_r
  case t6_y => (intro w hSw; (try dsimp only at hSw); go_simp; try (with_reducible rfl))
  try simp only [Act.put, sA, sZ, sS]
  refine wpAnyH_take (i := 6) (oi := { dst := some 19, op := Op.indexAddr 53 (Operand.tmp 16) (Operand.tmp 18), type := 0, pos := "phv.go:101", after := #[{ on := 3, ground := Ground.data }, { on := 5, ground := Ground.data }], guard := none }) (v := ?t7_v) rfl (by kernel_rfl) (by kernel_rfl) (by kernel_rfl) (fun _ _ _ h => h) (Or.inl ⟨by rfl, ?t7_y⟩) (by assumption) ?t7_r
  case t7_y => (intro w hSw; (try dsimp only at hSw); go_simp; try (with_reducible rfl))
  try simp only [Act.put, sA, sZ, sS]
  refine wpAnyH_take (i := 8) (oi := { dst := some 21, op := Op.load 48 (Operand.tmp 4), type := 48, pos := "phv.go:101", after := #[], guard := none }) (v := ?t8_v) rfl (by kernel_rfl) (by kernel_rfl) (by kernel_rfl) (fun _ _ _ h => h) (Or.inl ⟨by rfl, ?t8_y⟩) (by assumption) ?t8_r
  case t8_y => (intro w hSw; (try dsimp only at hSw); go_simp; try (with_reducible rfl))
  try simp only [Act.put, sA, sZ, sS]
  refine wpAnyH_take (i := 11) (oi := { dst := some 24, op := Op.move (Operand.tmp 2), type := 83, pos := "phv.go:101", after := #[], guard := none }) (v := ?t9_v) rfl (by kernel_rfl) (by kernel_rfl) (by kernel_rfl) (fun _ _ _ h => h) (Or.inl ⟨by rfl, ?t9_y⟩) (by assumption) ?t9_r
  case t9_y => (intro w hSw; (try dsimp only at hSw); go_simp; try (with_reducible rfl))
  try simp only [Act.put, sA, sZ, sS]
  refine wpAnyH_take (i := 12) (oi := { dst := some 25, op := Op.fieldAddr 48 (Operand.tmp 4) 2, type := 0, pos := "phv.go:101", after := #[], guard := none }) (v := ?t10_v) rfl (by kernel_rfl) (by kernel_rfl) (by kernel_rfl) (fun _ _ _ h => h) (Or.inl ⟨by rfl, ?t10_y⟩) (by assumption) ?t10_r
  case t10_y => (intro w hSw; (try dsimp only at hSw); go_simp; try (with_reducible rfl))
  try simp only [Act.put, sA, sZ, sS]
  refine wpAnyH_take (i := 13) (oi := { dst := some 26, op := Op.load 3 (Operand.tmp 25), type := 3, pos := "phv.go:101", after := #[{ on := 12, ground := Ground.data }], guard := none }) (v := ?t11_v) rfl (by kernel_rfl) (by kernel_rfl) (by kernel_rfl) (fun _ _ _ h => h) (Or.inl ⟨by rfl, ?t11_y⟩) (by assumption) ?t11_r
  case t11_y => (intro w hSw; (try dsimp only at hSw); go_simp; try (with_reducible rfl))
  try simp only [Act.put, sA, sZ, sS]
  refine wpAnyH_take (i := 14) (oi := { dst := some 27, op := Op.binOp BinOp.shl 83 (Operand.tmp 24) (Operand.tmp 26) 3, type := 83, pos := "phv.go:101", after := #[{ on := 11, ground := Ground.data }, { on := 13, ground := Ground.data }], guard := none }) (v := ?t12_v) rfl (by kernel_rfl) (by kernel_rfl) (by kernel_rfl) (fun _ _ _ h => h) (Or.inl ⟨by rfl, ?t12_y⟩) (by assumption) ?t12_r
  case t12_y => (intro w hSw; (try dsimp only at hSw); go_simp; try (with_reducible rfl))
  try simp only [Act.put, sA, sZ, sS]
  refine wpAnyH_take (i := 15) (oi := { dst := some 28, op := Op.load 48 (Operand.tmp 4), type := 48, pos := "phv.go:101", after := #[], guard := none }) (v := ?t13_v) rfl (by kernel_rfl) (by kernel_rfl) (by kernel_rfl) (fun _ _ _ h => h) (Or.inl ⟨by rfl, ?t13_y⟩) (by assumption) ?t13_r
  case t13_y => (intro w hSw; (try dsimp only at hSw); go_simp; try (with_reducible rfl))
  try simp only [Act.put, sA, sZ, sS]
  refine wpAnyH_ready (rs := [7, 9]) (by kernel_rfl) (by simp) ?_
  refine AllReadyH.cons (o := { dst := some 20, op := Op.load 83 (Operand.tmp 19), type := 83, pos := "phv.go:101", after := #[{ on := 6, ground := Ground.data }], guard := none }) rfl (fun K hK => ?_) (AllReadyH.cons (o := { dst := some 22, op := Op.call { callee := Callee.value (Operand.func 103), args := #[Operand.tmp 21], argTypes := #[48] }, type := 83, pos := "phv.go:101", after := #[{ on := 8, ground := Ground.data }], guard := none }) rfl (fun K hK => ?_) AllReadyH.nil)
  · skip
    go_simp
    refine hK.out _ _ (by assumption) (fun hHeldL => ?_)
    clear hK K
    try simp only [Act.put, sA, sZ, sS]
    refine wpAnyH_ready (rs := [9]) (by kernel_rfl) (by simp) ?_
    refine AllReadyH.cons (o := { dst := some 22, op := Op.call { callee := Callee.value (Operand.func 103), args := #[Operand.tmp 21], argTypes := #[48] }, type := 83, pos := "phv.go:101", after := #[{ on := 8, ground := Ground.data }], guard := none }) rfl (fun K hK => ?_) AllReadyH.nil
    go_simp
    go_at_call 103
    refine (HM.out _).mono ?_
    rintro r w5 ⟨rfl, hb1⟩
    have hB5 := below_step (w := V) (by assumption) hb1
    have e5 := below_cell hB5 HE.out
    have f5 := HFr.out _ hB5
    clear hb1
    refine hK.out _ _ ⟨_, hB5, .inl rfl⟩ (fun hHeldC => ?_)
    clear hK K
    try simp only [Act.put, sA, sZ, sS]
    refine wpAnyH_take (i := 10) (oi := { dst := some 23, op := Op.binOp BinOp.andNot 83 (Operand.tmp 20) (Operand.tmp 22) 83, type := 83, pos := "phv.go:101", after := #[{ on := 7, ground := Ground.data }, { on := 9, ground := Ground.data }], guard := none }) (v := ?t14_v) rfl (by kernel_rfl) (by kernel_rfl) (by kernel_rfl) (fun _ _ _ h => h) (Or.inl ⟨by rfl, ?t14_y⟩) (by assumption) ?t14_r
    case t14_y => (intro w hSw; (try dsimp only at hSw); go_simp; try (with_reducible rfl))
    try simp only [Act.put, sA, sZ, sS]
    refine wpAnyH_ready (rs := [16]) (by kernel_rfl) (by simp) ?_
    refine AllReadyH.cons (o := { dst := some 29, op := Op.call { callee := Callee.value (Operand.func 103), args := #[Operand.tmp 28], argTypes := #[48] }, type := 83, pos := "phv.go:101", after := #[{ on := 15, ground := Ground.data }, { on := 9, ground := Ground.chain }], guard := none }) rfl (fun K hK => ?_) AllReadyH.nil
    go_simp
    go_at_call 103
    refine (HM.out _).mono ?_
    rintro r w6 ⟨rfl, hb1⟩
    have hB6 := below_step (w := V) (by assumption) hb1
    have e6 := below_cell hB6 HE.out
    have f6 := HFr.out _ hB6
    clear hb1
    refine hK.out _ _ ⟨_, hB6, .inl rfl⟩ (fun hHeldC => ?_)
    clear hK K
    try simp only [Act.put, sA, sZ, sS]
    refine wpAnyH_take (i := 17) (oi := { dst := some 30, op := Op.binOp BinOp.and 83 (Operand.tmp 27) (Operand.tmp 29) 83, type := 83, pos := "phv.go:101", after := #[{ on := 14, ground := Ground.data }, { on := 16, ground := Ground.data }], guard := none }) (v := ?t15_v) rfl (by kernel_rfl) (by kernel_rfl) (by kernel_rfl) (fun _ _ _ h => h) (Or.inl ⟨by rfl, ?t15_y⟩) (by assumption) ?t15_r
    case t15_y => (intro w hSw; (try dsimp only at hSw); go_simp; try (with_reducible rfl))
    try simp only [Act.put, sA, sZ, sS]
    refine wpAnyH_take (i := 18) (oi := { dst := some 31, op := Op.binOp BinOp.or 83 (Operand.tmp 23) (Operand.tmp 30) 83, type := 83, pos := "phv.go:101", after := #[{ on := 10, ground := Ground.data }, { on := 17, ground := Ground.data }], guard := none }) (v := ?t16_v) rfl (by kernel_rfl) (by kernel_rfl) (by kernel_rfl) (fun _ _ _ h => h) (Or.inl ⟨by rfl, ?t16_y⟩) (by assumption) ?t16_r
    case t16_y => (intro w hSw; (try dsimp only at hSw); go_simp; try (with_reducible rfl))
    try simp only [Act.put, sA, sZ, sS]
    refine wpAnyH_take (i := 19) (oi := { dst := some 32, op := Op.indexAddr 53 (Operand.tmp 13) (Operand.tmp 15), type := 0, pos := "phv.go:101", after := #[{ on := 0, ground := Ground.data }, { on := 2, ground := Ground.data }, { on := 0, ground := Ground.phase }, { on := 1, ground := Ground.phase }, { on := 2, ground := Ground.phase }, { on := 3, ground := Ground.phase }, { on := 4, ground := Ground.phase }, { on := 5, ground := Ground.phase }, { on := 6, ground := Ground.phase }, { on := 7, ground := Ground.phase }, { on := 8, ground := Ground.phase }, { on := 9, ground := Ground.phase }, { on := 10, ground := Ground.phase }, { on := 11, ground := Ground.phase }, { on := 12, ground := Ground.phase }, { on := 13, ground := Ground.phase }, { on := 14, ground := Ground.phase }, { on := 15, ground := Ground.phase }, { on := 16, ground := Ground.phase }, { on := 17, ground := Ground.phase }, { on := 18, ground := Ground.phase }], guard := none }) (v := ?t17_v) rfl (by kernel_rfl) (by kernel_rfl) (by kernel_rfl) (fun _ _ _ h => h) (Or.inl ⟨by rfl, ?t17_y⟩) (by assumption) ?t17_r
    case t17_y => (intro w hSw; (try dsimp only at hSw); go_simp; try (with_reducible rfl))
    try simp only [Act.put, sA, sZ, sS]
    refine wpAnyH_ready (rs := [20]) (by kernel_rfl) (by simp) ?_
    refine AllReadyH.cons (o := { dst := none, op := Op.store 83 (Operand.tmp 32) (Operand.tmp 31), type := 0, pos := "phv.go:101", after := #[{ on := 19, ground := Ground.data }, { on := 18, ground := Ground.data }, { on := 16, ground := Ground.chain }, { on := 0, ground := Ground.phase }, { on := 1, ground := Ground.phase }, { on := 2, ground := Ground.phase }, { on := 3, ground := Ground.phase }, { on := 4, ground := Ground.phase }, { on := 5, ground := Ground.phase }, { on := 6, ground := Ground.phase }, { on := 7, ground := Ground.phase }, { on := 8, ground := Ground.phase }, { on := 9, ground := Ground.phase }, { on := 10, ground := Ground.phase }, { on := 11, ground := Ground.phase }, { on := 12, ground := Ground.phase }, { on := 13, ground := Ground.phase }, { on := 14, ground := Ground.phase }, { on := 15, ground := Ground.phase }, { on := 16, ground := Ground.phase }, { on := 17, ground := Ground.phase }, { on := 18, ground := Ground.phase }], guard := none }) rfl (fun K hK => ?_) AllReadyH.nil
    go_simp
    refine hK.out _ _ ⟨_, hB6, .inr (by rw [HPI.out])⟩ (fun hHeldS => ?_)
    clear hK K
    try simp only [Act.put, sA, sZ, sS]
    refine wpAnyH_done (by kernel_rfl) ?_ _
    go_wp2
    go_end0
    exact ⟨rfl, HPut.out _ _ (HO.out.below hB6) HPI.out.symm, (by rw [HGl.out]; exact set_grown HwV.out hB6 _)⟩
  · skip
    go_simp
    go_at_call 103
    refine (HM.out _).mono ?_
    rintro r w5 ⟨rfl, hb1⟩
    have hB5 := below_step (w := V) (by assumption) hb1
    have e5 := below_cell hB5 HE.out
    have f5 := HFr.out _ hB5
    clear hb1
    refine hK.out _ _ ⟨_, hB5, .inl rfl⟩ (fun hHeldC => ?_)
    clear hK K
    try simp only [Act.put, sA, sZ, sS]
    refine wpAnyH_ready (rs := [7, 16]) (by kernel_rfl) (by simp) ?_
    refine AllReadyH.cons (o := { dst := some 20, op := Op.load 83 (Operand.tmp 19), type := 83, pos := "phv.go:101", after := #[{ on := 6, ground := Ground.data }], guard := none }) rfl (fun K hK => ?_) (AllReadyH.cons (o := { dst := some 29, op := Op.call { callee := Callee.value (Operand.func 103), args := #[Operand.tmp 28], argTypes := #[48] }, type := 83, pos := "phv.go:101", after := #[{ on := 15, ground := Ground.data }, { on := 9, ground := Ground.chain }], guard := none }) rfl (fun K hK => ?_) AllReadyH.nil)
    · skip
      go_simp
      refine hK.out _ _ (by assumption) (fun hHeldL => ?_)
      clear hK K
      try simp only [Act.put, sA, sZ, sS]
      refine wpAnyH_take (i := 10) (oi := { dst := some 23, op := Op.binOp BinOp.andNot 83 (Operand.tmp 20) (Operand.tmp 22) 83, type := 83, pos := "phv.go:101", after := #[{ on := 7, ground := Ground.data }, { on := 9, ground := Ground.data }], guard := none }) (v := ?t18_v) rfl (by kernel_rfl) (by kernel_rfl) (by kernel_rfl) (fun _ _ _ h => h) (Or.inl ⟨by rfl, ?t18_y⟩) (by assumption) ?t18_r
      case t18_y => (intro w hSw; (try dsimp only at hSw); go_simp; try (with_reducible rfl))
      try simp only [Act.put, sA, sZ, sS]
      refine wpAnyH_ready (rs := [16]) (by kernel_rfl) (by simp) ?_
      refine AllReadyH.cons (o := { dst := some 29, op := Op.call { callee := Callee.value (Operand.func 103), args := #[Operand.tmp 28], argTypes := #[48] }, type := 83, pos := "phv.go:101", after := #[{ on := 15, ground := Ground.data }, { on := 9, ground := Ground.chain }], guard := none }) rfl (fun K hK => ?_) AllReadyH.nil
      go_simp
      go_at_call 103
      refine (HM.out _).mono ?_
      rintro r w6 ⟨rfl, hb1⟩
      have hB6 := below_step (w := V) (by assumption) hb1
      have e6 := below_cell hB6 HE.out
      have f6 := HFr.out _ hB6
      clear hb1
      refine hK.out _ _ ⟨_, hB6, .inl rfl⟩ (fun hHeldC => ?_)
      clear hK K
      try simp only [Act.put, sA, sZ, sS]
      refine wpAnyH_take (i := 17) (oi := { dst := some 30, op := Op.binOp BinOp.and 83 (Operand.tmp 27) (Operand.tmp 29) 83, type := 83, pos := "phv.go:101", after := #[{ on := 14, ground := Ground.data }, { on := 16, ground := Ground.data }], guard := none }) (v := ?t19_v) rfl (by kernel_rfl) (by kernel_rfl) (by kernel_rfl) (fun _ _ _ h => h) (Or.inl ⟨by rfl, ?t19_y⟩) (by assumption) ?t19_r
      case t19_y => (intro w hSw; (try dsimp only at hSw); go_simp; try (with_reducible rfl))
      try simp only [Act.put, sA, sZ, sS]
      refine wpAnyH_take (i := 18) (oi := { dst := some 31, op := Op.binOp BinOp.or 83 (Operand.tmp 23) (Operand.tmp 30) 83, type := 83, pos := "phv.go:101", after := #[{ on := 10, ground := Ground.data }, { on := 17, ground := Ground.data }], guard := none }) (v := ?t20_v) rfl (by kernel_rfl) (by kernel_rfl) (by kernel_rfl) (fun _ _ _ h => h) (Or.inl ⟨by rfl, ?t20_y⟩) (by assumption) ?t20_r
      case t20_y => (intro w hSw; (try dsimp only at hSw); go_simp; try (with_reducible rfl))
      try simp only [Act.put, sA, sZ, sS]
      refine wpAnyH_take (i := 19) (oi := { dst := some 32, op := Op.indexAddr 53 (Operand.tmp 13) (Operand.tmp 15), type := 0, pos := "phv.go:101", after := #[{ on := 0, ground := Ground.data }, { on := 2, ground := Ground.data }, { on := 0, ground := Ground.phase }, { on := 1, ground := Ground.phase }, { on := 2, ground := Ground.phase }, { on := 3, ground := Ground.phase }, { on := 4, ground := Ground.phase }, { on := 5, ground := Ground.phase }, { on := 6, ground := Ground.phase }, { on := 7, ground := Ground.phase }, { on := 8, ground := Ground.phase }, { on := 9, ground := Ground.phase }, { on := 10, ground := Ground.phase }, { on := 11, ground := Ground.phase }, { on := 12, ground := Ground.phase }, { on := 13, ground := Ground.phase }, { on := 14, ground := Ground.phase }, { on := 15, ground := Ground.phase }, { on := 16, ground := Ground.phase }, { on := 17, ground := Ground.phase }, { on := 18, ground := Ground.phase }], guard := none }) (v := ?t21_v) rfl (by kernel_rfl) (by kernel_rfl) (by kernel_rfl) (fun _ _ _ h => h) (Or.inl ⟨by rfl, ?t21_y⟩) (by assumption) ?t21_r
      case t21_y => (intro w hSw; (try dsimp only at hSw); go_simp; try (with_reducible rfl))
      try simp only [Act.put, sA, sZ, sS]
      refine wpAnyH_ready (rs := [20]) (by kernel_rfl) (by simp) ?_
      refine AllReadyH.cons (o := { dst := none, op := Op.store 83 (Operand.tmp 32) (Operand.tmp 31), type := 0, pos := "phv.go:101", after := #[{ on := 19, ground := Ground.data }, { on := 18, ground := Ground.data }, { on := 16, ground := Ground.chain }, { on := 0, ground := Ground.phase }, { on := 1, ground := Ground.phase }, { on := 2, ground := Ground.phase }, { on := 3, ground := Ground.phase }, { on := 4, ground := Ground.phase }, { on := 5, ground := Ground.phase }, { on := 6, ground := Ground.phase }, { on := 7, ground := Ground.phase }, { on := 8, ground := Ground.phase }, { on := 9, ground := Ground.phase }, { on := 10, ground := Ground.phase }, { on := 11, ground := Ground.phase }, { on := 12, ground := Ground.phase }, { on := 13, ground := Ground.phase }, { on := 14, ground := Ground.phase }, { on := 15, ground := Ground.phase }, { on := 16, ground := Ground.phase }, { on := 17, ground := Ground.phase }, { on := 18, ground := Ground.phase }], guard := none }) rfl (fun K hK => ?_) AllReadyH.nil
      go_simp
      refine hK.out _ _ ⟨_, hB6, .inr (by rw [HPI.out])⟩ (fun hHeldS => ?_)
      clear hK K
      try simp only [Act.put, sA, sZ, sS]
      refine wpAnyH_done (by kernel_rfl) ?_ _
      go_wp2
      go_end0
      exact ⟨rfl, HPut.out _ _ (HO.out.below hB6) HPI.out.symm, (by rw [HGl.out]; exact set_grown HwV.out hB6 _)⟩
    · skip
      go_simp
      go_at_call 103
      refine (HM.out _).mono ?_
      rintro r w6 ⟨rfl, hb1⟩
      have hB6 := below_step (w := V) (by assumption) hb1
      have e6 := below_cell hB6 HE.out
      have f6 := HFr.out _ hB6
      clear hb1
      refine hK.out _ _ ⟨_, hB6, .inl rfl⟩ (fun hHeldC => ?_)
      clear hK K
      try simp only [Act.put, sA, sZ, sS]
      refine wpAnyH_take (i := 17) (oi := { dst := some 30, op := Op.binOp BinOp.and 83 (Operand.tmp 27) (Operand.tmp 29) 83, type := 83, pos := "phv.go:101", after := #[{ on := 14, ground := Ground.data }, { on := 16, ground := Ground.data }], guard := none }) (v := ?t22_v) rfl (by kernel_rfl) (by kernel_rfl) (by kernel_rfl) (fun _ _ _ h => h) (Or.inl ⟨by rfl, ?t22_y⟩) (by assumption) ?t22_r
      case t22_y => (intro w hSw; (try dsimp only at hSw); go_simp; try (with_reducible rfl))
      try simp only [Act.put, sA, sZ, sS]
      refine wpAnyH_ready (rs := [7]) (by kernel_rfl) (by simp) ?_
      refine AllReadyH.cons (o := { dst := some 20, op := Op.load 83 (Operand.tmp 19), type := 83, pos := "phv.go:101", after := #[{ on := 6, ground := Ground.data }], guard := none }) rfl (fun K hK => ?_) AllReadyH.nil
      go_simp
      refine hK.out _ _ (by assumption) (fun hHeldL => ?_)
      clear hK K
      try simp only [Act.put, sA, sZ, sS]
      refine wpAnyH_take (i := 10) (oi := { dst := some 23, op := Op.binOp BinOp.andNot 83 (Operand.tmp 20) (Operand.tmp 22) 83, type := 83, pos := "phv.go:101", after := #[{ on := 7, ground := Ground.data }, { on := 9, ground := Ground.data }], guard := none }) (v := ?t23_v) rfl (by kernel_rfl) (by kernel_rfl) (by kernel_rfl) (fun _ _ _ h => h) (Or.inl ⟨by rfl, ?t23_y⟩) (by assumption) ?t23_r
      case t23_y => (intro w hSw; (try dsimp only at hSw); go_simp; try (with_reducible rfl))
      try simp only [Act.put, sA, sZ, sS]
      refine wpAnyH_take (i := 18) (oi := { dst := some 31, op := Op.binOp BinOp.or 83 (Operand.tmp 23) (Operand.tmp 30) 83, type := 83, pos := "phv.go:101", after := #[{ on := 10, ground := Ground.data }, { on := 17, ground := Ground.data }], guard := none }) (v := ?t24_v) rfl (by kernel_rfl) (by kernel_rfl) (by kernel_rfl) (fun _ _ _ h => h) (Or.inl ⟨by rfl, ?t24_y⟩) (by assumption) ?t24_r
      case t24_y => (intro w hSw; (try dsimp only at hSw); go_simp; try (with_reducible rfl))
      try simp only [Act.put, sA, sZ, sS]
      refine wpAnyH_take (i := 19) (oi := { dst := some 32, op := Op.indexAddr 53 (Operand.tmp 13) (Operand.tmp 15), type := 0, pos := "phv.go:101", after := #[{ on := 0, ground := Ground.data }, { on := 2, ground := Ground.data }, { on := 0, ground := Ground.phase }, { on := 1, ground := Ground.phase }, { on := 2, ground := Ground.phase }, { on := 3, ground := Ground.phase }, { on := 4, ground := Ground.phase }, { on := 5, ground := Ground.phase }, { on := 6, ground := Ground.phase }, { on := 7, ground := Ground.phase }, { on := 8, ground := Ground.phase }, { on := 9, ground := Ground.phase }, { on := 10, ground := Ground.phase }, { on := 11, ground := Ground.phase }, { on := 12, ground := Ground.phase }, { on := 13, ground := Ground.phase }, { on := 14, ground := Ground.phase }, { on := 15, ground := Ground.phase }, { on := 16, ground := Ground.phase }, { on := 17, ground := Ground.phase }, { on := 18, ground := Ground.phase }], guard := none }) (v := ?t25_v) rfl (by kernel_rfl) (by kernel_rfl) (by kernel_rfl) (fun _ _ _ h => h) (Or.inl ⟨by rfl, ?t25_y⟩) (by assumption) ?t25_r
      case t25_y => (intro w hSw; (try dsimp only at hSw); go_simp; try (with_reducible rfl))
      try simp only [Act.put, sA, sZ, sS]
      refine wpAnyH_ready (rs := [20]) (by kernel_rfl) (by simp) ?_
      refine AllReadyH.cons (o := { dst := none, op := Op.store 83 (Operand.tmp 32) (Operand.tmp 31), type := 0, pos := "phv.go:101", after := #[{ on := 19, ground := Ground.data }, { on := 18, ground := Ground.data }, { on := 16, ground := Ground.chain }, { on := 0, ground := Ground.phase }, { on := 1, ground := Ground.phase }, { on := 2, ground := Ground.phase }, { on := 3, ground := Ground.phase }, { on := 4, ground := Ground.phase }, { on := 5, ground := Ground.phase }, { on := 6, ground := Ground.phase }, { on := 7, ground := Ground.phase }, { on := 8, ground := Ground.phase }, { on := 9, ground := Ground.phase }, { on := 10, ground := Ground.phase }, { on := 11, ground := Ground.phase }, { on := 12, ground := Ground.phase }, { on := 13, ground := Ground.phase }, { on := 14, ground := Ground.phase }, { on := 15, ground := Ground.phase }, { on := 16, ground := Ground.phase }, { on := 17, ground := Ground.phase }, { on := 18, ground := Ground.phase }], guard := none }) rfl (fun K hK => ?_) AllReadyH.nil
      go_simp
      refine hK.out _ _ ⟨_, hB6, .inr (by rw [HPI.out])⟩ (fun hHeldS => ?_)
      clear hK K
      try simp only [Act.put, sA, sZ, sS]
      refine wpAnyH_done (by kernel_rfl) ?_ _
      go_wp2
      go_end0
      exact ⟨rfl, HPut.out _ _ (HO.out.below hB6) HPI.out.symm, (by rw [HGl.out]; exact set_grown HwV.out hB6 _)⟩
theorem SlotD.at {w : World} {x : L SlotD} (h : LOk w 4 SlotD.cells x) {i : Nat} (hi : i < x.l.length) :
    ∃ g o, x.A = some ⟨g, o, none⟩ ∧ w.cell? ⟨g, o + i * 4, none⟩ = some (.int .i64 x.l[i].size) ∧ w.cell? ⟨g, o + i * 4 + 1, none⟩ = some (.int .i64 x.l[i].index) ∧ w.cell? ⟨g, o + i * 4 + 2, none⟩ = some (.int .i64 x.l[i].off) ∧ w.cell? ⟨g, o + i * 4 + 3, none⟩ = some (.int .i64 x.l[i].width) := by
  obtain ⟨g, o, e, _, hc⟩ := h.at hi
  exact ⟨g, o, e, hc 0 (by omega), hc 1 (by omega), hc 2 (by omega), hc 3 (by omega)⟩
theorem SlotD.atA {w : World} {x : L SlotD} (h : LOk w 4 SlotD.cells x) {i : Nat} (hi : i < x.l.length) :
    ∃ g o, x.A = some ⟨g, o, none⟩ ∧ ∀ w', Below w.heap.size w w' → w'.cell? ⟨g, o + i * 4, none⟩ = some (.int .i64 x.l[i].size) ∧ w'.cell? ⟨g, o + i * 4 + 1, none⟩ = some (.int .i64 x.l[i].index) ∧ w'.cell? ⟨g, o + i * 4 + 2, none⟩ = some (.int .i64 x.l[i].off) ∧ w'.cell? ⟨g, o + i * 4 + 3, none⟩ = some (.int .i64 x.l[i].width) := by
  obtain ⟨g, o, e, d0, d1, d2, d3⟩ := SlotD.at h hi
  exact ⟨g, o, e, fun w' hb => ⟨below_cell hb d0, below_cell hb d1, below_cell hb d2, below_cell hb d3⟩⟩
def matchS (z n : Int) (s : SlotD) : Bool := validS s && (decide (s.size = z) && decide (s.index = n))
def hasS (l : List SlotD) (z n : Int) : Bool := l.any (matchS z n)
def usageS (l : List SlotD) (z : Int) : Nat := (List.range 64).countP fun (n : Nat) => hasS l z (n : Int)
theorem has_snoc (l : List SlotD) (s : SlotD) (z n : Int) : hasS (l ++ [s]) z n = (hasS l z n || matchS z n s) := by simp [hasS]
theorem usage_le (l : List SlotD) (z : Int) : usageS l z ≤ 64 := Nat.le_trans List.countP_le_length (by simp)
theorem count_new {p q : Nat → Bool} {i : Nat} (hp : p i = false) (hq : ∀ n, q n = (p n || decide (n = i))) : ∀ {N : Nat}, i < N → (List.range N).countP q = (List.range N).countP p + 1
  | N + 1, h => by
    rw [List.range_succ, List.countP_append, List.countP_append]
    rcases Nat.lt_or_ge i N with h1 | h1
    · rw [count_new hp hq h1]
      have : q N = p N := by rw [hq]; simp; omega
      simp [this]; omega
    · have e : i = N := by omega
      subst e
      have h2 : (List.range i).countP q = (List.range i).countP p := List.countP_congr fun n hn => by
        have := List.mem_range.1 hn
        rw [hq]; simp; omega
      rw [h2]
      simp [hq, hp]
theorem usage_bad {l : List SlotD} {s : SlotD} (h : validS s = false) (z : Int) : usageS (l ++ [s]) z = usageS l z := by
  unfold usageS
  refine List.countP_congr fun n _ => ?_
  rw [has_snoc]; simp [matchS, h]
theorem usage_old {l : List SlotD} {s : SlotD} (h : hasS l s.size s.index = true) (z : Int) : usageS (l ++ [s]) z = usageS l z := by
  unfold usageS
  refine List.countP_congr fun n _ => ?_
  rw [has_snoc]
  simp only [Bool.or_eq_true]
  constructor
  · rintro (h1 | h1)
    · exact h1
    · simp only [matchS, Bool.and_eq_true, decide_eq_true_eq] at h1
      rw [← h1.2.1, ← h1.2.2]; exact h
  · exact fun h1 => .inl h1
theorem usage_new {l : List SlotD} {s : SlotD} (hv : validS s = true) (h : hasS l s.size s.index = false) (z : Int) : usageS (l ++ [s]) z = usageS l z + if s.size = z then 1 else 0 := by
  have hr := validS_iff.1 hv
  by_cases hz : s.size = z
  · subst hz
    rw [if_pos rfl]
    unfold usageS
    refine count_new (i := s.index.toNat) ?_ (fun n => ?_) (by omega)
    · rw [show ((s.index.toNat : Nat) : Int) = s.index by omega]; exact h
    · rw [has_snoc]
      congr 1
      simp only [matchS, hv, Bool.true_and, decide_true]
      exact decide_eq_decide.2 (by omega)
  · rw [if_neg hz, Nat.add_zero]
    unfold usageS
    refine List.countP_congr fun n _ => ?_
    rw [has_snoc]; simp [matchS, hz]
structure SeenOk (cs : Array Value) (l : List SlotD) : Prop where
  size : cs.size = 192
  r0 : ∀ n, n < 64 → cs[n]? = some (.bool (hasS l 8 (n : Int)))
  r1 : ∀ n, n < 64 → cs[64 + n]? = some (.bool (hasS l 16 (n : Int)))
  r2 : ∀ n, n < 64 → cs[128 + n]? = some (.bool (hasS l 32 (n : Int)))
theorem seen_zero (cs : Array Value) (hs : cs.size = 192) (h : ∀ i, i < 192 → cs[i]? = some (.bool false)) : SeenOk cs [] :=
  ⟨hs, fun n hn => h n (by omega), fun n hn => h (64 + n) (by omega), fun n hn => h (128 + n) (by omega)⟩
theorem seen_bad {cs : Array Value} {l : List SlotD} {s : SlotD} (h : SeenOk cs l) (hv : validS s = false) : SeenOk cs (l ++ [s]) := by
  have e : ∀ z n, hasS (l ++ [s]) z n = hasS l z n := fun z n => by rw [has_snoc]; simp [matchS, hv]
  exact ⟨h.size, fun n hn => by rw [e]; exact h.r0 n hn, fun n hn => by rw [e]; exact h.r1 n hn, fun n hn => by rw [e]; exact h.r2 n hn⟩
theorem seen_old {cs : Array Value} {l : List SlotD} {s : SlotD} (h : SeenOk cs l) (ho : hasS l s.size s.index = true) : SeenOk cs (l ++ [s]) := by
  have e : ∀ z n, hasS (l ++ [s]) z n = hasS l z n := fun z n => by
    rw [has_snoc]
    cases hh : hasS l z n
    · simp only [Bool.false_or]
      refine Bool.eq_false_iff.2 fun h1 => ?_
      simp only [matchS, Bool.and_eq_true, decide_eq_true_eq] at h1
      rw [h1.2.1, h1.2.2, hh] at ho; cases ho
    · rfl
  exact ⟨h.size, fun n hn => by rw [e]; exact h.r0 n hn, fun n hn => by rw [e]; exact h.r1 n hn, fun n hn => by rw [e]; exact h.r2 n hn⟩
theorem seen_new {cs : Array Value} {l : List SlotD} {s : SlotD} (h : SeenOk cs l) (hv : validS s = true) {k i : Nat} (hk : s.size = 8 ∧ k = 0 ∨ s.size = 16 ∧ k = 64 ∨ s.size = 32 ∧ k = 128) (hi : s.index = i) : SeenOk (cs.setIfInBounds (k + i) (.bool true)) (l ++ [s]) := by
  have hr := validS_iff.1 hv
  have hsz := h.size
  have e : ∀ z n, hasS (l ++ [s]) z n = (hasS l z n || (decide (s.size = z) && decide (s.index = n))) := fun z n => by rw [has_snoc]; simp [matchS, hv]
  refine ⟨by simpa using h.size, fun n hn => ?_, fun n hn => ?_, fun n hn => ?_⟩
  · rw [Array.getElem?_setIfInBounds, e]
    by_cases c : k + i = n
    · rw [if_pos c, if_pos (by omega)]
      have h1 : s.size = 8 := by omega
      have h2 : s.index = (n : Int) := by omega
      simp [h1, h2]
    · rw [if_neg c, h.r0 n hn]
      have : (decide (s.size = 8) && decide (s.index = (n : Int))) = false := by
        refine Bool.eq_false_iff.2 fun h1 => ?_
        simp only [Bool.and_eq_true, decide_eq_true_eq] at h1
        omega
      rw [this, Bool.or_false]
  · rw [Array.getElem?_setIfInBounds, e]
    by_cases c : k + i = 64 + n
    · rw [if_pos c, if_pos (by omega)]
      have h1 : s.size = 16 := by omega
      have h2 : s.index = (n : Int) := by omega
      simp [h1, h2]
    · rw [if_neg c, h.r1 n hn]
      have : (decide (s.size = 16) && decide (s.index = (n : Int))) = false := by
        refine Bool.eq_false_iff.2 fun h1 => ?_
        simp only [Bool.and_eq_true, decide_eq_true_eq] at h1
        omega
      rw [this, Bool.or_false]
  · rw [Array.getElem?_setIfInBounds, e]
    by_cases c : k + i = 128 + n
    · rw [if_pos c, if_pos (by omega)]
      have h1 : s.size = 32 := by omega
      have h2 : s.index = (n : Int) := by omega
      simp [h1, h2]
    · rw [if_neg c, h.r2 n hn]
      have : (decide (s.size = 32) && decide (s.index = (n : Int))) = false := by
        refine Bool.eq_false_iff.2 fun h1 => ?_
        simp only [Bool.and_eq_true, decide_eq_true_eq] at h1
        omega
      rw [this, Bool.or_false]
theorem take_one {α : Type} (l : List α) (k : Nat) (h : k < l.length) : l.take (k + 1) = l.take k ++ [l[k]] := List.take_succ_eq_append_getElem h
theorem seen_start : SeenOk Tryz.zeroCells110 [] := by
  have e : Tryz.zeroCells110 = Array.replicate 192 (.bool false) := by kernel_rfl
  rw [e]
  exact seen_zero _ (by simp) (fun i hi => by simp [hi])
theorem pusage_any (x : L SlotD) (w : World) (h : LOk w 4 SlotD.cells x) (hm : x.l.length ≤ 1000) :
    Calls Tryz.prog 24 #[.slice x.A x.l.length x.c] w fun e w' => e = .returned (.tuple #[.int .i64 (usageS x.l 8), .int .i64 (usageS x.l 16), .int .i64 (usageS x.l 32)]) ∧ Below w.heap.size w w' := by
  obtain ⟨l, A, c⟩ := x
  have HL := hi_ h
  simp only at hm ⊢
  clear h
  have HZ : Hid (SeenOk Tryz.zeroCells110 []) := hi_ seen_start
  go_enter Tryz.func24, Tryz.ntmps24
  go_wp2
  go_loopw [8, 9, 12] (fun _ _ iv wr => ∃ (k a b d : Nat) (cs : Array Value), k ≤ l.length ∧ iv = .int .i64 k ∧ a ≤ 64 ∧ b ≤ 64 ∧ d ≤ 64 ∧ Hid (a = usageS (l.take k) 8 ∧ b = usageS (l.take k) 16 ∧ d = usageS (l.take k) 32) ∧ Hid (SeenOk cs (l.take k)) ∧ Blk wr w.heap.size 110 cs ∧ Blk wr (w.heap.size + 1) 85 #[.int .i64 a, .int .i64 b, .int .i64 d] ∧ Below w.heap.size w wr) (fun _ _ i _ => l.length - (intOf i).toNat)
  case atStart => exact ⟨0, 0, 0, 0, _, Nat.zero_le _, rfl, Nat.zero_le _, Nat.zero_le _, Nat.zero_le _, hi_ ⟨rfl, rfl, rfl⟩, HZ, (Blk.new _ _ _).alloc _, by simpa using Blk.new (w.alloc _) 85 _, below2 _ _ _⟩
  case round =>
  obtain ⟨k, a, b, d, cs, hk, rfl, ha, hb, hd, HU, HS, hB, hN, HB⟩ := hrel
  by_cases hlt : k < l.length
  · obtain ⟨g0, of0, hA, hall⟩ := SlotD.atA HL.out hlt
    simp only at hA
    subst hA
    obtain ⟨d0, d1, d2, d3⟩ := hall wr HB
    have HT : Hid (l.take (k + 1) = l.take k ++ [l[k]]) := hi_ (take_one l k hlt)
    clear hall
    generalize l[k] = s at *
    obtain ⟨z, i, f, d'⟩ := s
    simp only at d0 d1 d2 d3
    have hca := @World.cell?_alloc_some
    have hfl := @World.frozen?_alloc_old
    refine Exists.elim (⟨_, rfl⟩ : ∃ U, U = wr.alloc (.cells #[.int .i64 z, .int .i64 i, .int .i64 f, .int .i64 d'] 48)) fun U hU => ?_
    have s0 : U.cell? ⟨wr.heap.size, 0, none⟩ = some (.int .i64 z) := by rw [hU]; exact (Blk.new _ _ _).cell 0
    have s1 : U.cell? ⟨wr.heap.size, 1, none⟩ = some (.int .i64 i) := by rw [hU]; exact (Blk.new _ _ _).cell 1
    have HBU : Hid (Below w.heap.size w U) := hi_ (by rw [hU]; exact below_alloc HB _)
    have HBU2 : Hid (Below wr.heap.size wr U) := hi_ (by rw [hU]; exact below1 _ _)
    have HSU : Hid (Blk U wr.heap.size 48 #[.int .i64 z, .int .i64 i, .int .i64 f, .int .i64 d']) := hi_ (by rw [hU]; exact Blk.new _ _ _)
    have HBl := hi_ (hB.below HBU2.out hB.lt)
    have HNl := hi_ (hN.below HBU2.out hN.lt)
    clear hB hN HB HBU2
    go_upto_region 6 with fail
    rw [← hU]
    clear hU d0 d1 d2 d3 hca hfl s0 s1
    have t0 := HSU.out.cell 0
    have t1 := HSU.out.cell 1
    have t2 := HSU.out.cell 2
    have t3 := HSU.out.cell 3
    simp only [List.getElem?_toArray, List.getElem?_cons_zero, List.getElem?_cons_succ] at t0 t1 t2 t3
    go_wp2_with fail
    refine (valid_any z i f d' U).mono ?_
    rintro e w1 ⟨rfl, hbN⟩
    clear t0 t1 t2 t3
    have t0 : w1.cell? ⟨wr.heap.size, 0, none⟩ = some (.int .i64 z) := (HSU.out.below hbN HSU.out.lt).cell 0
    have t1 : w1.cell? ⟨wr.heap.size, 1, none⟩ = some (.int .i64 i) := (HSU.out.below hbN HSU.out.lt).cell 1
    have hB := HBl.out.below hbN HBl.out.lt
    have hN := HNl.out.below hbN HNl.out.lt
    have HB := HBU.out.trans (hbN.mono HBU.out.size)
    clear hbN HBU HSU HBl HNl
    cases hv : validS ⟨z, i, f, d'⟩ with
    | false =>
      have HU2 : Hid (a = usageS (l.take (k + 1)) 8 ∧ b = usageS (l.take (k + 1)) 16 ∧ d = usageS (l.take (k + 1)) 32) := hi_ (by rw [HT.out, usage_bad hv, usage_bad hv, usage_bad hv]; exact HU.out)
      have HS2 : Hid (SeenOk cs (l.take (k + 1))) := hi_ (by rw [HT.out]; exact seen_bad HS.out hv)
      clear hv HT HU HS
      go_wp2
      go_roundw
      case rel => exact ⟨k + 1, a, b, d, cs, by omega, by go_num, ha, hb, hd, HU2, HS2, hB, hN, HB⟩
      case measure => simp [intOf]; omega
    | true =>
      have hr := validS_iff.1 hv
      simp only at hr
      obtain ⟨hz, hi0, hi1, _⟩ := hr
      obtain ⟨m, rfl⟩ : ∃ m : Nat, i = m := ⟨i.toNat, by omega⟩
      have n0 : w1.cell? ⟨w.heap.size + 1, 0, none⟩ = some (.int .i64 a) := hN.cell 0
      have n1 : w1.cell? ⟨w.heap.size + 1, 1, none⟩ = some (.int .i64 b) := hN.cell 1
      have n2 : w1.cell? ⟨w.heap.size + 1, 2, none⟩ = some (.int .i64 d) := hN.cell 2
      have f0 : ∀ j, w1.frozen? ⟨w.heap.size + 1, j, none⟩ = false := fun j => hN.frozen j
      have g0' : ∀ j, w1.frozen? ⟨w.heap.size, j, none⟩ = false := fun j => hB.frozen j
      have HBl := hi_ hB
      have HNl := hi_ hN
      have HBw := hi_ HB
      have hm64 : m < 64 := by omega
      clear hB hN HB
      rcases hz with rfl | rfl | rfl
      · have HC : Hid (w1.cell? ⟨w.heap.size, m, none⟩ = some (.bool (hasS (l.take k) 8 (m : Int)))) := hi_ ((HBl.out.cell _).trans (HS.out.r0 m hm64))
        cases hh : hasS (l.take k) 8 (m : Int) with
        | true =>
          have c0 := HC.out
          rw [hh] at c0
          have HU2 : Hid (a = usageS (l.take (k + 1)) 8 ∧ b = usageS (l.take (k + 1)) 16 ∧ d = usageS (l.take (k + 1)) 32) := hi_ (by rw [HT.out, usage_old hh, usage_old hh, usage_old hh]; exact HU.out)
          have HS2 : Hid (SeenOk cs (l.take (k + 1))) := hi_ (by rw [HT.out]; exact seen_old HS.out hh)
          clear hv HT HU HS hh HC
          go_upto_region 8 with fail
          go_quiet (fail)
          go_wp2
          go_roundw
          case rel => exact ⟨k + 1, a, b, d, cs, by omega, by go_num, ha, hb, hd, HU2, HS2, HBl.out.drewN _, HNl.out.drewN _, below_drewN HBw.out _⟩
          case measure => simp [intOf]; omega
        | false =>
          have c0 := HC.out
          rw [hh] at c0
          have HU2 : Hid (a + 1 = usageS (l.take (k + 1)) 8 ∧ b = usageS (l.take (k + 1)) 16 ∧ d = usageS (l.take (k + 1)) 32) := hi_ (by rw [HT.out, usage_new hv hh, usage_new hv hh, usage_new hv hh]; simp only; have := HU.out; exact ⟨by simp; omega, by simp; omega, by simp; omega⟩)
          have HS2 : Hid (SeenOk (cs.setIfInBounds m (.bool true)) (l.take (k + 1))) := hi_ (by rw [HT.out]; have := seen_new HS.out hv (k := 0) (by simp) rfl; rwa [Nat.zero_add] at this)
          have hle : a + 1 ≤ 64 := by have := HU2.out; rw [this.1]; exact usage_le _ _
          clear hv HT HU HS hh HC
          go_upto_region 8 with fail
          go_quiet (fail)
          go_upto_region 9 with fail
          go_region
          go_wp2
          go_roundw
          case rel => exact ⟨k + 1, a + 1, b, d, cs.setIfInBounds (m) (.bool true), by omega, by go_num, by omega, by omega, by omega, HU2, HS2, ((HBl.out.drewN _).set_ _ _).far (by show w.heap.size ≠ w.heap.size + 1; omega) _, by rw [Int.natCast_add]; exact ((HNl.out.drewN _).far (by show w.heap.size + 1 ≠ w.heap.size; omega) _).set_ 0 _, ((below_drewN HBw.out _).setCell (by exact Nat.le_refl _) _).setCell (by exact Nat.le_succ _) _⟩
          case measure => simp [intOf]; omega
      · have HC : Hid (w1.cell? ⟨w.heap.size, 64 + m, none⟩ = some (.bool (hasS (l.take k) 16 (m : Int)))) := hi_ ((HBl.out.cell _).trans (HS.out.r1 m hm64))
        cases hh : hasS (l.take k) 16 (m : Int) with
        | true =>
          have c0 := HC.out
          rw [hh] at c0
          have HU2 : Hid (a = usageS (l.take (k + 1)) 8 ∧ b = usageS (l.take (k + 1)) 16 ∧ d = usageS (l.take (k + 1)) 32) := hi_ (by rw [HT.out, usage_old hh, usage_old hh, usage_old hh]; exact HU.out)
          have HS2 : Hid (SeenOk cs (l.take (k + 1))) := hi_ (by rw [HT.out]; exact seen_old HS.out hh)
          clear hv HT HU HS hh HC
          go_upto_region 8 with fail
          go_quiet (fail)
          go_wp2
          go_roundw
          case rel => exact ⟨k + 1, a, b, d, cs, by omega, by go_num, ha, hb, hd, HU2, HS2, HBl.out.drewN _, HNl.out.drewN _, below_drewN HBw.out _⟩
          case measure => simp [intOf]; omega
        | false =>
          have c0 := HC.out
          rw [hh] at c0
          have HU2 : Hid (a = usageS (l.take (k + 1)) 8 ∧ b + 1 = usageS (l.take (k + 1)) 16 ∧ d = usageS (l.take (k + 1)) 32) := hi_ (by rw [HT.out, usage_new hv hh, usage_new hv hh, usage_new hv hh]; simp only; have := HU.out; exact ⟨by simp; omega, by simp; omega, by simp; omega⟩)
          have HS2 : Hid (SeenOk (cs.setIfInBounds (64 + m) (.bool true)) (l.take (k + 1))) := hi_ (by rw [HT.out]; exact seen_new HS.out hv (by simp) rfl)
          have hle : b + 1 ≤ 64 := by have := HU2.out; rw [this.2.1]; exact usage_le _ _
          clear hv HT HU HS hh HC
          go_upto_region 8 with fail
          go_quiet (fail)
          go_upto_region 9 with fail
          go_region
          go_wp2
          go_roundw
          case rel => exact ⟨k + 1, a, b + 1, d, cs.setIfInBounds (64 + m) (.bool true), by omega, by go_num, by omega, by omega, by omega, HU2, HS2, ((HBl.out.drewN _).set_ _ _).far (by show w.heap.size ≠ w.heap.size + 1; omega) _, by rw [Int.natCast_add]; exact ((HNl.out.drewN _).far (by show w.heap.size + 1 ≠ w.heap.size; omega) _).set_ 1 _, ((below_drewN HBw.out _).setCell (by exact Nat.le_refl _) _).setCell (by exact Nat.le_succ _) _⟩
          case measure => simp [intOf]; omega
      · have HC : Hid (w1.cell? ⟨w.heap.size, 128 + m, none⟩ = some (.bool (hasS (l.take k) 32 (m : Int)))) := hi_ ((HBl.out.cell _).trans (HS.out.r2 m hm64))
        cases hh : hasS (l.take k) 32 (m : Int) with
        | true =>
          have c0 := HC.out
          rw [hh] at c0
          have HU2 : Hid (a = usageS (l.take (k + 1)) 8 ∧ b = usageS (l.take (k + 1)) 16 ∧ d = usageS (l.take (k + 1)) 32) := hi_ (by rw [HT.out, usage_old hh, usage_old hh, usage_old hh]; exact HU.out)
          have HS2 : Hid (SeenOk cs (l.take (k + 1))) := hi_ (by rw [HT.out]; exact seen_old HS.out hh)
          clear hv HT HU HS hh HC
          go_upto_region 8 with fail
          go_quiet (fail)
          go_wp2
          go_roundw
          case rel => exact ⟨k + 1, a, b, d, cs, by omega, by go_num, ha, hb, hd, HU2, HS2, HBl.out.drewN _, HNl.out.drewN _, below_drewN HBw.out _⟩
          case measure => simp [intOf]; omega
        | false =>
          have c0 := HC.out
          rw [hh] at c0
          have HU2 : Hid (a = usageS (l.take (k + 1)) 8 ∧ b = usageS (l.take (k + 1)) 16 ∧ d + 1 = usageS (l.take (k + 1)) 32) := hi_ (by rw [HT.out, usage_new hv hh, usage_new hv hh, usage_new hv hh]; simp only; have := HU.out; exact ⟨by simp; omega, by simp; omega, by simp; omega⟩)
          have HS2 : Hid (SeenOk (cs.setIfInBounds (128 + m) (.bool true)) (l.take (k + 1))) := hi_ (by rw [HT.out]; exact seen_new HS.out hv (by simp) rfl)
          have hle : d + 1 ≤ 64 := by have := HU2.out; rw [this.2.2]; exact usage_le _ _
          clear hv HT HU HS hh HC
          go_upto_region 8 with fail
          go_quiet (fail)
          go_upto_region 9 with fail
          go_region
          go_wp2
          go_roundw
          case rel => exact ⟨k + 1, a, b, d + 1, cs.setIfInBounds (128 + m) (.bool true), by omega, by go_num, by omega, by omega, by omega, HU2, HS2, ((HBl.out.drewN _).set_ _ _).far (by show w.heap.size ≠ w.heap.size + 1; omega) _, by rw [Int.natCast_add]; exact ((HNl.out.drewN _).far (by show w.heap.size + 1 ≠ w.heap.size; omega) _).set_ 2 _, ((below_drewN HBw.out _).setCell (by exact Nat.le_refl _) _).setCell (by exact Nat.le_succ _) _⟩
          case measure => simp [intOf]; omega
  · have e : k = l.length := by omega
    have HR : Hid (a = usageS l 8 ∧ b = usageS l 16 ∧ d = usageS l 32) := hi_ (by have := HU.out; rwa [e, List.take_length] at this)
    have n0 : wr.cell? ⟨w.heap.size + 1, 0, none⟩ = some (.int .i64 a) := hN.cell 0
    have n1 : wr.cell? ⟨w.heap.size + 1, 1, none⟩ = some (.int .i64 b) := hN.cell 1
    have n2 : wr.cell? ⟨w.heap.size + 1, 2, none⟩ = some (.int .i64 d) := hN.cell 2
    clear HU HS hB hN HZ
    go_upto_region 12 with fail
    go_quiet (fail)
    go_wp2
    go_ret3
    exact ⟨by rw [← HR.out.1, ← HR.out.2.1, ← HR.out.2.2]; rfl, below_drewN HB _⟩
theorem ConOwn.grow {w w6 : World} {o : Obj} {B g : Nat} {x : ConD} (h : ConOwn w B g x) (z : Int) {l' : List Int} {A1 : Option Addr} {c1 : Nat} (hown : OwnL w6 B 83 ucell ⟨l', A1, c1⟩)
    (hg : (w.alloc o).grownBy w6 (conL x z).v.ownBlock) (hat : (Value.slice A1 l'.length c1).ownBlock = (conL x z).v.ownBlock ∨ (Value.slice A1 l'.length c1).ownBlock = some (w.heap.size + 1)) :
    ConOwn (w6.setCell ⟨g, cix z, none⟩ (.slice A1 l'.length c1)) B g (conS x z ⟨l', A1, c1⟩) := by
  have hlt8 := fun b e => (own_lt h.o8 b e).2
  have hlt16 := fun b e => (own_lt h.o16 b e).2
  have hlt32 := fun b e => (own_lt h.o32 b e).2
  have hB8 := fun b e => (own_lt h.o8 b e).1
  have hB16 := fun b e => (own_lt h.o16 b e).1
  have hB32 := fun b e => (own_lt h.o32 b e).1
  have hB' := fun b e => (own_lt hown b e).1
  obtain ⟨hb, o8, o16, o32, hlt, a1, a2, a3⟩ := h
  have hgb : Blk w6 g 64 #[x.c8.v, x.c16.v, x.c32.v] := (hb.alloc o).grown hg (fun e => by
    unfold conL at e
    split at e
    · have := hB8 g e.symm; omega
    · split at e
      · have := hB16 g e.symm; omega
      · have := hB32 g e.symm; omega)
  unfold conL at hg hat
  unfold conS cix
  have far : ∀ {y : L Int} (v : Value) (j : Nat), OwnL w6 B 83 ucell y → (∀ b, y.v.ownBlock = some b → B ≤ b) → OwnL (w6.setCell ⟨g, j, none⟩ v) B 83 ucell y := fun v j hy hyB => hy.far v (fun e => by have := hyB _ e; simp only at this; omega)
  by_cases h8 : z = 8
  · subst h8
    simp only [if_true] at hg hat ⊢
    have k16 := (o16.alloc o).kept hg (by rcases hx : x.c16.v.ownBlock with _ | b; (· exact .inl rfl); (· exact .inr (fun e => a1 b e.symm hx)))
    have k32 := (o32.alloc o).kept hg (by rcases hx : x.c32.v.ownBlock with _ | b; (· exact .inl rfl); (· exact .inr (fun e => a2 b e.symm hx)))
    refine ⟨hgb.set_ 0 _, far _ _ hown hB', far _ _ k16 hB16, far _ _ k32 hB32, hlt, fun b e => ?_, fun b e => ?_, a3⟩
    · rcases hat with h1 | h1
      · exact a1 b (h1 ▸ e)
      · have h2 : b = w.heap.size + 1 := by have := h1.symm.trans e; injection this with this; exact this.symm
        exact fun e2 => by have := hlt16 b e2; omega
    · rcases hat with h1 | h1
      · exact a2 b (h1 ▸ e)
      · have h2 : b = w.heap.size + 1 := by have := h1.symm.trans e; injection this with this; exact this.symm
        exact fun e2 => by have := hlt32 b e2; omega
  · by_cases h16 : z = 16
    · subst h16
      simp only [if_true, if_neg (show ¬ (16 : Int) = 8 by decide)] at hg hat ⊢
      have k8 := (o8.alloc o).kept hg (by rcases hx : x.c8.v.ownBlock with _ | b; (· exact .inl rfl); (· exact .inr (fun e => a1 b hx e.symm)))
      have k32 := (o32.alloc o).kept hg (by rcases hx : x.c32.v.ownBlock with _ | b; (· exact .inl rfl); (· exact .inr (fun e => a3 b e.symm hx)))
      refine ⟨hgb.set_ 1 _, far _ _ k8 hB8, far _ _ hown hB', far _ _ k32 hB32, hlt, fun b e e2 => ?_, a2, fun b e => ?_⟩
      · rcases hat with h1 | h1
        · exact a1 b e (h1 ▸ e2)
        · have h2 : b = w.heap.size + 1 := by have := h1.symm.trans e2; injection this with this; exact this.symm
          have := hlt8 b e; omega
      · rcases hat with h1 | h1
        · exact a3 b (h1 ▸ e)
        · have h2 : b = w.heap.size + 1 := by have := h1.symm.trans e; injection this with this; exact this.symm
          exact fun e2 => by have := hlt32 b e2; omega
    · simp only [h8, h16, if_false] at hg hat ⊢
      have k8 := (o8.alloc o).kept hg (by rcases hx : x.c8.v.ownBlock with _ | b; (· exact .inl rfl); (· exact .inr (fun e => a2 b hx e.symm)))
      have k16 := (o16.alloc o).kept hg (by rcases hx : x.c16.v.ownBlock with _ | b; (· exact .inl rfl); (· exact .inr (fun e => a3 b hx e.symm)))
      refine ⟨hgb.set_ 2 _, far _ _ k8 hB8, far _ _ k16 hB16, far _ _ hown hB', hlt, a1, fun b e e2 => ?_, fun b e e2 => ?_⟩
      · rcases hat with h1 | h1
        · exact a2 b e (h1 ▸ e2)
        · have h2 : b = w.heap.size + 1 := by have := h1.symm.trans e2; injection this with this; exact this.symm
          have := hlt8 b e; omega
      · rcases hat with h1 | h1
        · exact a3 b e (h1 ▸ e2)
        · have h2 : b = w.heap.size + 1 := by have := h1.symm.trans e2; injection this with this; exact this.symm
          have := hlt16 b e; omega
theorem con_snoc_bad {l : List SlotD} {s : SlotD} (h : validS s = false) : con0 (l ++ [s]) = con0 l := by
  unfold con0
  rw [count_snoc, count_snoc, count_snoc, if_neg (by simp [h]), if_neg (by simp [h]), if_neg (by simp [h])]
theorem con_snoc {l : List SlotD} {s : SlotD} (h : validS s = true) : con0 (l ++ [s]) = setC (con0 l) s.size (List.replicate (max (countM l s.size) (s.index.toNat + 1)) 0) := by
  unfold con0
  rw [count_snoc, count_snoc, count_snoc]
  have hz := sizes_of h
  rcases hz with e | e | e
  · simp [h, e, setC]
  · simp [h, e, setC]
  · simp [h, e, setC]
theorem setC_same (c : ConM) (z : Int) (a b : List Int) : setC (setC c z a) z b = setC c z b := by
  unfold setC
  split
  · rfl
  · split <;> rfl
theorem setC_own (c : ConM) (z : Int) : setC c z (ofC c z) = c := by
  unfold setC ofC
  split
  · rfl
  · split <;> rfl
theorem con_cell {w : World} {g : Nat} {x : ConD} (h : Blk w g 64 #[x.c8.v, x.c16.v, x.c32.v]) (z : Int) : w.cell? ⟨g, cix z, none⟩ = some (.slice (conL x z).A (conL x z).l.length (conL x z).c) := by
  rw [h.cell]
  unfold cix conL
  split
  · rfl
  · split <;> rfl
theorem blk_cells' {w : World} {g n : Nat} {t : TypeId} {cs : Array Value} (h : Blk w g t cs) (w' : World) (hb : Below w.heap.size w w') : ∀ i, i < n → w'.cell? ⟨g, i, none⟩ = cs[i]? := fun i _ => (h.below hb h.lt).cell i
theorem conL_conS (x : ConD) (z : Int) (y : L Int) : conL (conS x z y) z = y := by
  unfold conL conS
  by_cases h8 : z = 8
  · simp only [h8, if_true]
  · by_cases h16 : z = 16
    · subst h16; rfl
    · simp only [h8, h16, if_false]
def emptyC : ConD := ⟨⟨[], none, 0⟩, ⟨[], none, 0⟩, ⟨[], none, 0⟩⟩
theorem empty_con (w : World) (B g : Nat) (h : Blk w g 64 #[.slice none 0 0, .slice none 0 0, .slice none 0 0]) (hg : g < B) : ConOwn w B g emptyC :=
  ⟨h, World.ownsRow_nil _ _ _ _, World.ownsRow_nil _ _ _ _, World.ownsRow_nil _ _ _ _, hg, fun _ h => (by cases h), fun _ h => (by cases h), fun _ h => (by cases h)⟩
def lackOf (n : Nat) (g i : Nat) (w : World) : Nat := match w.cell? ⟨g, i, none⟩ with
  | some (.slice _ m _) => n - m
  | _ => 0
theorem pload_any (p : ProgD) (x : L SlotD) (e : EnvD) (b : L Bool) (w : World) (o : ProgOk w p) (hs : AccSm p) (hx : LOk w 4 SlotD.cells x) (hl : x.l.length ≤ 1000) (oe : EnvOk w e) (hb : LOk w 1 bcell b) :
    Calls Tryz.prog 22 #[.agg (progCells p), .slice x.A x.l.length x.c, .agg (envCells e), .slice b.A b.l.length b.c] w fun r w' =>
      ∃ y : ConD, r = .returned (.agg #[.slice y.c8.A y.c8.l.length y.c8.c, .slice y.c16.A y.c16.l.length y.c16.c, .slice y.c32.A y.c32.l.length y.c32.c]) ∧ y.bare = loadM x.l (valsM p e.bare ++ b.l.map bitI) ∧ (LOkN w' 1 ucell y.c8 ∧ LOkN w' 1 ucell y.c16 ∧ LOkN w' 1 ucell y.c32) ∧ Below w.heap.size w w' := by
  obtain ⟨W, hW⟩ : ∃ W, W = ((w.alloc (.cells (progCells p) 31)).alloc (.cells (envCells e) 56)).alloc (.cells #[.slice none 0 0, .slice none 0 0, .slice none 0 0] 64) := ⟨_, rfl⟩
  have hw : Below w.heap.size w W := by rw [hW]; exact below3 _ _ _ _
  have HW := hi_ hw
  have hszW : W.heap.size = w.heap.size + 1 + 1 + 1 := by rw [hW]; simp
  have HSz := hi_ hszW
  have HP0 : Hid (Blk W w.heap.size 31 (progCells p)) := hi_ (by rw [hW]; exact ((Blk.new _ _ _).alloc _).alloc _)
  have HP1 : Hid (Blk W (w.heap.size + 1) 56 (envCells e)) := hi_ (by rw [hW]; exact (by simpa using Blk.new (w.alloc (.cells (progCells p) 31)) 56 (envCells e) : Blk _ (w.heap.size + 1) _ _).alloc _)
  have HP2 : Hid (Blk W (w.heap.size + 1 + 1) 64 #[.slice none 0 0, .slice none 0 0, .slice none 0 0]) := hi_ (by rw [hW]; simpa using Blk.new ((w.alloc (.cells (progCells p) 31)).alloc (.cells (envCells e) 56)) 64 #[.slice none 0 0, .slice none 0 0, .slice none 0 0])
  have hp0 := fun w' (h : Below W.heap.size W w') => blk_cells' (n := 9) HP0.out w' h
  have hp1 := fun w' (h : Below W.heap.size W w') => blk_cells' (n := 4) HP1.out w' h
  have HV := hi_ (fun u (hb : Below W.heap.size W u) => pvalues_any p e u (o.below (below_step hw hb)) hs (oe.below (below_step hw hb)))
  have HXo := hi_ (hx.below hw (Nat.le_refl _))
  have HBo := hi_ (hb.below hw (Nat.le_refl _))
  have HVL := hi_ (vals_len p e.bare)
  have hcl : cellsN p ≤ 10200 := by have := fN_le hs; have := hs.headers; have := hs.metadata; unfold cellsN; omega
  clear o hs oe hx hb hw hszW
  obtain ⟨l, A, c⟩ := x
  obtain ⟨bl, bA, bc⟩ := b
  simp only at hl HXo HBo ⊢
  obtain ⟨U, hU⟩ : ∃ U, U = W.alloc (.cells #[.slice none 0 0, .slice none 0 0, .slice none 0 0] 64) := ⟨_, rfl⟩
  have HBU : Hid (Below W.heap.size W U) := hi_ (by rw [hU]; exact below1 _ _)
  have HSU : Hid (U.heap.size = W.heap.size + 1) := hi_ (by rw [hU]; simp)
  have hgU : W.heap.size < U.heap.size := by have := HSU.out; omega
  have HC0 : Hid (ConOwn U U.heap.size W.heap.size emptyC) := hi_ (empty_con _ _ _ (by rw [hU]; exact Blk.new _ _ _) hgU)
  go_enter Tryz.func22, Tryz.ntmps22
  go_upto_region 1 with fail
  rw [← hW]
  clear hW
  go_upto_region 2 with fail
  rw [← hU]
  clear hU
  obtain ⟨i0, hi, hz0, hz1, hz2⟩ := info_parts info_u32
  go_wp2
  go_loopw [11, 12, 20] (fun _ _ iv wr => ∃ (k : Nat) (y : ConD), k ≤ l.length ∧ iv = .int .i64 k ∧ Hid (y.bare = con0 (l.take k)) ∧ Hid (ConOwn wr U.heap.size W.heap.size y) ∧ U.heap.size ≤ wr.heap.size ∧ Below W.heap.size W wr) (fun _ _ i _ => l.length - (intOf i).toNat)
  case atStart => exact ⟨0, emptyC, Nat.zero_le _, rfl, hi_ rfl, HC0, Nat.le_refl _, HBU.out⟩
  case round =>
  obtain ⟨k, y, hk, rfl, HY, HO, hsz, HB⟩ := hrel
  by_cases hlt : k < l.length
  case pos =>
    obtain ⟨g0, of0, hA, hall⟩ := SlotD.atA HXo.out hlt
    simp only at hA
    subst hA
    have HT : Hid (l.take (k + 1) = l.take k ++ [l[k]]) := hi_ (take_one l k hlt)
    obtain ⟨d0, d1, d2, d3⟩ := hall wr HB
    clear hall
    generalize l[k] = s at *
    obtain ⟨z, i, f, d⟩ := s
    simp only at d0 d1 d2 d3
    have hca := @World.cell?_alloc_some
    refine Exists.elim (⟨_, rfl⟩ : ∃ V, V = wr.alloc (.cells #[.int .i64 z, .int .i64 i, .int .i64 f, .int .i64 d] 48)) fun V hV => ?_
    have HCp : Hid (Blk V wr.heap.size 48 #[.int .i64 z, .int .i64 i, .int .i64 f, .int .i64 d]) := hi_ (by rw [hV]; exact Blk.new _ _ _)
    have hBr : Below wr.heap.size wr V := by rw [hV]; exact below1 _ _
    have HOV := hi_ (HO.out.below hBr)
    have HBV := hi_ (below_step HB hBr)
    have hszV : wr.heap.size < V.heap.size := HCp.out.lt
    have HNb : Hid (∀ z, (conL y z).v.ownBlock ≠ some wr.heap.size) := hi_ (fun z e => by have := (own_lt (HO.out.list z) _ e).2; omega)
    clear HB HO hBr
    go_upto_region 5 with fail
    rw [← hV]
    clear hV d0 d1 d2 d3 hca
    have s0 : V.cell? ⟨wr.heap.size, 0, none⟩ = some (.int .i64 z) := HCp.out.cell 0
    have s1 : V.cell? ⟨wr.heap.size, 1, none⟩ = some (.int .i64 i) := HCp.out.cell 1
    have s2 : V.cell? ⟨wr.heap.size, 2, none⟩ = some (.int .i64 f) := HCp.out.cell 2
    have s3 : V.cell? ⟨wr.heap.size, 3, none⟩ = some (.int .i64 d) := HCp.out.cell 3
    go_wp2_with fail
    refine (valid_any z i f d V).mono ?_
    rintro r w1 ⟨rfl, hbN⟩
    have HC1 := hi_ (HCp.out.below hbN HCp.out.lt)
    have HO1 := hi_ (HOV.out.below hbN)
    have HB1 := hi_ (below_step HBV.out hbN)
    have hsz1 : wr.heap.size < w1.heap.size := HC1.out.lt
    have hszU : U.heap.size ≤ w1.heap.size := by omega
    clear hbN s0 s1 s2 s3 HCp HOV HBV hszV
    cases hv : validS ⟨z, i, f, d⟩ with
    | false =>
      have HY2 : Hid (y.bare = con0 (l.take (k + 1))) := hi_ (by rw [HT.out, con_snoc_bad hv]; exact HY.out)
      clear hv HT HY
      go_wp2
      go_roundw
      case rel => exact ⟨k + 1, y, by omega, by go_num, HY2, HO1, hszU, HB1.out⟩
      case measure => simp [intOf]; omega
    | true =>
      have hbs := validS_iff.1 hv
      simp only at hbs
      obtain ⟨n, rfl⟩ : ∃ n : Nat, i = n := ⟨i.toNat, by omega⟩
      have hn64 : n < 64 := by omega
      have HZ := hi_ hbs.1
      have HY2 := hi_ (con_snoc (l := l.take k) hv)
      have hcn := count_le (l.take k) z
      have HLz : Hid ((conL y z).l = List.replicate (countM (l.take k) z) 0) := hi_ (by
        rw [conL_l, HY.out]
        have hz := HZ.out
        rcases hz with e | e | e <;> subst e <;> rfl)
      simp only at HY2
      clear hv hbs
      generalize hcc : countM (l.take k) z = cn at *
      have s0 : w1.cell? ⟨wr.heap.size, 0, none⟩ = some (.int .i64 z) := HC1.out.cell 0
      go_wp2_with fail
      refine (clist_any W.heap.size z w1).mono ?_
      rintro r w' ⟨rfl, rfl⟩
      clear s0
      have HB1' := HB1.out
      obtain ⟨cb, hcb⟩ : ∃ cb, wr.heap.size = cb := ⟨_, rfl⟩
      rw [hcb] at HC1 hsz1 HNb hsz ⊢
      clear hcb
      go_wp2
      go_loopw [] (fun wq => ∃ (m : Nat) (y' : ConD), cn ≤ m ∧ m ≤ max cn (n + 1) ∧ Hid ((conL y' z).l = List.replicate m 0 ∧ y'.bare = setC y.bare z (List.replicate m 0)) ∧ Hid (ConOwn wq U.heap.size W.heap.size y' ∧ (conL y' z).v.ownBlock ≠ some cb) ∧ Blk wq cb 48 #[.int .i64 z, .int .i64 n, .int .i64 f, .int .i64 d] ∧ cb < wq.heap.size ∧ Below W.heap.size W wq) (fun wq => lackOf (n + 1) W.heap.size (cix z) wq)
      case atStart => exact ⟨cn, y, Nat.le_refl _, by omega, hi_ ⟨HLz.out, by rw [← HLz.out, conL_l, setC_own]⟩, hi_ ⟨HO1.out, HNb.out z⟩, HC1.out, hsz1, HB1'⟩
      case round =>
        obtain ⟨m, y', hm1, hm2, HL', HO', hCp, hsq, HB⟩ := hrel
        have s1 : wr.cell? ⟨cb, 1, none⟩ = some (.int .i64 n) := hCp.cell 1
        have c0 := con_cell HO'.out.1.blk z
        have HLn : Hid ((conL y' z).l.length = m) := hi_ (by rw [HL'.out.1]; simp)
        have hm100 : m ≤ 200 := by omega
        have HBb := hi_ HB
        have HCb := hi_ hCp
        clear hCp HB
        rw [HLn.out] at c0
        have hown : wr.ownsRow U.heap.size 83 1 (.slice (conL y' z).A m (conL y' z).c) m ((List.replicate m 0).flatMap ucell) := by
          have h := HO'.out.1.list z
          unfold OwnL at h
          rw [HL'.out.1] at h
          simp only [L.v, HL'.out.1, List.length_replicate] at h
          exact h
        by_cases hmn : m ≤ n
        · have hmn' : (m : Int) ≤ (n : Int) := by omega
          go_wp2
          go_quiet (fail)
          have hown0 : (wr.drewN nq).ownsRow U.heap.size 83 1 (.slice (conL y' z).A m (conL y' z).c) m ((List.replicate m 0).flatMap ucell) := hown
          have HO0 : Hid (ConOwn (wr.drewN nq) U.heap.size W.heap.size y' ∧ (conL y' z).v.ownBlock ≠ some cb) := hi_ ⟨HO'.out.1.below (below_drewN (Below.refl _ _) _), HO'.out.2⟩
          have HB0 : Hid (Below W.heap.size W (wr.drewN nq)) := hi_ (below_drewN HBb.out _)
          have HC0 : Hid (Blk (wr.drewN nq) cb 48 #[.int .i64 z, .int .i64 n, .int .i64 f, .int .i64 d]) := hi_ (HCb.out.drewN _)
          have c1 : (wr.drewN nq).cell? ⟨W.heap.size, cix z, none⟩ = some (.slice (conL y' z).A m (conL y' z).c) := c0
          have hs0 : cb < (wr.drewN nq).heap.size := hsq
          have hlk : lackOf (n + 1) W.heap.size (cix z) wr = n + 1 - m := by unfold lackOf; rw [c0]
          clear hown HO' HBb HCb c0 hsq s1
          generalize wr.drewN nq = wq at *
          have hU64 : U.heap.size ≤ wq.heap.size := by omega
          go_wp2_with (first
            | (at_builtin; refine wpList_append_own_at _ rfl _ _ 53 rfl U.heap.size 83 i0 _ 1 4 Tryz.underlying53 hi hz0 hz1 hz2 rfl (by decide) _ _ _ rfl (hown0.alloc _) ⟨wq.heap.size, 0, none⟩ 1 1 [.int .u32 0] rfl rfl ?g01 ?g02 ?g03 ?g04 ?g05 ?_))
          case g01 => exact new_cells _ _ _
          case g02 => intro u hu; simp only [List.mem_cons, List.not_mem_nil, or_false] at hu; subst hu; rfl
          case g03 => unfold maxLen; omega
          case g04 => omega
          case g05 => first | omega | (simp; omega)
          intro v1 w6 hown2 hgrow _ hat
          obtain ⟨A1, c1', rfl⟩ := row_slice1 hown2
          have hv : (conL y' z).v = .slice (conL y' z).A m (conL y' z).c := by unfold L.v; rw [HLn.out]
          rw [← hv] at hgrow hat
          have hrep : (List.replicate m (0 : Int)).flatMap ucell ++ [.int .u32 0] = (List.replicate (m + 1) (0 : Int)).flatMap ucell := by
            rw [List.replicate_succ', List.flatMap_append]; rfl
          rw [hrep] at hown2
          have hlr : (List.replicate (m + 1) (0 : Int)).length = m + 1 := by simp
          have hown3 : OwnL w6 U.heap.size 83 ucell ⟨List.replicate (m + 1) 0, A1, c1'⟩ := by
            unfold OwnL
            simp only [L.v, hlr]
            exact hown2
          have hat3 : (Value.slice A1 (List.replicate (m + 1) (0 : Int)).length c1').ownBlock = (conL y' z).v.ownBlock ∨ (Value.slice A1 (List.replicate (m + 1) (0 : Int)).length c1').ownBlock = some (wq.heap.size + 1) := by rw [hlr]; exact hat
          have hG := ConOwn.grow HO0.out.1 z hown3 hgrow hat3
          rw [hlr] at hG
          have HG := hi_ hG
          have HC6 := hi_ ((HC0.out.alloc _).grown hgrow (fun e => HO0.out.2 e.symm))
          have hoa : ∀ j, (conL y' z).v.ownBlock = some j → W.heap.size ≤ j := fun j hj => by have := (own_lt (HO0.out.1.list z) j hj).1; omega
          have HB6 : Hid (Below W.heap.size W w6) := hi_ ((below_alloc HB0.out _).grown hgrow (below_alloc HB0.out _).size hoa)
          have hs6 : cb < w6.heap.size := by have := hgrow.size; simp at this; omega
          have hA1 : (Value.slice A1 (m + 1) c1').ownBlock ≠ some cb := fun e => by
            rcases hat with h1 | h1
            · exact HO0.out.2 (h1 ▸ e)
            · have := h1.symm.trans e; injection this with this; omega
          have HBk : Blk w6 W.heap.size 64 #[y'.c8.v, y'.c16.v, y'.c32.v] := (HO0.out.1.blk.alloc _).grown hgrow (fun e => by have := (own_lt (HO0.out.1.list z) _ e.symm).1; omega)
          have c6 : w6.cell? ⟨W.heap.size, cix z, none⟩ = some (.slice (conL y' z).A m (conL y' z).c) := by have := con_cell HBk z; rw [HLn.out] at this; exact this
          have f6 : w6.frozen? ⟨W.heap.size, cix z, none⟩ = false := HBk.frozen _
          have hlk2 : lackOf (n + 1) W.heap.size (cix z) (w6.setCell ⟨W.heap.size, cix z, none⟩ (.slice A1 (m + 1) c1')) = n + 1 - (m + 1) := by
            have h7 := con_cell HG.out.blk z
            rw [conL_conS] at h7
            simp only [List.length_replicate] at h7
            unfold lackOf
            rw [h7]
          have HR : Hid ((conL (conS y' z ⟨List.replicate (m + 1) 0, A1, c1'⟩) z).l = List.replicate (m + 1) 0 ∧ (conS y' z ⟨List.replicate (m + 1) 0, A1, c1'⟩).bare = setC y.bare z (List.replicate (m + 1) 0)) := hi_ ⟨by rw [conL_conS], by rw [conS_bare, HL'.out.2, setC_same]⟩
          have hA2 : (conL (conS y' z ⟨List.replicate (m + 1) 0, A1, c1'⟩) z).v.ownBlock ≠ some cb := by rw [conL_conS]; unfold L.v; rw [hlr]; exact hA1
          clear hgrow hat hat3 hown2 hown3 hown0 hrep hlr hG HO0 HB0 HC0 hoa hs0 hU64 hv HBk
          go_wp2
          go_roundw
          case rel => exact ⟨m + 1, conS y' z ⟨List.replicate (m + 1) 0, A1, c1'⟩, by omega, by omega, HR, hi_ ⟨HG.out, hA2⟩, HC6.out.far (by show cb ≠ W.heap.size; omega) _, by simpa using hs6, HB6.out.setCell (p := ⟨W.heap.size, cix z, none⟩) (Nat.le_refl _) _⟩
          case measure => omega
        · have hmn' : ¬ (m : Int) ≤ (n : Int) := by omega
          have em : m = max cn (n + 1) := by omega
          have HY3 : Hid (y'.bare = con0 (l.take (k + 1))) := hi_ (by
            rw [HT.out, HY2.out, HL'.out.2, ← HY.out, em]
            rfl)
          clear em
          go_wp2
          go_quiet (fail)
          go_wp2
          go_roundw
          case rel => exact ⟨k + 1, y', by omega, by go_num, HY3, hi_ (HO'.out.1.below (below_drewN (Below.refl _ _) _)), by show U.heap.size ≤ wr.heap.size; omega, below_drewN HBb.out _⟩
          case measure => simp [intOf]; omega
  case neg =>
    have hkl : k = l.length := by omega
    subst hkl
    have HY0 : Hid (y.bare = con0 l) := hi_ (by rw [HY.out, List.take_length])
    clear HY hk hlt
    have hp3 := And.intro (hp0 wr HB) (hp1 wr HB)
    have HB1 := hi_ HB
    have HlB : Hid (∀ z b, (conL y z).v.ownBlock = some b → b < wr.heap.size) := hi_ (fun z b e => (own_lt (HO.out.list z) b e).2)
    obtain ⟨cs0, hcs0⟩ : ∃ cs0, progCells p = cs0 := ⟨_, rfl⟩
    obtain ⟨cs1, hcs1⟩ : ∃ cs1, envCells e = cs1 := ⟨_, rfl⟩
    simp only [progCells] at hcs0
    simp only [envCells] at hcs1
    subst hcs0 hcs1
    simp only [progCells, envCells] at hp3 HV ⊢
    go_upto_region 11 with fail
    refine (HV.out wr HB1.out).mono ?_
    rintro r w2 ⟨A2, c2, rfl, hown, hb2⟩
    obtain ⟨vs, hvs⟩ : ∃ vs, valsM p e.bare = vs := ⟨_, rfl⟩
    rw [hvs] at hown HVL
    have HVS := hi_ hvs
    obtain ⟨N, hN⟩ : ∃ N, cellsN p = N := ⟨_, rfl⟩
    rw [hN] at hown HVL hcl ⊢
    have HOW := hi_ (OwnL.ok (x := ⟨vs, A2, c2⟩) (B := wr.heap.size) (t := 83) (cells := ucell) (fun _ => rfl) (by unfold OwnL; simp only [L.v]; rw [HVL.out]; exact hown))
    have HOV : Hid (OwnL w2 wr.heap.size 83 ucell ⟨vs, A2, c2⟩) := hi_ (by unfold OwnL; simp only [L.v]; rw [HVL.out]; exact hown)
    have HO2 := hi_ (HO.out.below hb2)
    have HB2 := hi_ (below_step HB1.out hb2)
    have hsz2 : U.heap.size ≤ w2.heap.size := by have := hb2.size; omega
    have HUw : Hid (U.heap.size ≤ wr.heap.size) := hi_ hsz
    obtain ⟨bw, hbw⟩ : ∃ bw, wr.heap.size = bw := ⟨_, rfl⟩
    rw [hbw] at HOV HlB HUw
    clear hbw hvs hN hown hb2 hp3 hp0 hp1 HB HB1 HV HO hsz HOW HC0 HBU HSU HP0 HP1
    go_wp2
    go_loopw [15, 16, 17, 51] (fun _ _ _ iv wq => ∃ (k : Nat) (y' : ConD), k ≤ l.length ∧ iv = .int .i64 k ∧ Hid (y'.bare = loadK l (vs ++ bl.map bitI) k) ∧ Hid (ConOwn wq U.heap.size W.heap.size y' ∧ ∀ z, (conL y' z).v.ownBlock = (conL y z).v.ownBlock) ∧ Hid (OwnL wq bw 83 ucell ⟨vs, A2, c2⟩) ∧ Below W.heap.size W wq ∧ U.heap.size ≤ wq.heap.size) (fun _ _ _ i _ => l.length - (intOf i).toNat)
    case atStart => exact ⟨0, y, Nat.zero_le _, rfl, HY0, hi_ ⟨HO2.out, fun _ => rfl⟩, HOV, HB2.out, hsz2⟩
    case round =>
    obtain ⟨k, y', hk, rfl, HY, HO, HV, HB, hsz⟩ := hrel
    by_cases hlt : k < l.length
    case pos =>
      obtain ⟨g0, of0, hA, hall⟩ := SlotD.atA HXo.out hlt
      simp only at hA
      subst hA
      have HT := hi_ (loadK_at l (vs ++ bl.map bitI) k hlt)
      have HMc : Hid (validS l[k] = true → l[k].index < ((ofC (loadK l (vs ++ bl.map bitI) k) l[k].size).length : Int)) := hi_ (fun hv => by
        rw [loadK_len _ _ (sizes_of hv)]
        have := count_gt hv (List.getElem_mem hlt)
        omega)
      obtain ⟨d0, d1, d2, d3⟩ := hall wr HB
      clear hall
      generalize l[k] = s at *
      obtain ⟨z, i, f, d⟩ := s
      simp only at d0 d1 d2 d3
      have hca := @World.cell?_alloc_some
      refine Exists.elim (⟨_, rfl⟩ : ∃ V, V = wr.alloc (.cells #[.int .i64 z, .int .i64 i, .int .i64 f, .int .i64 d] 48)) fun V hV => ?_
      have HCp : Hid (Blk V wr.heap.size 48 #[.int .i64 z, .int .i64 i, .int .i64 f, .int .i64 d]) := hi_ (by rw [hV]; exact Blk.new _ _ _)
      have hBr : Below wr.heap.size wr V := by rw [hV]; exact below1 _ _
      have HOb : Hid (ConOwn V U.heap.size W.heap.size y' ∧ ∀ z, (conL y' z).v.ownBlock = (conL y z).v.ownBlock) := hi_ ⟨HO.out.1.below hBr, HO.out.2⟩
      have HVb := hi_ (HV.out.below hBr)
      have HBb := hi_ (below_step HB hBr)
      have hszb : U.heap.size ≤ V.heap.size := by have := hBr.size; omega
      clear hBr HB HO HV
      go_upto_region 15 with fail
      rw [← hV]
      clear hV d0 d1 d2 d3 hca
      go_upto_block 6 with fail
      have HVl : Hid (vs.length = N) := HVL
      have HVk : Hid (OwnL V bw 83 ucell ⟨vs, A2, c2⟩) := HVb
      have HVB := HBb.out
      generalize hnv : (vs ++ bl.map bitI).getD k 0 = nv at *
      go_cut [17] from 52 to 78 (fun v wx => v = .int .u32 nv ∧ V = wx)
      case first =>
        by_cases hkn : k < N
        case pos =>
          have hkn' : (k : Int) < (N : Int) := by omega
          have hkv : k < vs.length := by rw [HVl.out]; exact hkn
          have hn2 : nv = vs[k] := by rw [← hnv, List.getD_eq_getElem?_getD, List.getElem?_append_left hkv, List.getElem?_eq_getElem hkv]; rfl
          obtain ⟨gv, ov, hgv, hcv⟩ := ucell_atA (OwnL.ok (fun _ => rfl) HVk.out).1 hkv
          simp only at hgv hcv
          subst hgv
          have d5 := hcv V (Below.refl _ _)
          rw [← hn2] at d5
          clear hcv hn2 hkv hnv
          go_wp2
          go_meet
          case rel => exact ⟨rfl, rfl⟩
        case neg =>
          have hkn' : ¬ (k : Int) < (N : Int) := by omega
          by_cases hkb : k - N < bl.length
          case pos =>
            have hkb' : (k : Int) - (N : Int) < (bl.length : Int) := by omega
            have hn2 : nv = bitI (bl[k - N]) := by
              rw [← hnv, List.getD_eq_getElem?_getD, List.getElem?_append_right (by rw [HVl.out]; omega), HVl.out, List.getElem?_map, List.getElem?_eq_getElem hkb]; rfl
            obtain ⟨gv, ov, hgv, hcv⟩ := bcell_atA HBo.out hkb
            simp only at hgv hcv
            subst hgv
            have d5 := hcv V HVB
            obtain ⟨q, hq⟩ : ∃ q, k - N = q := ⟨_, rfl⟩
            have hkN : k = N + q := by omega
            have hqb : q < bl.length := by omega
            clear hcv hnv
            generalize bl[k - N] = bv at *
            rw [hq] at d5
            have hsub : (k : Int) - (N : Int) = (q : Int) := by omega
            have hnb : Hid (nv = bitI bv) := hi_ hn2
            rw [hsub] at hkb'
            clear hq hkN hn2
            go_upto_region 18 with fail
            go_upto_region 19 with fail
            go_wp2_with fail
            refine (pbit_any bv _).mono ?_
            rintro r w' ⟨rfl, rfl⟩
            have hbv : (if bv = true then (1 : Int) else 0) = nv := hnb.out.symm
            rw [hbv]
            clear hbv hnb hsub d5
            go_wp2
            go_meet
            case rel => exact ⟨rfl, rfl⟩
          case neg =>
            have hkb' : ¬ (k : Int) - (N : Int) < (bl.length : Int) := by omega
            have hn2 : nv = 0 := by
              rw [← hnv, List.getD_eq_getElem?_getD, List.getElem?_eq_none (by rw [List.length_append, List.length_map, HVl.out]; omega)]; rfl
            subst hn2
            clear hnv
            go_wp2
            go_meet
            case rel => exact ⟨rfl, rfl⟩
      case rest =>
      obtain ⟨rfl, hwc⟩ := hcut
      subst hwc
      have s0 : V.cell? ⟨wr.heap.size, 0, none⟩ = some (.int .i64 z) := HCp.out.cell 0
      have s1 : V.cell? ⟨wr.heap.size, 1, none⟩ = some (.int .i64 i) := HCp.out.cell 1
      have s2 : V.cell? ⟨wr.heap.size, 2, none⟩ = some (.int .i64 f) := HCp.out.cell 2
      have s3 : V.cell? ⟨wr.heap.size, 3, none⟩ = some (.int .i64 d) := HCp.out.cell 3
      clear hnv HVB HVk
      go_wp2_with fail
      refine (valid_any z i f d V).mono ?_
      rintro r w5 ⟨rfl, hbN⟩
      have HC5 := hi_ (HCp.out.below hbN HCp.out.lt)
      have HO5 : Hid (ConOwn w5 U.heap.size W.heap.size y' ∧ ∀ z, (conL y' z).v.ownBlock = (conL y z).v.ownBlock) := hi_ ⟨HOb.out.1.below hbN, HOb.out.2⟩
      have HB5 := hi_ (below_step HBb.out hbN)
      have HV5 := hi_ (HVb.out.below hbN)
      have hsz5 : U.heap.size ≤ w5.heap.size := by have := hbN.size; omega
      clear hbN s0 s1 s2 s3 HCp HOb HBb HVb hszb
      cases hv : validS ⟨z, i, f, d⟩ with
      | false =>
        have HY5 : Hid (y'.bare = loadK l (vs ++ bl.map bitI) (k + 1)) := hi_ (by rw [HT.out, hv]; exact HY.out)
        clear hv HT HY HMc
        go_wp2
        go_roundw
        case rel => exact ⟨k + 1, y', by omega, by go_num, HY5, HO5, HV5, HB5.out, hsz5⟩
        case measure => simp [intOf]; omega
      | true =>
        have hi5 : i < ((ofC y'.bare z).length : Int) := by rw [HY.out]; exact HMc.out hv
        have HS := hi_ (cset_any y' ⟨z, i, f, d⟩ nv U.heap.size W.heap.size w5 HO5.out.1 hv hi5)
        have HY5 : Hid (loadK l (vs ++ bl.map bitI) (k + 1) = putC y'.bare ⟨z, i, f, d⟩ nv) := hi_ (by rw [HT.out, hv, HY.out]; rfl)
        clear hv HT HY HMc hi5
        have s0 : w5.cell? ⟨wr.heap.size, 0, none⟩ = some (.int .i64 z) := HC5.out.cell 0
        have s1 : w5.cell? ⟨wr.heap.size, 1, none⟩ = some (.int .i64 i) := HC5.out.cell 1
        have s2 : w5.cell? ⟨wr.heap.size, 2, none⟩ = some (.int .i64 f) := HC5.out.cell 2
        have s3 : w5.cell? ⟨wr.heap.size, 3, none⟩ = some (.int .i64 d) := HC5.out.cell 3
        go_wp2_with fail
        refine HS.out.mono ?_
        rintro r w6 ⟨rfl, ⟨x', hbx, hox, hzx⟩, hg⟩
        have HY6 : Hid (x'.bare = loadK l (vs ++ bl.map bitI) (k + 1)) := hi_ (by rw [HY5.out]; exact hbx)
        have HO6 : Hid (ConOwn w6 U.heap.size W.heap.size x' ∧ ∀ z, (conL x' z).v.ownBlock = (conL y z).v.ownBlock) := hi_ ⟨hox, fun z' => (hzx z').trans (HO5.out.2 z')⟩
        have HV6 := hi_ (HV5.out.grown hg (fun g e e2 => by
          have h1 := (own_lt HV5.out g e).1
          have h2 := HlB.out z g ((HO5.out.2 z).symm.trans e2)
          omega))
        have HB6 : Hid (Below W.heap.size W w6) := hi_ (HB5.out.grown hg HB5.out.size (fun j hj => by have := (own_lt (HO5.out.1.list z) j hj).1; omega))
        have hsz6 : U.heap.size ≤ w6.heap.size := by have := hg.size; omega
        clear hbx hox hzx hg HS HY5 s0 s1 s2 s3 HO5 HV5 HB5 HC5
        go_wp2
        go_roundw
        case rel => exact ⟨k + 1, x', by omega, by go_num, HY6, HO6, HV6, HB6.out, hsz6⟩
        case measure => simp [intOf]; omega
    case neg =>
      have hkl : k = l.length := by omega
      subst hkl
      have HF : Hid (y'.bare = loadM l (valsM p e.bare ++ bl.map bitI)) := hi_ (by rw [HY.out, HVS.out]; rfl)
      clear HY HV
      have c0 : wr.cell? ⟨W.heap.size, 0, none⟩ = some y'.c8.v := HO.out.1.blk.cell 0
      have c1 : wr.cell? ⟨W.heap.size, 1, none⟩ = some y'.c16.v := HO.out.1.blk.cell 1
      have c2' : wr.cell? ⟨W.heap.size, 2, none⟩ = some y'.c32.v := HO.out.1.blk.cell 2
      have HR := hi_ (HP2.out.below HB HP2.out.lt)
      have f0 : wr.frozen? ⟨w.heap.size + 1 + 1, 0, none⟩ = false := HR.out.frozen 0
      have f1 : wr.frozen? ⟨w.heap.size + 1 + 1, 1, none⟩ = false := HR.out.frozen 1
      have f2 : wr.frozen? ⟨w.heap.size + 1 + 1, 2, none⟩ = false := HR.out.frozen 2
      have g0 : wr.cell? ⟨w.heap.size + 1 + 1, 0, none⟩ = some (.slice none 0 0) := HR.out.cell 0
      have g1 : wr.cell? ⟨w.heap.size + 1 + 1, 1, none⟩ = some (.slice none 0 0) := HR.out.cell 1
      have g2 : wr.cell? ⟨w.heap.size + 1 + 1, 2, none⟩ = some (.slice none 0 0) := HR.out.cell 2
      have HBF := hi_ HB
      have hne : w.heap.size + 1 + 1 < W.heap.size := by have := HSz.out; omega
      have HX : Hid (∀ (q : L Int) (u v x : Value), OwnL wr U.heap.size 83 ucell q → LOkN (((wr.setCell ⟨w.heap.size + 1 + 1, 0, none⟩ u).setCell ⟨w.heap.size + 1 + 1, 1, none⟩ v).setCell ⟨w.heap.size + 1 + 1, 2, none⟩ x) 1 ucell q) := hi_ (fun q u v x hq => by
        have hq' : ∀ j, q.v.ownBlock = some j → U.heap.size ≤ j := fun j hj => (own_lt hq j hj).1
        have hn : q.v.ownBlock ≠ some (w.heap.size + 1 + 1) := fun e => by have := hq' _ e; omega
        exact OwnL.ok (fun _ => rfl) (((hq.far u (by exact hn)).far v (by exact hn)).far x (by exact hn)))
      clear HB hk hlt
      go_wp2
      refine bodyPost_ret (v := .agg #[y'.c8.v, y'.c16.v, y'.c32.v]) ?_ rfl ?_
      · exact results_cell_row (fn := Tryz.f22) (p := 8) (ty := 64) rfl _ _ (w.heap.size + 1 + 1) 64 #[y'.c8.v, y'.c16.v, y'.c32.v] (0, 0) _ rfl (((HR.out.set_ 0 _).set_ 1 _).set_ 2 _) Tryz.underlying64 rfl (by kernel_rfl)
      · exact ⟨y', rfl, HF.out, ⟨HX.out _ _ _ _ HO.out.1.o8, HX.out _ _ _ _ HO.out.1.o16, HX.out _ _ _ _ HO.out.1.o32⟩, (((below_step HW.out HBF.out).setCell (p := ⟨w.heap.size + 1 + 1, 0, none⟩) (by show w.heap.size ≤ w.heap.size + 1 + 1; omega) _).setCell (p := ⟨w.heap.size + 1 + 1, 1, none⟩) (by show w.heap.size ≤ w.heap.size + 1 + 1; omega) _).setCell (p := ⟨w.heap.size + 1 + 1, 2, none⟩) (by show w.heap.size ≤ w.heap.size + 1 + 1; omega) _⟩
def Yes (e : Ending) (p : Prop) : Prop := ∃ b : Bool, e = .returned (.bool b) ∧ (b = true → p)
theorem Yes.no {p : Prop} : Yes (.returned (.bool false)) p := ⟨false, rfl, fun h => by cases h⟩
theorem Yes.yes {p : Prop} (h : p) : Yes (.returned (.bool true)) p := ⟨true, rfl, fun _ => h⟩
theorem lfields_any (x : L FieldD) (w : World) (h : LOk w 2 FieldD.cells x) :
    Calls Tryz.prog 80 #[.slice x.A x.l.length x.c] w fun e w' => Yes e (x.l.length ≤ 16) ∧ w = w' := by
  obtain ⟨l, A, c⟩ := x
  have HX := hi_ h
  have hmx := h.1
  unfold maxLen at hmx
  clear h
  simp only at hmx ⊢
  by_cases h16 : (16 : Int) < (l.length : Int)
  case pos =>
    go_enter Tryz.func80, Tryz.ntmps80
    go_wp2
    go_ret
    exact ⟨Yes.no, rfl⟩
  have HB := hi_ (show l.length ≤ 16 by omega)
  go_enter Tryz.func80, Tryz.ntmps80
  go_wp2
  go_loopw [3] (fun iv wr => ∃ k : Nat, k ≤ l.length ∧ iv = .int .i64 k ∧ w = wr) (fun i _ => l.length - (intOf i).toNat)
  case atStart => exact ⟨0, Nat.zero_le _, rfl, rfl⟩
  case round =>
    obtain ⟨k, hk, rfl, rfl⟩ := hrel
    by_cases hlt : k < l.length
    · obtain ⟨g, of, hA, d0, d1⟩ := FieldD.at HX.out hlt
      simp only at hA
      subst hA
      simp only at d0 d1
      generalize l[k] = s at *
      obtain ⟨nm, z⟩ := s
      simp only at d0 d1
      by_cases h40 : (40 : Int) < (nm.size : Int)
      · go_wp2
        go_ret
        exact ⟨Yes.no, rfl⟩
      · go_wp2
        go_roundw
        case rel => exact ⟨k + 1, by omega, by go_num, trivial⟩
        case measure => simp [intOf]; omega
    · have hk' : k = l.length := by omega
      subst hk'
      go_wp2
      go_ret
      exact ⟨Yes.yes HB.out, rfl⟩
theorem lbody_any (x : ActD) (w : World) (h : ActOk w x) :
    Calls Tryz.prog 81 #[.agg #[.string x.name, .slice x.params.A x.params.l.length x.params.c, .slice x.body.A x.body.l.length x.body.c]] w fun e w' => Yes e True ∧ Below w.heap.size w w' := by
  obtain ⟨nm, pr, ⟨l, A, c⟩⟩ := x
  obtain ⟨W, hW⟩ : ∃ W, W = w.alloc (.cells #[.string nm, .slice pr.A pr.l.length pr.c, .slice A l.length c] 124) := ⟨_, rfl⟩
  have HX := hi_ (h.body.below (below1 w (.cells #[.string nm, .slice pr.A pr.l.length pr.c, .slice A l.length c] 124)) (Nat.le_refl _))
  rw [← hW] at HX
  have HPr := hi_ (lfields_any pr W (by rw [hW]; exact h.params.below (below1 _ _) (Nat.le_refl _)))
  have HK : Blk W w.heap.size 124 #[.string nm, .slice pr.A pr.l.length pr.c, .slice A l.length c] := by rw [hW]; exact Blk.new _ _ _
  have HW : Hid (Below w.heap.size w W) := hi_ (by rw [hW]; exact below1 _ _)
  have s0 : W.cell? ⟨w.heap.size, 0, none⟩ = some (.string nm) := HK.cell 0
  have s1 : W.cell? ⟨w.heap.size, 1, none⟩ = some (.slice pr.A pr.l.length pr.c) := HK.cell 1
  have s2 : W.cell? ⟨w.heap.size, 2, none⟩ = some (.slice A l.length c) := HK.cell 2
  have hmx := h.body.1
  unfold maxLen at hmx
  clear h HK
  simp only at hmx HX ⊢
  go_enter Tryz.func81, Tryz.ntmps81
  go_upto_region 1 with fail
  rw [← hW]
  clear hW
  by_cases h40 : (40 : Int) < (nm.size : Int)
  case pos =>
    go_wp2
    go_ret
    exact ⟨Yes.no, HW.out⟩
  go_wp2_with fail
  refine HPr.out.mono ?_
  rintro e w' ⟨⟨b, rfl, _⟩, rfl⟩
  clear s0 s1 HPr h40
  cases b with
  | false =>
    go_wp2
    go_ret
    exact ⟨Yes.no, HW.out⟩
  | true =>
  by_cases h16 : (16 : Int) < (l.length : Int)
  case pos =>
    go_wp2
    go_ret
    exact ⟨Yes.no, HW.out⟩
  go_wp2
  go_loopw [3] (fun iv wr => ∃ k : Nat, k ≤ l.length ∧ iv = .int .i64 k ∧ W = wr) (fun i _ => l.length - (intOf i).toNat)
  case atStart => exact ⟨0, Nat.zero_le _, rfl, rfl⟩
  case round =>
    obtain ⟨k, hk, rfl, rfl⟩ := hrel
    by_cases hlt : k < l.length
    · obtain ⟨g, of, hA, d0, d1, d2, d3, d4, d5, d6⟩ := StmtD.at HX.out hlt
      simp only at hA
      subst hA
      simp only at d0 d1 d2 d3 d4 d5 d6
      generalize l[k] = s at *
      obtain ⟨a0, a1, a2, a3, a4, a5, a6⟩ := s
      simp only at d0 d1 d2 d3 d4 d5 d6
      clear d0 d1 d2 d3 d4
      by_cases h5 : (40 : Int) < (a5.l.length : Int)
      · go_wp2
        go_ret
        exact ⟨Yes.no, HW.out⟩
      · by_cases h6 : (40 : Int) < (a6.l.length : Int)
        · go_wp2
          go_ret
          exact ⟨Yes.no, HW.out⟩
        · go_wp2
          go_roundw
          case rel => exact ⟨k + 1, by omega, by go_num, trivial⟩
          case measure => simp [intOf]; omega
    · have hk' : k = l.length := by omega
      subst hk'
      go_wp2
      go_ret
      exact ⟨Yes.yes trivial, HW.out⟩
structure RCon (w : World) (B : Nat) (x : ConD) : Prop where
  o8 : OwnL w B 83 ucell x.c8
  o16 : OwnL w B 83 ucell x.c16
  o32 : OwnL w B 83 ucell x.c32
  a1 : ∀ b, x.c8.v.ownBlock = some b → x.c16.v.ownBlock ≠ some b
  a2 : ∀ b, x.c8.v.ownBlock = some b → x.c32.v.ownBlock ≠ some b
  a3 : ∀ b, x.c16.v.ownBlock = some b → x.c32.v.ownBlock ≠ some b
theorem RCon.below {w w' : World} {B : Nat} {x : ConD} (o : RCon w B x) (hb : Below w.heap.size w w') : RCon w' B x :=
  ⟨o.o8.below hb, o.o16.below hb, o.o32.below hb, o.a1, o.a2, o.a3⟩
theorem RCon.list {w : World} {B : Nat} {x : ConD} (o : RCon w B x) (z : Int) : OwnL w B 83 ucell (conL x z) := by
  unfold conL
  split
  · exact o.o8
  · split
    · exact o.o16
    · exact o.o32
@[reducible] def rconCells (x : ConD) : Array Value := #[.slice x.c8.A x.c8.l.length x.c8.c, .slice x.c16.A x.c16.l.length x.c16.c, .slice x.c32.A x.c32.l.length x.c32.c]
theorem RCon.put {w : World} {B : Nat} {x : ConD} (o : RCon w B x) (z : Int) {gl : Nat} (hA : (conL x z).A = some ⟨gl, 0, none⟩) (i : Nat) (n : Int) :
    RCon (w.setCell ⟨gl, i, none⟩ (.int .u32 n)) B (conS x z ⟨(conL x z).l.set i n, (conL x z).A, (conL x z).c⟩) := by
  obtain ⟨o8, o16, o32, a1, a2, a3⟩ := o
  obtain ⟨⟨l8, A8, c8⟩, ⟨l16, A16, c16⟩, ⟨l32, A32, c32⟩⟩ := x
  unfold conL at hA ⊢
  unfold conS
  by_cases h8 : z = 8
  · simp only [h8, if_true] at hA ⊢
    subst hA
    exact ⟨OwnL.put (fun n => .int .u32 n) (fun _ => rfl) o8 i n, o16.far _ (a1 gl rfl), o32.far _ (a2 gl rfl), a1, a2, a3⟩
  · by_cases h16 : z = 16
    · simp only [h16, if_neg (show ¬ (16 : Int) = 8 by decide), if_true] at hA ⊢
      subst hA
      exact ⟨o8.far _ (fun e => a1 gl e rfl), OwnL.put (fun n => .int .u32 n) (fun _ => rfl) o16 i n, o32.far _ (a3 gl rfl), a1, a2, a3⟩
    · simp only [h8, h16, if_false] at hA ⊢
      subst hA
      exact ⟨o8.far _ (fun e => a2 gl e rfl), o16.far _ (fun e => a3 gl e rfl), OwnL.put (fun n => .int .u32 n) (fun _ => rfl) o32 i n, a1, a2, a3⟩
theorem rof_any (x : ConD) (z : Int) (w : World) : Calls Tryz.prog 57 #[.agg (rconCells x), .int .i64 z] w fun r w' => r = .returned (.slice (conL x z).A (conL x z).l.length (conL x z).c) ∧ Below w.heap.size w w' := by
  obtain ⟨W, hW, hw, HB, hp⟩ := box1 w (rconCells x) 62
  have HW := hi_ hw
  have hp3 := hp W HB
  clear hw hp
  by_cases h8 : z = 8
  · subst h8
    have HR : Hid (conL x 8 = x.c8) := hi_ rfl
    go_enter Tryz.func57, Tryz.ntmps57
    go_upto_region 1 with fail
    rw [← hW]
    clear hW
    go_wp2
    go_ret
    exact ⟨by rw [HR.out]; rfl, below_step HW.out HB⟩
  by_cases h16 : z = 16
  · subst h16
    have HR : Hid (conL x 16 = x.c16) := hi_ rfl
    go_enter Tryz.func57, Tryz.ntmps57
    go_upto_region 1 with fail
    rw [← hW]
    clear hW
    go_wp2
    go_ret
    exact ⟨by rw [HR.out]; rfl, below_step HW.out HB⟩
  have b8 : (z == 8) = false := beq_eq_false_iff_ne.2 h8
  have b16 : (z == 16) = false := beq_eq_false_iff_ne.2 h16
  have HR : Hid (conL x z = x.c32) := hi_ (by simp [conL, h8, h16])
  clear h8 h16
  go_enter Tryz.func57, Tryz.ntmps57
  go_upto_region 1 with fail
  rw [← hW]
  clear hW
  go_wp2
  go_ret
  exact ⟨by rw [HR.out]; rfl, below_step HW.out HB⟩
theorem arr5_0 (a b c d e : Int) (w : World) : (Instr.index 140 (.agg #[.int .i64 a, .int .i64 b, .int .i64 c, .int .i64 d, .int .i64 e]) (.int .i64 0)).run Tryz.prog w = .ok (.int .i64 a) w := by kernel_rfl
theorem arr5_1 (a b c d e : Int) (w : World) : (Instr.index 140 (.agg #[.int .i64 a, .int .i64 b, .int .i64 c, .int .i64 d, .int .i64 e]) (.int .i64 1)).run Tryz.prog w = .ok (.int .i64 b) w := by kernel_rfl
theorem arr5_2 (a b c d e : Int) (w : World) : (Instr.index 140 (.agg #[.int .i64 a, .int .i64 b, .int .i64 c, .int .i64 d, .int .i64 e]) (.int .i64 2)).run Tryz.prog w = .ok (.int .i64 c) w := by kernel_rfl
theorem arr5_3 (a b c d e : Int) (w : World) : (Instr.index 140 (.agg #[.int .i64 a, .int .i64 b, .int .i64 c, .int .i64 d, .int .i64 e]) (.int .i64 3)).run Tryz.prog w = .ok (.int .i64 d) w := by kernel_rfl
theorem arr5_4 (a b c d e : Int) (w : World) : (Instr.index 140 (.agg #[.int .i64 a, .int .i64 b, .int .i64 c, .int .i64 d, .int .i64 e]) (.int .i64 4)).run Tryz.prog w = .ok (.int .i64 e) w := by kernel_rfl
theorem chip_ok {c : ChipD} (h : (1 ≤ c.stages ∧ c.stages ≤ 16) ∧ in64 c.tables ∧ in64 c.gates ∧ in64 c.c8 ∧ in64 c.c16 ∧ in64 c.c32 ∧ (0 ≤ c.sram ∧ c.sram ≤ 4096) ∧ (0 ≤ c.tcam ∧ c.tcam ≤ 4096)) : chipM c = 0 := if_pos h
theorem chip_bad {c : ChipD} (h : ¬ ((1 ≤ c.stages ∧ c.stages ≤ 16) ∧ in64 c.tables ∧ in64 c.gates ∧ in64 c.c8 ∧ in64 c.c16 ∧ in64 c.c32 ∧ (0 ≤ c.sram ∧ c.sram ≤ 4096) ∧ (0 ≤ c.tcam ∧ c.tcam ≤ 4096))) : chipM c = 9 := if_neg h
theorem chip_any (st ta ga sr tc c8 c16 c32 : Int) (w : World) : Calls Tryz.prog 38 #[.agg #[.int .i64 st, .int .i64 ta, .int .i64 ga, .int .i64 sr, .int .i64 tc, .int .i64 c8, .int .i64 c16, .int .i64 c32]] w fun e w' => e = .returned (.int .i64 (chipM ⟨st, ta, ga, sr, tc, c8, c16, c32⟩)) ∧ Below w.heap.size w w' := by
  have i0 := arr5_0
  have i1 := arr5_1
  have i2 := arr5_2
  have i3 := arr5_3
  have i4 := arr5_4
  by_cases h0 : 1 ≤ st
  case neg =>
    have HR : Hid (chipM ⟨st, ta, ga, sr, tc, c8, c16, c32⟩ = 9) := hi_ (chip_bad (by simp only [in64]; omega))
    go_enter Tryz.func38, Tryz.ntmps38
    go_wp2
    go_ret
    exact ⟨by rw [HR.out]; rfl, below1 _ _⟩
  by_cases h1 : st ≤ 16
  case neg =>
    have HR : Hid (chipM ⟨st, ta, ga, sr, tc, c8, c16, c32⟩ = 9) := hi_ (chip_bad (by simp only [in64]; omega))
    go_enter Tryz.func38, Tryz.ntmps38
    go_wp2
    go_ret
    exact ⟨by rw [HR.out]; rfl, below1 _ _⟩
  by_cases h2 : 0 ≤ ta
  case neg =>
    have HR : Hid (chipM ⟨st, ta, ga, sr, tc, c8, c16, c32⟩ = 9) := hi_ (chip_bad (by simp only [in64]; omega))
    go_enter Tryz.func38, Tryz.ntmps38
    go_wp2
    refine wp_loop_rounds 6 ?_
    rw [rounds_succ]
    go_wp2
    go_ret
    exact ⟨by rw [HR.out]; rfl, below1 _ _⟩
  by_cases h3 : ta ≤ 64
  case neg =>
    have HR : Hid (chipM ⟨st, ta, ga, sr, tc, c8, c16, c32⟩ = 9) := hi_ (chip_bad (by simp only [in64]; omega))
    go_enter Tryz.func38, Tryz.ntmps38
    go_wp2
    refine wp_loop_rounds 6 ?_
    rw [rounds_succ]
    go_wp2
    go_ret
    exact ⟨by rw [HR.out]; rfl, below1 _ _⟩
  by_cases h4 : 0 ≤ ga
  case neg =>
    have HR : Hid (chipM ⟨st, ta, ga, sr, tc, c8, c16, c32⟩ = 9) := hi_ (chip_bad (by simp only [in64]; omega))
    go_enter Tryz.func38, Tryz.ntmps38
    go_wp2
    refine wp_loop_rounds 6 ?_
    rw [rounds_succ]
    go_wp2
    rw [rounds_succ]
    go_wp2
    go_ret
    exact ⟨by rw [HR.out]; rfl, below1 _ _⟩
  by_cases h5 : ga ≤ 64
  case neg =>
    have HR : Hid (chipM ⟨st, ta, ga, sr, tc, c8, c16, c32⟩ = 9) := hi_ (chip_bad (by simp only [in64]; omega))
    go_enter Tryz.func38, Tryz.ntmps38
    go_wp2
    refine wp_loop_rounds 6 ?_
    rw [rounds_succ]
    go_wp2
    rw [rounds_succ]
    go_wp2
    go_ret
    exact ⟨by rw [HR.out]; rfl, below1 _ _⟩
  by_cases h6 : 0 ≤ c8
  case neg =>
    have HR : Hid (chipM ⟨st, ta, ga, sr, tc, c8, c16, c32⟩ = 9) := hi_ (chip_bad (by simp only [in64]; omega))
    go_enter Tryz.func38, Tryz.ntmps38
    go_wp2
    refine wp_loop_rounds 6 ?_
    rw [rounds_succ]
    go_wp2
    rw [rounds_succ]
    go_wp2
    rw [rounds_succ]
    go_wp2
    go_ret
    exact ⟨by rw [HR.out]; rfl, below1 _ _⟩
  by_cases h7 : c8 ≤ 64
  case neg =>
    have HR : Hid (chipM ⟨st, ta, ga, sr, tc, c8, c16, c32⟩ = 9) := hi_ (chip_bad (by simp only [in64]; omega))
    go_enter Tryz.func38, Tryz.ntmps38
    go_wp2
    refine wp_loop_rounds 6 ?_
    rw [rounds_succ]
    go_wp2
    rw [rounds_succ]
    go_wp2
    rw [rounds_succ]
    go_wp2
    go_ret
    exact ⟨by rw [HR.out]; rfl, below1 _ _⟩
  by_cases h8 : 0 ≤ c16
  case neg =>
    have HR : Hid (chipM ⟨st, ta, ga, sr, tc, c8, c16, c32⟩ = 9) := hi_ (chip_bad (by simp only [in64]; omega))
    go_enter Tryz.func38, Tryz.ntmps38
    go_wp2
    refine wp_loop_rounds 6 ?_
    rw [rounds_succ]
    go_wp2
    rw [rounds_succ]
    go_wp2
    rw [rounds_succ]
    go_wp2
    rw [rounds_succ]
    go_wp2
    go_ret
    exact ⟨by rw [HR.out]; rfl, below1 _ _⟩
  by_cases h9 : c16 ≤ 64
  case neg =>
    have HR : Hid (chipM ⟨st, ta, ga, sr, tc, c8, c16, c32⟩ = 9) := hi_ (chip_bad (by simp only [in64]; omega))
    go_enter Tryz.func38, Tryz.ntmps38
    go_wp2
    refine wp_loop_rounds 6 ?_
    rw [rounds_succ]
    go_wp2
    rw [rounds_succ]
    go_wp2
    rw [rounds_succ]
    go_wp2
    rw [rounds_succ]
    go_wp2
    go_ret
    exact ⟨by rw [HR.out]; rfl, below1 _ _⟩
  by_cases h10 : 0 ≤ c32
  case neg =>
    have HR : Hid (chipM ⟨st, ta, ga, sr, tc, c8, c16, c32⟩ = 9) := hi_ (chip_bad (by simp only [in64]; omega))
    go_enter Tryz.func38, Tryz.ntmps38
    go_wp2
    refine wp_loop_rounds 6 ?_
    rw [rounds_succ]
    go_wp2
    rw [rounds_succ]
    go_wp2
    rw [rounds_succ]
    go_wp2
    rw [rounds_succ]
    go_wp2
    rw [rounds_succ]
    go_wp2
    go_ret
    exact ⟨by rw [HR.out]; rfl, below1 _ _⟩
  by_cases h11 : c32 ≤ 64
  case neg =>
    have HR : Hid (chipM ⟨st, ta, ga, sr, tc, c8, c16, c32⟩ = 9) := hi_ (chip_bad (by simp only [in64]; omega))
    go_enter Tryz.func38, Tryz.ntmps38
    go_wp2
    refine wp_loop_rounds 6 ?_
    rw [rounds_succ]
    go_wp2
    rw [rounds_succ]
    go_wp2
    rw [rounds_succ]
    go_wp2
    rw [rounds_succ]
    go_wp2
    rw [rounds_succ]
    go_wp2
    go_ret
    exact ⟨by rw [HR.out]; rfl, below1 _ _⟩
  by_cases h12 : 0 ≤ sr
  case neg =>
    have HR : Hid (chipM ⟨st, ta, ga, sr, tc, c8, c16, c32⟩ = 9) := hi_ (chip_bad (by simp only [in64]; omega))
    go_enter Tryz.func38, Tryz.ntmps38
    go_wp2
    refine wp_loop_rounds 6 ?_
    rw [rounds_succ]
    go_wp2
    rw [rounds_succ]
    go_wp2
    rw [rounds_succ]
    go_wp2
    rw [rounds_succ]
    go_wp2
    rw [rounds_succ]
    go_wp2
    rw [rounds_succ]
    go_wp2
    go_ret
    exact ⟨by rw [HR.out]; rfl, below1 _ _⟩
  by_cases h13 : sr ≤ 4096
  case neg =>
    have HR : Hid (chipM ⟨st, ta, ga, sr, tc, c8, c16, c32⟩ = 9) := hi_ (chip_bad (by simp only [in64]; omega))
    go_enter Tryz.func38, Tryz.ntmps38
    go_wp2
    refine wp_loop_rounds 6 ?_
    rw [rounds_succ]
    go_wp2
    rw [rounds_succ]
    go_wp2
    rw [rounds_succ]
    go_wp2
    rw [rounds_succ]
    go_wp2
    rw [rounds_succ]
    go_wp2
    rw [rounds_succ]
    go_wp2
    go_ret
    exact ⟨by rw [HR.out]; rfl, below1 _ _⟩
  by_cases h14 : 0 ≤ tc
  case neg =>
    have HR : Hid (chipM ⟨st, ta, ga, sr, tc, c8, c16, c32⟩ = 9) := hi_ (chip_bad (by simp only [in64]; omega))
    go_enter Tryz.func38, Tryz.ntmps38
    go_wp2
    refine wp_loop_rounds 6 ?_
    rw [rounds_succ]
    go_wp2
    rw [rounds_succ]
    go_wp2
    rw [rounds_succ]
    go_wp2
    rw [rounds_succ]
    go_wp2
    rw [rounds_succ]
    go_wp2
    rw [rounds_succ]
    go_wp2
    go_ret
    exact ⟨by rw [HR.out]; rfl, below1 _ _⟩
  by_cases h15 : tc ≤ 4096
  case neg =>
    have HR : Hid (chipM ⟨st, ta, ga, sr, tc, c8, c16, c32⟩ = 9) := hi_ (chip_bad (by simp only [in64]; omega))
    go_enter Tryz.func38, Tryz.ntmps38
    go_wp2
    refine wp_loop_rounds 6 ?_
    rw [rounds_succ]
    go_wp2
    rw [rounds_succ]
    go_wp2
    rw [rounds_succ]
    go_wp2
    rw [rounds_succ]
    go_wp2
    rw [rounds_succ]
    go_wp2
    rw [rounds_succ]
    go_wp2
    go_ret
    exact ⟨by rw [HR.out]; rfl, below1 _ _⟩
  have HR : Hid (chipM ⟨st, ta, ga, sr, tc, c8, c16, c32⟩ = 0) := hi_ (chip_ok (by simp only [in64]; omega))
  go_enter Tryz.func38, Tryz.ntmps38
  go_wp2
  refine wp_loop_rounds 6 ?_
  rw [rounds_succ]
  go_wp2
  rw [rounds_succ]
  go_wp2
  rw [rounds_succ]
  go_wp2
  rw [rounds_succ]
  go_wp2
  rw [rounds_succ]
  go_wp2
  rw [rounds_succ]
  go_wp2
  go_ret
  exact ⟨by rw [HR.out]; rfl, below1 _ _⟩
theorem pcells_any (p : ProgD) (w : World) (o : ProgOk w p) (hs : AccSm p) :
    Calls Tryz.prog 39 #[.agg (progCells p)] w fun e w' => e = .returned (.int .i64 (cellsN p : Nat)) ∧ Below w.heap.size w w' := by
  obtain ⟨W, hW, hw, HB, hp⟩ := box1 w (progCells p) 31
  have HW := hi_ hw
  have HC := hi_ (fun u (hb : Below W.heap.size W u) => accCells_any p u (o.below (below_step hw hb)) hs)
  have hb := fN_le hs
  have h1 := hs.headers
  have h2 := hs.metadata
  have h3 := hs.registers
  have H0 := hi_ (Below.refl W.heap.size W)
  have HE : Hid (IntKind.i64.wrap (((firstN p 4 : Nat) : Int) - (p.registers.l.length : Int)) = ((cellsN p : Nat) : Int)) := hi_ (by simp only [firstN, cellsN]; rw [IntWalk.i64_in _ (by omega)]; omega)
  have hb4 : firstN p 4 ≤ 10300 := by simp only [firstN]; omega
  clear o hs hw hb h1 h2
  generalize firstN p 4 = n4 at *
  go_enter Tryz.func39, Tryz.ntmps39
  go_upto_region 1 with fail
  rw [← hW]
  clear hW
  go_region_held3 (fun w' => Below W.heap.size W w') (first | exact H0.out | exact below_drew H0.out | (exact below_step (by assumption) (by assumption)) | assumption)
    (first | (go_at_call 89; refine (HC.out _ (by assumption)).mono ?_; rintro e w1 ⟨rfl, hb1⟩))
  have HB5 : Hid (Below W.heap.size W _) := hi_ (by assumption)
  go_wp2
  go_ret
  exact ⟨by rw [← HE.out]; rfl, below_step HW.out HB5.out⟩
end Go.Proofs.YtbfjknidinkafaaGreat
