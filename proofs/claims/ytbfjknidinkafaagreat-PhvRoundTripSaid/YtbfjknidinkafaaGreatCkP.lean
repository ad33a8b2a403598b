/- Walks of package parser's checks on any program: leads, checkCase. No condition but that the program lies in memory and its numbers are of their kinds. -/
import Derived.Test.YtbfjknidinkafaaGreatCkO
namespace Go.Proofs.YtbfjknidinkafaaGreat
open Go.RowKit

set_option maxRecDepth 100000 in
theorem leads_any (p : ProgD) (s : Nat) (n : Int) (w : World) :
    Calls Tryz.prog 204 #[.agg (progCells p), .int .i64 s, .int .i64 n] w fun e w' => e = .returned (.bool (leadsM p s n)) ∧ Below w.heap.size w w' := by
  by_cases h1 : n = -1
  · subst h1
    have HR := Lib.hid (show leadsM p s (-1) = true by simp [leadsM])
    go_enter Tryz.func204, Tryz.ntmps204
    go_wp2
    go_ret
    exact ⟨by rw [HR.out]; rfl, below1 _ _⟩
  by_cases h2 : n = -2
  · subst h2
    have HR := Lib.hid (show leadsM p s (-2) = true by simp [leadsM])
    go_enter Tryz.func204, Tryz.ntmps204
    go_wp2
    go_ret
    exact ⟨by rw [HR.out]; rfl, below1 _ _⟩
  have k1 : (n == -1) = false := beq_eq_false_iff_ne.2 h1
  have k2 : (n == -2) = false := beq_eq_false_iff_ne.2 h2
  have hc : n ≤ s ∨ ((s : Int) < n ∧ n < p.states.l.length) ∨ ((s : Int) < n ∧ (p.states.l.length : Int) ≤ n) := by omega
  rcases hc with h3 | ⟨h3, h4⟩ | ⟨h3, h4⟩
  · have HR := Lib.hid (show leadsM p s n = false by simp [leadsM, h1, h2]; omega)
    clear h1 h2
    go_enter Tryz.func204, Tryz.ntmps204
    go_wp2
    go_ret
    exact ⟨by rw [HR.out]; rfl, below1 _ _⟩
  · have HR := Lib.hid (show leadsM p s n = true by simp [leadsM, h1, h2]; omega)
    clear h1 h2
    go_enter Tryz.func204, Tryz.ntmps204
    go_wp2
    go_ret
    exact ⟨by rw [HR.out]; rfl, below1 _ _⟩
  · have HR := Lib.hid (show leadsM p s n = false by simp [leadsM, h1, h2]; omega)
    clear h1 h2
    go_enter Tryz.func204, Tryz.ntmps204
    go_wp2
    go_ret
    exact ⟨ret_bool (by rw [HR.out]; exact decide_eq_false (by omega)), below1 _ _⟩

theorem pwidth_any (p : ProgD) (h f : Int) (w : World) (o : ProgOk w p) :
    Calls Tryz.prog 91 #[.agg (progCells p), .agg #[.int .i64 h, .int .i64 f]] w fun e w' => e = .returned (.int .i64 (widthAt p h f)) ∧ Below w.heap.size w w' := width_any p h f w o
theorem bv_within (x y : BitVec 32) : (x &&& ~~~y = 0#32) ↔ (x &&& y = x) := by
  constructor
  · intro h
    ext i hi
    have h2 := congrArg (fun z : BitVec 32 => z[i]) h
    simp at h2 ⊢
    exact h2
  · intro h
    ext i hi
    have h2 := congrArg (fun z : BitVec 32 => z[i]) h
    simp at h2 ⊢
    exact h2
theorem wf_u32 {a : Int} (h : (Lit.int .u32 a).wf = true) : ∃ n : Nat, a = n ∧ n < 4294967296 := by
  have e1 : IntKind.u32.min = 0 := rfl
  have e2 : IntKind.u32.max = 4294967295 := rfl
  simp only [Lit.wf, Bool.and_eq_true, decide_eq_true_eq] at h
  exact ⟨a.toNat, by omega, by omega⟩
theorem bits_and_u32 (a b : Nat) (ha : a < 4294967296) (hb : b < 4294967296) : bits .and .u32 (a : Int) (b : Int) = ((a &&& b : Nat) : Int) := by
  have hx : a &&& b < 2 ^ 32 := Nat.and_lt_two_pow _ (by omega)
  have h1 : (BitVec.ofInt 32 (a : Int)).toNat = a := by
    rw [BitVec.ofInt_natCast, BitVec.toNat_ofNat]; exact Nat.mod_eq_of_lt (by omega)
  have h2 : (BitVec.ofInt 32 (b : Int)).toNat = b := by
    rw [BitVec.ofInt_natCast, BitVec.toNat_ofNat]; exact Nat.mod_eq_of_lt (by omega)
  show IntKind.u32.wrap ((BitVec.ofInt 32 (a : Int) &&& BitVec.ofInt 32 (b : Int)).toNat : Int) = _
  rw [BitVec.toNat_and, h1, h2]
  exact IntWalk.u32_in _ (by omega)
theorem andNot_zero (a b : Nat) (ha : a < 4294967296) (hb : b < 4294967296) : (bits .andNot .u32 (a : Int) (b : Int) == 0) = within a b := by
  have h1 : (BitVec.ofInt 32 (a : Int)).toNat = a := by
    rw [BitVec.ofInt_natCast, BitVec.toNat_ofNat]; exact Nat.mod_eq_of_lt (by omega)
  have h2 : (BitVec.ofInt 32 (b : Int)).toNat = b := by
    rw [BitVec.ofInt_natCast, BitVec.toNat_ofNat]; exact Nat.mod_eq_of_lt (by omega)
  have h3 : bits .andNot .u32 (a : Int) (b : Int) = ((BitVec.ofInt 32 (a : Int) &&& ~~~ BitVec.ofInt 32 (b : Int)).toNat : Int) := by
    show IntKind.u32.wrap ((BitVec.ofInt 32 (a : Int) &&& ~~~ BitVec.ofInt 32 (b : Int)).toNat : Int) = _
    have := (BitVec.ofInt 32 (a : Int) &&& ~~~ BitVec.ofInt 32 (b : Int)).isLt
    exact IntWalk.u32_in _ (by omega)
  rw [h3, within, Bool.eq_iff_iff, beq_iff_eq, decide_eq_true_iff]
  simp only [Int.toNat_natCast]
  have h4 := bv_within (BitVec.ofInt 32 (a : Int)) (BitVec.ofInt 32 (b : Int))
  generalize BitVec.ofInt 32 (a : Int) = x at *
  generalize BitVec.ofInt 32 (b : Int) = y at *
  rw [← h1, ← h2, ← BitVec.toNat_and]
  constructor
  · intro h
    rw [h4.1 (BitVec.eq_of_toNat_eq (by simpa using h))]
  · intro h
    rw [h4.2 (BitVec.eq_of_toNat_eq h)]; rfl

@[reducible] def caseCells (c : CaseD) : Array Value := #[.int .u32 c.value, .int .u32 c.mask, .int .i64 c.next]
set_option maxRecDepth 100000 in
set_option maxHeartbeats 4000000 in
theorem checkCase_any (p : ProgD) (i : Nat) (hi : i < p.states.l.length) (c : CaseD) (w : World) (o : ProgOk w p) (hv : (Lit.int .u32 c.value).wf = true) (hm : (Lit.int .u32 c.mask).wf = true) :
    Calls Tryz.prog 203 #[.agg (progCells p), .int .i64 i, .agg (caseCells c)] w fun e w' => e = .returned (.int .i64 (caseM p i (widthAt p p.states.l[i].oh p.states.l[i].of) c)) ∧ Below w.heap.size w w' := by
  obtain ⟨cv, cm, cn⟩ := c
  have HO := Lib.hid o
  have hz : (bits BinOp.andNot IntKind.u32 cv cm == 0) = within cv cm := by
    obtain ⟨a, ea, la⟩ := wf_u32 hv
    obtain ⟨b, eb, lb⟩ := wf_u32 hm
    simp only at ea eb
    subst ea eb
    exact andNot_zero a b la lb
  clear hv hm
  obtain ⟨W, hW, hw, HB, hp⟩ := box2 w (progCells p) 31 (caseCells ⟨cv, cm, cn⟩) 245
  have HW := Lib.hid hw
  have HR := Lib.hid (caseM.eq_1 p i (widthAt p p.states.l[i].oh p.states.l[i].of) ⟨cv, cm, cn⟩)
  obtain ⟨g, of, hA, hq⟩ := StateD.atA (o.states.below hw (Nat.le_refl _)) hi
  have hn1 : (i : Int) < (p.states.l.length : Int) := by omega
  clear o hw
  generalize p.states.l[i] = s at *
  obtain ⟨sn, ⟨xl, xA, xc⟩, sel, oh, sf, ⟨cl, cA, cc⟩, df⟩ := s
  simp only at HR hq
  have HAA := Lib.hid hA
  simp only [progCells, hA] at hp hW ⊢
  clear hA
  have H0 := Lib.hid HB
  go_enter Tryz.func203, Tryz.ntmps203
  go_upto_region 1 with fail
  rw [← hW]
  clear hW HB
  go_region_held3 (fun w' => Below W.heap.size W w') (first | exact H0.out | exact below_drew H0.out | (exact below_step (by assumption) (by assumption)) | assumption)
    (first | (go_at_call 91; have hCN := pwidth_any p oh sf _ (HO.out.below (below_step HW.out (by assumption))); simp only [progCells, HAA.out] at hCN; refine hCN.mono ?_; clear hCN; rintro e w1 ⟨rfl, hb1⟩))
  have HB5 : Hid (Below W.heap.size W _) := Lib.hid (by assumption)
  have HB := HB5.out
  clear hq HB5
  go_wp2_with fail
  refine (fits_any cv (widthAt p oh sf) _).mono ?_
  rintro e w2 ⟨rfl, hbN⟩
  replace HB := below_step (by first | exact HB | exact below_alloc HB _ | exact below_alloc (below_alloc HB _) _ | exact below_alloc (below_alloc (below_alloc HB _) _) _) hbN
  clear hbN
  cases h1 : fitsM cv (widthAt p oh sf)
  · replace HR := Lib.hid (HR.out.trans (if_pos (.inl h1)))
    go_wp2
    go_ret
    exact ⟨by rw [HR.out]; rfl, below_step HW.out HB⟩
  go_wp2_with fail
  refine (fits_any cm (widthAt p oh sf) _).mono ?_
  rintro e w3 ⟨rfl, hbN⟩
  replace HB := below_step (by first | exact HB | exact below_alloc HB _ | exact below_alloc (below_alloc HB _) _ | exact below_alloc (below_alloc (below_alloc HB _) _) _) hbN
  clear hbN
  cases h2 : fitsM cm (widthAt p oh sf)
  · replace HR := Lib.hid (HR.out.trans (if_pos (.inr h2)))
    go_wp2
    go_ret
    exact ⟨by rw [HR.out]; rfl, below_step HW.out HB⟩
  replace HR := Lib.hid (HR.out.trans (if_neg (by rw [h1, h2]; simp)))
  cases h3 : within cv cm
  · replace HR := Lib.hid (HR.out.trans (if_pos h3))
    rw [h3] at hz
    have hz2 : (bits BinOp.andNot IntKind.u32 cv cm != 0) = true := by rw [bne, hz]; rfl
    go_wp2
    go_ret
    exact ⟨by rw [HR.out]; rfl, below_step HW.out HB⟩
  replace HR := Lib.hid (HR.out.trans (if_neg (by rw [h3]; simp)))
  rw [h3] at hz
  have hz2 : (bits BinOp.andNot IntKind.u32 cv cm != 0) = false := by rw [bne, hz]; rfl
  go_wp2_with fail
  have hCN := leads_any p i cn w3
  simp only [progCells, HAA.out] at hCN
  refine hCN.mono ?_
  clear hCN
  rintro e w4 ⟨rfl, hbN⟩
  replace HB := below_step (by first | exact HB | exact below_alloc HB _ | exact below_alloc (below_alloc HB _) _ | exact below_alloc (below_alloc (below_alloc HB _) _) _) hbN
  clear hbN
  cases h4 : leadsM p i cn
  · replace HR := Lib.hid (HR.out.trans (if_pos h4))
    go_wp2
    go_ret
    exact ⟨by rw [HR.out]; rfl, below_step HW.out HB⟩
  · replace HR := Lib.hid (HR.out.trans (if_neg (by rw [h4]; simp)))
    go_wp2
    go_ret
    exact ⟨by rw [HR.out]; rfl, below_step HW.out HB⟩
end Go.Proofs.YtbfjknidinkafaaGreat

