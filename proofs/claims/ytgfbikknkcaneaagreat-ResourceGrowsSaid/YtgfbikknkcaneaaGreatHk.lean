/- The cost of a table as plain functions, and what a valid program's tables are like: no code in sight; the walks of package table's valid, Kind, Widths, Bits at a valid program. The walks of package table's Widths and Bits at a valid program. No condition but that the program lies in memory and its numbers are of their kinds. The walks of package resource's argumentBits, TableCost, UnitCost on any program. No condition but that the program lies in memory and its numbers are of their kinds. The walks of package resource's TableCost and UnitCost on any program. No condition but that the program lies in memory and its numbers are of their kinds. The walks of the reference's Kind, Widths, Bits of a table and of an action's argument bits, at a valid program. No condition but that the program lies in memory and its numbers are of their kinds. The walks of the reference's TableCost and of both UnitCosts on any program. No condition but that the program lies in memory and its numbers are of their kinds. -/
import Derived.Test.YtgfbikknkcaneaaGreatHb
import Derived.Test.YtgfbikknkcaneaaGreatHj
import Derived.Deep.RegionHeld3
import Derived.Deep.AppendLies
namespace Go.Proofs.YtgfbikknkcaneaaGreat
open Go.RowKit

/-- the match kind of a table -/
def kindT (l : List KeyD) : Int := if l.any (fun k => decide (k.kind = 3)) = true then 3 else if l.any (fun k => decide (k.kind = 2)) = true then 2 else 1
/-- the argument bits of action a -/
def argOf (p : ProgD) (a : Int) : Int := match p.actions.l[a.toNat]? with
  | some x => widthSum x.params.l
  | none => 0
/-- the most argument bits of some actions -/
def argsT (p : ProgD) (l : List Int) : Int := l.foldl (fun m a => max m (argOf p a)) 0
/-- the blocks that a table takes -/
def costT (p : ProgD) (t : TabD) : Nat × Nat :=
  if kindT t.keys.l = 1 then (ceilDiv (t.size.toNat * ((bitsM p t.keys.l).toNat + (8 + (argsT p t.acts.l).toNat))) 4096, 0)
  else (ceilDiv (t.size.toNat * (8 + (argsT p t.acts.l).toNat)) 4096, ceilDiv (t.size.toNat * (bitsM p t.keys.l).toNat) 2048)
/-- TableCost, whatever the program and the index -/
def costP (p : ProgD) (t : Int) : Nat × Nat :=
  if checkM p ≠ none ∨ t < 0 then (0, 0) else match p.tables.l[t.toNat]? with
  | some x => if x.keys.l.length = 0 then (0, 0) else costT p x
  | none => (0, 0)
/-- a table that passes its check, in a program whose actions pass theirs -/
structure TabFine (p : ProgD) (t : TabD) : Prop where
  ok : (tabM p t).2 = 0
  size : 1 ≤ t.size ∧ t.size ≤ 256
  keys : t.keys.l.length ≤ 6
  acts : t.acts.l.length ≤ 16
  kinds : ∀ k ∈ t.keys.l, k.kind = 1 ∨ k.kind = 2 ∨ k.kind = 3
  bits : 0 ≤ bitsM p t.keys.l ∧ bitsM p t.keys.l ≤ 64
  mem : ∀ a ∈ t.acts.l, 0 ≤ a ∧ a < (p.actions.l.length : Int)
/-- parameters few and of proper widths -/
def ParFine (p : ProgD) : Prop := ∀ a ∈ p.actions.l, a.params.l.length ≤ 4 ∧ ∀ f ∈ a.params.l, 1 ≤ f.width ∧ f.width ≤ 32
theorem orE_none {α : Type} {a b : Option α} (h : orE a b = none) : a = none ∧ b = none := by
  cases a
  · exact ⟨rfl, h⟩
  · cases h
theorem check_parts {p : ProgD} (h : checkM p = none) : actsM p = none ∧ tabsM p = none := by
  unfold checkM at h
  have h1 := (orE_none h).2
  have h2 := (orE_none h1).2
  have h3 := (orE_none h2).2
  have h4 := (orE_none h3).2
  have h5 := orE_none h4
  exact ⟨h5.1, (orE_none h5.2).1⟩
theorem par_fine {p : ProgD} (h : checkM p = none) : ParFine p := by
  intro a ha
  obtain ⟨k, hk, rfl⟩ := List.mem_iff_getElem.1 ha
  have h1 := firstE_inv (check_parts h).1 k hk
  rw [actAtM_at p k hk] at h1
  by_cases h2 : (actM p p.actions.l[k]).2 ≠ 0
  · rw [if_pos h2] at h1; cases h1
  · generalize p.actions.l[k] = a at *
    rw [actM_eq] at h2
    by_cases h3 : declarM a ≠ 0
    · rw [if_pos h3] at h2; exact absurd h3 h2
    · have h4 : declarM a = 0 := Classical.byContradiction h3
      rw [declarM_eq] at h4
      split at h4
      · cases h4
      split at h4
      · cases h4
      rename_i _ h5
      refine ⟨by omega, fun f hf => ?_⟩
      obtain ⟨j, hj, rfl⟩ := List.mem_iff_getElem.1 hf
      have h6 : firstE a.params.l.length (fldM a.params.l) = none := by
        rcases hfe : firstE a.params.l.length (fldM a.params.l) with _ | e
        · rfl
        · exfalso
          have h7 : fldsM a.params.l = e := by rw [fldsM, hfe]
          rw [h7] at h4
          subst h4
          obtain ⟨i, hi, h8, _⟩ := firstE_ex hfe
          rw [fldM_at _ i hi] at h8
          split at h8
          · cases h8
          split at h8
          · cases h8
          split at h8
          · cases h8
          · cases h8
      have h7 := firstE_inv h6 j hj
      rw [fldM_at _ j hj] at h7
      split at h7
      · cases h7
      split at h7
      · cases h7
      rename_i _ h8
      have h9 : okW a.params.l[j].width = true := by
        cases ho : okW a.params.l[j].width
        · exact absurd ho h8
        · rfl
      have := okW_iff.1 h9
      omega
theorem tab_fine {p : ProgD} (h : checkM p = none) {k : Nat} (hk : k < p.tables.l.length) : TabFine p p.tables.l[k] := by
  have h1 := firstE_inv (check_parts h).2 k hk
  rw [tabAtM_at p k hk] at h1
  by_cases h2 : (tabM p p.tables.l[k]).2 ≠ 0
  · rw [if_pos h2] at h1; cases h1
  · have h3 : (tabM p p.tables.l[k]).2 = 0 := Classical.byContradiction h2
    generalize p.tables.l[k] = t at *
    have hb := bitsM_le p t.keys.l
    have h4 := h3
    unfold tabM at h4
    split at h4
    · cases h4
    split at h4
    · cases h4
    rename_i _ h5
    split at h4
    · cases h4
    rename_i h6
    split at h4
    · rename_i h7
      exact absurd h4 h7
    rename_i h7
    split at h4
    · rename_i h8
      exact absurd h4 h8
    rename_i h8
    have h7' : (keysM p t.keys.l).2 = 0 := Classical.byContradiction h7
    have h8' : tactsM p t = 0 := Classical.byContradiction h8
    refine ⟨h3, by omega, by omega, by omega, fun x hx => ?_, ⟨hb.1, ?_⟩, fun a ha => ?_⟩
    · obtain ⟨j, hj, rfl⟩ := List.mem_iff_getElem.1 hx
      unfold keysM at h7'
      rcases hfe : firstE t.keys.l.length (keyAtM p t.keys.l) with _ | r
      · have h9 := firstE_inv hfe j hj
        rw [keyAtM_at p _ j hj] at h9
        split at h9
        · cases h9
        split at h9
        · cases h9
        rename_i _ h10
        exact Classical.byContradiction fun hn => h10 hn
      · exfalso
        rw [hfe] at h7'
        obtain ⟨i, hi, h9, _⟩ := firstE_ex hfe
        rw [keyAtM_at p _ i hi] at h9
        split at h9
        · cases h9; cases h7'
        split at h9
        · cases h9; cases h7'
        cases h9
    · unfold keysM at h7'
      rcases hfe : firstE t.keys.l.length (keyAtM p t.keys.l) with _ | r
      · rw [hfe] at h7'
        simp only at h7'
        split at h7'
        · cases h7'
        split at h7'
        · cases h7'
        omega
      · exfalso
        rw [hfe] at h7'
        obtain ⟨i, hi, h9, _⟩ := firstE_ex hfe
        rw [keyAtM_at p _ i hi] at h9
        split at h9
        · cases h9; cases h7'
        split at h9
        · cases h9; cases h7'
        cases h9
    · obtain ⟨j, hj, rfl⟩ := List.mem_iff_getElem.1 ha
      rw [tactsM_eq] at h8'
      rcases hfe : firstE t.acts.l.length (tactAtM p t.acts.l) with _ | e
      · have h9 := firstE_inv hfe j hj
        rw [tactAtM_at p _ j hj] at h9
        split at h9
        · cases h9
        rename_i h10
        omega
      · exfalso
        rw [hfe] at h8'
        simp only at h8'
        subst h8'
        obtain ⟨i, hi, h9, _⟩ := firstE_ex hfe
        rw [tactAtM_at p _ i hi] at h9
        split at h9
        · cases h9
        split at h9
        · cases h9
        cases h9
theorem sum_width {l : List FieldD} (h : ∀ f ∈ l, 1 ≤ f.width ∧ f.width ≤ 32) : 0 ≤ widthSum l ∧ widthSum l ≤ 32 * (l.length : Int) := by
  induction l with
  | nil => exact ⟨Int.le_refl _, Int.le_refl _⟩
  | cons x l ih =>
    have h1 := h x (List.mem_cons_self ..)
    have h2 := ih fun f hf => h f (List.mem_cons_of_mem _ hf)
    have e : widthSum (x :: l) = x.width + widthSum l := by simp [widthSum]
    rw [e, List.length_cons]
    omega
theorem arg_le {p : ProgD} (h : ParFine p) (a : Int) : 0 ≤ argOf p a ∧ argOf p a ≤ 128 := by
  unfold argOf
  rcases ha : p.actions.l[a.toNat]? with _ | x
  · exact ⟨Int.le_refl _, by decide⟩
  · have hm : x ∈ p.actions.l := List.mem_of_getElem? ha
    have h1 := h x hm
    have h2 := sum_width h1.2
    simp only
    omega
theorem argsT_snoc (p : ProgD) (l : List Int) (a : Int) : argsT p (l ++ [a]) = max (argsT p l) (argOf p a) := by
  rw [argsT, List.foldl_append]; rfl
theorem fold_max {p : ProgD} (h : ParFine p) : ∀ (l : List Int) (m : Int), 0 ≤ m → m ≤ 128 → 0 ≤ l.foldl (fun m a => max m (argOf p a)) m ∧ l.foldl (fun m a => max m (argOf p a)) m ≤ 128
  | [], m, h0, h1 => ⟨h0, h1⟩
  | a :: l, m, h0, h1 => by
    have := arg_le h a
    exact fold_max h l (max m (argOf p a)) (by omega) (by omega)
theorem argsT_le {p : ProgD} (h : ParFine p) (l : List Int) : 0 ≤ argsT p l ∧ argsT p l ≤ 128 := fold_max h l 0 (by decide) (by decide)

set_option maxRecDepth 100000 in
set_option maxHeartbeats 4000000 in
theorem tvalid_any (p : ProgD) (i : Nat) (hi : i < p.tables.l.length) (w : World) (o : ProgOk w p) (hc : ∀ t ∈ p.tables.l, (Lit.int .i64 t.defA).wf = true) (hv : (tabM p p.tables.l[i]).2 = 0) :
    Calls Tryz.prog 96 #[.agg (progCells p), .int .i64 i] w fun e w' => e = .returned (.bool true) ∧ Below w.heap.size w w' := by
  have HO := Lib.hid o
  have HC := Lib.hid hc
  obtain ⟨W, hW, hw, HB, hp⟩ := box1 w (progCells p) 31
  have HW := Lib.hid hw
  have HT := Lib.hid (fun u (hb : Below W.heap.size W u) => tableCheck_any p i hi u (HO.out.below (below_step HW.out hb)) HC.out)
  clear o hw hc
  rw [hv] at HT
  clear hv
  go_enter Tryz.func96, Tryz.ntmps96
  go_upto_region 1 with fail
  rw [← hW]
  clear hW
  have hp3 := hp W HB
  go_wp2_with fail
  refine (HT.out _ (by first | exact HB | exact below_alloc HB _ | exact below_alloc (below_alloc HB _) _ | exact below_alloc (below_alloc (below_alloc HB _) _) _)).mono ?_
  rintro e w1 ⟨rfl, hbN⟩
  replace HB := below_step (by first | exact HB | exact below_alloc HB _ | exact below_alloc (below_alloc HB _) _ | exact below_alloc (below_alloc (below_alloc HB _) _) _) hbN
  clear hbN
  go_wp2
  go_ret
  exact ⟨rfl, below_step HW.out HB⟩
set_option maxRecDepth 100000 in
set_option maxHeartbeats 8000000 in
theorem tkind_any (p : ProgD) (i : Nat) (hi : i < p.tables.l.length) (w : World) (o : ProgOk w p) (hc : ∀ t ∈ p.tables.l, (Lit.int .i64 t.defA).wf = true) (hf : TabFine p p.tables.l[i]) :
    Calls Tryz.prog 37 #[.agg (progCells p), .int .i64 i] w fun e w' => e = .returned (.int .i64 (kindT p.tables.l[i].keys.l)) ∧ Below w.heap.size w w' := by
  have HO := Lib.hid o
  obtain ⟨W, hW, hw, HB, hp⟩ := box1 w (progCells p) 31
  have HW := Lib.hid hw
  have hvl := fun u (hb : Below W.heap.size W u) => tvalid_any p i hi u (o.below (below_step hw hb)) hc hf.ok
  have HK := Lib.hid ((o.tab _ (List.getElem_mem hi)).below hw).keys
  have HKd := Lib.hid hf.kinds
  obtain ⟨g, of, hA, hq⟩ := TabD.atA (o.tables.below hw (Nat.le_refl _)) hi
  have hn1 : (i : Int) < (p.tables.l.length : Int) := by omega
  clear o hw hc hf
  generalize p.tables.l[i] = t at *
  obtain ⟨tn, ⟨kl, kA, kc⟩, ta, td, tg, tz⟩ := t
  simp only at hq HK HKd ⊢
  have HR := Lib.hid (kindT.eq_1 kl)
  simp only [progCells, hA] at hp hW hvl ⊢
  have HVl := Lib.hid hvl
  have hmk : kl.length ≤ 9223372036854775807 := HK.out.1
  clear hA hvl
  go_enter Tryz.func37, Tryz.ntmps37
  go_upto_region 1 with fail
  rw [← hW]
  clear hW
  have hp3 := hp W HB
  go_wp2_with fail
  refine (HVl.out _ (by first | exact HB | exact below_alloc HB _ | exact below_alloc (below_alloc HB _) _ | exact below_alloc (below_alloc (below_alloc HB _) _) _)).mono ?_
  rintro e w1 ⟨rfl, hbN⟩
  replace HB := below_step (by first | exact HB | exact below_alloc HB _ | exact below_alloc (below_alloc HB _) _ | exact below_alloc (below_alloc (below_alloc HB _) _) _) hbN
  clear hbN
  clear hp3
  have hp3 := hp _ HB
  have hq3 := hq _ HB
  have HB1 := Lib.hid HB
  go_wp2
  clear HB hp3 hq3
  go_loopw [5, 7, 19] (fun bv _ iv wr => ∃ (k : Nat) (z : Int), k ≤ kl.length ∧ iv = .int .i64 k ∧ Hid (∀ j (hj : j < kl.length), j < k → kl[j].kind ≠ 3) ∧ bv = .int .i64 z ∧ Hid (z = if (kl.take k).any (fun k => decide (k.kind = 2)) = true then 2 else 1) ∧ Below W.heap.size W wr) (fun _ _ i _ => kl.length - (intOf i).toNat)
  case atStart => exact ⟨0, 1, Nat.zero_le _, rfl, Lib.hid (fun j _ h => absurd h (Nat.not_lt_zero _)), rfl, Lib.hid rfl, HB1.out⟩
  case round =>
    obtain ⟨k, z, hk, rfl, HN, rfl, HZv, HB⟩ := hrel
    by_cases hlt : k < kl.length
    · obtain ⟨g2, of2, hA2, d0, d1, d2⟩ := KeyD.at (HK.out.below HB (Nat.le_refl _)) hlt
      have HKk := Lib.hid (HKd.out _ (List.getElem_mem hlt))
      have HY : Hid (kl[k].kind = 3 → kindT kl = 3) := Lib.hid (fun e => HR.out.trans (if_pos (any_yes hlt (decide_eq_true e))))
      have HZ : Hid (kl[k].kind ≠ 3 → ∀ j (hj : j < kl.length), j < k + 1 → kl[j].kind ≠ 3) := Lib.hid (fun hne => pre_ne (f := fun _ (a : KeyD) => a.kind ≠ 3) HN.out hne)
      have HT : Hid ((kl.take (k + 1)).any (fun k => decide (k.kind = 2)) = ((kl.take k).any (fun k => decide (k.kind = 2)) || decide (kl[k].kind = 2))) := Lib.hid (by
        rw [take_snoc kl k hlt, List.any_append]; simp)
      simp only at hA2 d0 d1 d2
      subst hA2
      generalize kl[k] = y at *
      obtain ⟨yh, yf, yk⟩ := y
      simp only at d0 d1 d2 HKk HY HZ HT
      generalize (kl.take k).any (fun k => decide (k.kind = 2)) = bk at *
      rcases HKk.out with rfl | rfl | rfl
      · have HZ2 := Lib.hid (HZ.out (by decide))
        have HZ3 : Hid (z = if (kl.take (k + 1)).any (fun k => decide (k.kind = 2)) = true then 2 else 1) := Lib.hid (by rw [HZv.out, HT.out]; simp)
        clear HT HZv
        go_wp2
        go_roundw
        case rel => exact ⟨k + 1, z, by omega, by go_num, HZ2, rfl, HZ3, below_alloc HB _⟩
        case measure => simp [intOf]; omega
      · have HZ2 := Lib.hid (HZ.out (by decide))
        have HZ3 : Hid ((2 : Int) = if (kl.take (k + 1)).any (fun k => decide (k.kind = 2)) = true then 2 else 1) := Lib.hid (by rw [HT.out]; simp)
        clear HT HZv
        go_wp2
        go_roundw
        case rel => exact ⟨k + 1, 2, by omega, by go_num, HZ2, rfl, HZ3, below_alloc HB _⟩
        case measure => simp [intOf]; omega
      · have HY2 := Lib.hid (HY.out rfl)
        go_wp2
        go_ret
        exact ⟨by rw [HY2.out]; rfl, below_step HW.out (below_alloc HB _)⟩
    · have e : k = kl.length := by omega
      have HR2 : Hid (kindT kl = z) := Lib.hid (by
        have h := HZv.out
        rw [e, List.take_length] at h
        rw [h]
        exact HR.out.trans (if_neg (by rw [any_no (f := fun k : KeyD => decide (k.kind = 3)) (fun j hj => decide_eq_false (HN.out j hj (by omega)))]; simp)))
      go_wp2
      go_ret
      exact ⟨by rw [HR2.out]; rfl, below_step HW.out HB⟩

end Go.Proofs.YtgfbikknkcaneaaGreat
namespace Go.Proofs.YtgfbikknkcaneaaGreat
open Go.RowKit

/-- the widths of keys -/
def wcell (p : ProgD) (k : KeyD) : Value := .int .i64 (widthAt p k.h k.f)
set_option maxRecDepth 100000 in
set_option maxHeartbeats 8000000 in
theorem twidths_any (p : ProgD) (i : Nat) (hi : i < p.tables.l.length) (w : World) (o : ProgOk w p) (hc : ∀ t ∈ p.tables.l, (Lit.int .i64 t.defA).wf = true) (hf : TabFine p p.tables.l[i]) :
    Calls Tryz.prog 95 #[.agg (progCells p), .int .i64 i] w fun e w' => ∃ A c, e = .returned (.slice A p.tables.l[i].keys.l.length c) ∧ w'.ownsRow w.heap.size 3 1 (.slice A p.tables.l[i].keys.l.length c) p.tables.l[i].keys.l.length (p.tables.l[i].keys.l.map (wcell p)) ∧ Below w.heap.size w w' := by
  have HO := Lib.hid o
  obtain ⟨W, hW, hw, HB, hp⟩ := box1 w (progCells p) 31
  have HW := Lib.hid hw
  have hvl := fun u (hb : Below W.heap.size W u) => tvalid_any p i hi u (o.below (below_step hw hb)) hc hf.ok
  have hwd := fun h f u (hb : Below W.heap.size W u) => pwidth_any p h f u (o.below (below_step hw hb))
  have HK := Lib.hid ((o.tab _ (List.getElem_mem hi)).below hw).keys
  obtain ⟨g, of, hA, hq⟩ := TabD.atA (o.tables.below hw (Nat.le_refl _)) hi
  have hn1 : (i : Int) < (p.tables.l.length : Int) := by omega
  have h6 := hf.keys
  clear o hw hc hf
  generalize p.tables.l[i] = t at *
  obtain ⟨tn, ⟨kl, kA, kc⟩, ta, td, tg, tz⟩ := t
  simp only at hq HK h6 ⊢
  simp only [progCells, hA] at hp hW hvl hwd ⊢
  have HVl := Lib.hid hvl
  have HWd := Lib.hid hwd
  clear hA hvl hwd
  obtain ⟨i0, hi, hz0, hz1, hz2⟩ := info_parts Tryz.infoInt
  go_enter Tryz.func95, Tryz.ntmps95
  go_upto_region 1 with fail
  rw [← hW]
  clear hW
  have hp3 := hp W HB
  go_wp2_with fail
  refine (HVl.out _ (by first | exact HB | exact below_alloc HB _ | exact below_alloc (below_alloc HB _) _ | exact below_alloc (below_alloc (below_alloc HB _) _) _)).mono ?_
  rintro e w1 ⟨rfl, hbN⟩
  replace HB := below_step (by first | exact HB | exact below_alloc HB _ | exact below_alloc (below_alloc HB _) _ | exact below_alloc (below_alloc (below_alloc HB _) _) _) hbN
  clear hbN
  clear hp3
  have hp3 := hp _ HB
  have hq3 := hq _ HB
  have HB1 := Lib.hid HB
  go_wp2
  clear HB hp3 hq3
  go_loopw [5, 7, 19] (fun ov _ iv wr => ∃ (k : Nat) (A : Option Addr) (c : Nat), k ≤ kl.length ∧ iv = .int .i64 k ∧ ov = .slice A k c ∧ Hid (wr.ownsRow W.heap.size 3 1 (.slice A k c) k ((kl.take k).map (wcell p))) ∧ Below W.heap.size W wr)
    (fun _ _ i _ => kl.length - (intOf i).toNat)
  case atStart => exact ⟨0, none, 0, Nat.zero_le _, rfl, rfl, Lib.hid (World.ownsRow_nil _ _ _ _), HB1.out⟩
  case round =>
    obtain ⟨k, A, c, hk, rfl, rfl, HOw, HB⟩ := hrel
    by_cases hlt : k < kl.length
    · obtain ⟨g2, of2, hA2, d0, d1, d2⟩ := KeyD.at (HK.out.below HB (Nat.le_refl _)) hlt
      have HT : Hid ((kl.take (k + 1)).map (wcell p) = (kl.take k).map (wcell p) ++ [.int .i64 (widthAt p kl[k].h kl[k].f)]) := Lib.hid (by rw [take_snoc kl k hlt, List.map_append]; rfl)
      simp only at hA2 d0 d1 d2
      subst hA2
      generalize kl[k] = y at *
      obtain ⟨yh, yf, yk⟩ := y
      simp only at d0 d1 d2 HT
      have hp1 := hp wr HB
      have hca := @World.cell?_alloc_some
      have HBE := Lib.hid HB
      clear HB
      go_wp2_with fail
      refine (HWd.out yh yf _ (below_alloc HBE.out _)).mono ?_
      clear d0 d1 d2 hp1 hca
      rintro e w2 ⟨rfl, hb2⟩
      have hbel2 := below_step (below_alloc HBE.out _) hb2
      have hown2 := own_below HOw.out (below_step (below1 wr _) hb2)
      have hw2 := hbel2.size
      generalize widthAt p yh yf = wd at *
      clear hb2
      go_wp2_with (first
        | (at_builtin; refine wpList_append_own _ rfl _ _ 29 rfl W.heap.size 3 i0 _ 1 8 Tryz.underlying29 hi hz0 hz1 hz2 rfl (by decide) _ _ _ rfl (hown2.alloc _) ⟨w2.heap.size, 0, none⟩ 1 1 [.int .i64 wd] rfl rfl ?c1 ?c2 ?c3 ?c4 ?c5 ?_))
      case c1 => exact one_intw _ _ _
      case c2 => intro u hu; simp at hu; subst hu; rfl
      case c3 => unfold maxLen; omega
      case c4 => omega
      case c5 => simp; omega
      intro v' w3 hown3 hgrow _
      have hbw : Below W.heap.size W w3 := (below_alloc hbel2 _).grown hgrow (below_alloc hbel2 _).size fun j hj => (hown2.lt j hj).1
      obtain ⟨A', c', rfl⟩ := row_slice hown3
      have HO3 : Hid (w3.ownsRow W.heap.size 3 1 (.slice A' (k + 1) c') (k + 1) ((kl.take (k + 1)).map (wcell p))) := Lib.hid (by rw [HT.out, List.map_take]; exact hown3)
      clear hown3 hgrow hown2 HOw HT
      go_wp2
      go_roundw
      case rel => exact ⟨k + 1, A', c', by omega, by go_num, rfl, HO3, hbw⟩
      case measure => simp [intOf]; omega
    · have e : k = kl.length := by omega
      have HO1 : Hid (wr.ownsRow W.heap.size 3 1 (.slice A kl.length c) kl.length (kl.map (wcell p))) := Lib.hid (by have := HOw.out; rwa [e, List.take_length] at this)
      clear HOw
      subst e
      go_wp2
      go_ret
      exact ⟨A, c, rfl, own_weaken HW.out.size HO1.out, below_step HW.out HB⟩

set_option maxRecDepth 100000 in
set_option maxHeartbeats 8000000 in
theorem tbits_any (p : ProgD) (i : Nat) (hi : i < p.tables.l.length) (w : World) (o : ProgOk w p) (hc : ∀ t ∈ p.tables.l, (Lit.int .i64 t.defA).wf = true) (hf : TabFine p p.tables.l[i]) :
    Calls Tryz.prog 35 #[.agg (progCells p), .int .i64 i] w fun e w' => e = .returned (.int .i64 (bitsM p p.tables.l[i].keys.l)) ∧ Below w.heap.size w w' := by
  obtain ⟨W, hW, hw, HB, hp⟩ := box1 w (progCells p) 31
  have HW := Lib.hid hw
  have HWs := Lib.hid (fun u (hb : Below W.heap.size W u) => twidths_any p i hi u (o.below (below_step hw hb)) hc hf)
  have h6 := hf.keys
  clear o hw hc hf
  generalize p.tables.l[i].keys.l = kl at *
  have HBl := Lib.hid (bitsM_le p)
  have HBs := Lib.hid (bitsM_snoc p)
  go_enter Tryz.func35, Tryz.ntmps35
  go_upto_region 1 with fail
  rw [← hW]
  clear hW
  have hp3 := hp W HB
  go_wp2_with fail
  refine (HWs.out _ HB).mono ?_
  rintro e w1 ⟨A, c, rfl, hown, hbN⟩
  have HW1 := Lib.hid hown
  have HB1 := Lib.hid (below_step HB hbN)
  clear hown hbN hp3 hp HB
  go_wp2
  go_loopw [5, 7, 12] (fun bv _ iv wr => ∃ k : Nat, k ≤ kl.length ∧ iv = .int .i64 k ∧ bv = .int .i64 (bitsM p (kl.take k)) ∧ wr = w1) (fun _ _ i _ => kl.length - (intOf i).toNat)
  case atStart => exact ⟨0, Nat.zero_le _, rfl, rfl, rfl⟩
  case round =>
    obtain ⟨k, hk, rfl, rfl, rfl⟩ := hrel
    by_cases hlt : k < kl.length
    · obtain ⟨g, cap, hv, _, _⟩ := HW1.out.form (by omega : 0 < kl.length)
      have hA : A = some ⟨g, 0, none⟩ := by injection hv
      subst hA
      have hcl := HW1.out.cellAt k (by omega)
      rw [List.getElem?_map, List.getElem?_eq_getElem hlt] at hcl
      simp only [Option.map_some, wcell] at hcl
      have HS := Lib.hid (HBs.out (kl.take k) kl[k])
      rw [← take_snoc kl k hlt] at HS
      have b1 := HBl.out (kl.take k)
      rw [List.length_take] at b1
      obtain ⟨b2, b3⟩ := b1
      have hwl := widthAt_le p kl[k].h kl[k].f
      obtain ⟨w2, w3⟩ := hwl
      generalize widthAt p kl[k].h kl[k].f = wd at *
      generalize bitsM p (kl.take k) = bm at *
      have hwr : IntKind.i64.wrap (bm + wd) = bm + wd := IntWalk.i64_in _ (by omega)
      clear hv
      go_wp2
      go_roundw
      case rel => exact ⟨k + 1, by omega, by go_num, by rw [HS.out], by trivial⟩
      case measure => simp [intOf]; omega
    · have e : k = kl.length := by omega
      rw [show kl.take k = kl by rw [e, List.take_length]]
      go_wp2
      go_ret
      exact ⟨rfl, below_step HW.out HB1.out⟩
end Go.Proofs.YtgfbikknkcaneaaGreat
namespace Go.Proofs.YtgfbikknkcaneaaGreat
open Go.RowKit

theorem wsum_snoc (l : List FieldD) (x : FieldD) : widthSum (l ++ [x]) = widthSum l + x.width := by simp [widthSum, List.sum_append]
set_option maxRecDepth 100000 in
set_option maxHeartbeats 16000000 in
theorem argBits_any (p : ProgD) (t : TabD) (w : World) (o : ProgOk w p) (ot : TabOk w t) (hf : TabFine p t) (hpf : ParFine p) :
    Calls Tryz.prog 36 #[.agg (progCells p), .agg (tabCells t)] w fun e w' => e = .returned (.int .i64 (argsT p t.acts.l)) ∧ Below w.heap.size w w' := by
  obtain ⟨tn, tk, ⟨al, aA, ac⟩, td, tg, tz⟩ := t
  have HO := Lib.hid o
  have HK := Lib.hid ot.acts
  have HMem := Lib.hid hf.mem
  have HPF := Lib.hid hpf
  have h16 := hf.acts
  simp only at HK HMem h16
  have HLe := Lib.hid (argsT_le hpf)
  have HSn := Lib.hid (argsT_snoc p)
  obtain ⟨W, hW, hw, HB, hp⟩ := box2 w (progCells p) 31 (tabCells ⟨tn, tk, ⟨al, aA, ac⟩, td, tg, tz⟩) 52
  have HW := Lib.hid hw
  have HW0 := Lib.hid HB
  clear o ot hf hpf hw
  go_enter Tryz.func36, Tryz.ntmps36
  go_upto_region 1 with fail
  rw [← hW]
  clear hW
  have hp3 := hp W HB
  go_wp2
  go_step3
  go_wp2
  go_step3
  go_wp2
  clear HB hp3
  go_loopw [5, 7, 8, 9, 10, 14] (fun mv _ _ _ _ iv wr => ∃ k : Nat, k ≤ al.length ∧ iv = .int .i64 k ∧ mv = .int .i64 (argsT p (al.take k)) ∧ Below W.heap.size W wr) (fun _ _ _ _ _ i _ => al.length - (intOf i).toNat)
  case atStart => exact ⟨0, Nat.zero_le _, rfl, rfl, HW0.out⟩
  case round =>
  obtain ⟨k, hk, rfl, rfl, HB⟩ := hrel
  have hp3 := hp wr HB
  by_cases hlt : k < al.length
  case neg =>
    have e : k = al.length := by omega
    rw [show al.take k = al by rw [e, List.take_length]]
    go_wp2
    try rw [Exit.noGoto_ret]
    go_ret
    exact ⟨rfl, below_step HW.out HB⟩
  obtain ⟨g, of, hA, d0⟩ := icell_at (HK.out.below (below_step HW.out HB) (Nat.le_refl _)) hlt
  have HM := HMem.out _ (List.getElem_mem hlt)
  have HS := Lib.hid (HSn.out (al.take k) al[k])
  rw [← take_snoc al k hlt] at HS
  simp only at hA d0
  subst hA
  have b1 := HLe.out (al.take k)
  generalize al[k] = a at *
  obtain ⟨j, rfl⟩ : ∃ j : Nat, a = j := ⟨a.toNat, by omega⟩
  have hj : j < p.actions.l.length := by omega
  have hj1 : (j : Int) < (p.actions.l.length : Int) := by omega
  obtain ⟨g2, of2, hA2, hact⟩ := ActD.atA (HO.out.actions.below (below_step HW.out HB) (Nat.le_refl _)) hj
  have HPm := Lib.hid ((HO.out.act _ (List.getElem_mem hj)).below (below_step HW.out HB)).params
  have HPf := Lib.hid (HPF.out _ (List.getElem_mem hj))
  have HAo : Hid (argOf p (j : Int) = widthSum p.actions.l[j].params.l) := Lib.hid (by rw [argOf, Int.toNat_natCast, List.getElem?_eq_getElem hj])
  have HAA := Lib.hid hA2
  generalize p.actions.l[j] = x at *
  obtain ⟨xn, ⟨pl, pA, pc⟩, xb⟩ := x
  simp only at hact HPm HPf HAo
  generalize argsT p (al.take k) = m at *
  have hp4 := fun w' (h : Below W.heap.size W w') => hp w' h
  simp only [progCells, HAA.out] at hp3
  obtain ⟨b11, b12⟩ := b1
  obtain ⟨a0, a1, a2⟩ := hact wr (Below.refl _ _)
  have HBr := Lib.hid HB
  have hml : pl.length ≤ 4 := HPf.out.1
  clear hA2 HM HB hp4
  go_wp2
  clear hp3 a0 a1 a2
  go_loopw [9, 10, 35] (fun nv _ iv u => ∃ q : Nat, q ≤ pl.length ∧ iv = .int .i64 q ∧ nv = .int .i64 (widthSum (pl.take q)) ∧ Below wr.heap.size wr u) (fun _ _ i _ => pl.length - (intOf i).toNat)
  case atStart => exact ⟨0, Nat.zero_le _, rfl, rfl, Below.refl _ _⟩
  case round =>
  obtain ⟨q, hq, rfl, rfl, HB⟩ := hrel
  by_cases hlq : q < pl.length
  · obtain ⟨g3, of3, hA3, f0, f1⟩ := FieldD.at (HPm.out.below HB (Nat.le_refl _)) hlq
    have HT : Hid (widthSum (pl.take (q + 1)) = widthSum (pl.take q) + pl[q].width) := Lib.hid (by rw [take_snoc pl q hlq, wsum_snoc])
    have HW3 := HPf.out.2 _ (List.getElem_mem hlq)
    have b5 := sum_width (l := pl.take q) (fun f hf => HPf.out.2 f (List.mem_of_mem_take hf))
    rw [List.length_take] at b5
    simp only at hA3 f0 f1
    subst hA3
    generalize pl[q] = y at *
    obtain ⟨yn, yw⟩ := y
    simp only at HT HW3 f0 f1
    generalize widthSum (pl.take q) = s at *
    obtain ⟨y1, y2⟩ := HW3
    obtain ⟨b51, b52⟩ := b5
    have hwr : IntKind.i64.wrap (s + yw) = s + yw := IntWalk.i64_in _ (by omega)
    go_wp2
    go_roundw
    case rel => exact ⟨q + 1, by omega, by go_num, by rw [HT.out], HB⟩
    case measure => simp [intOf]; omega
  · have e : q = pl.length := by omega
    rw [show pl.take q = pl by rw [e, List.take_length]]
    have b5 := sum_width HPf.out.2
    generalize widthSum pl = s at *
    have HS2 : Hid (argsT p (al.take (k + 1)) = max m s) := Lib.hid (by rw [HS.out, HAo.out])
    have HBf := below_step HBr.out HB
    by_cases hms : m < s
    · have e2 : max m s = s := by omega
      go_wp2
      go_roundw
      case rel => exact ⟨k + 1, by omega, by go_num, (by rw [HS2.out, e2]), HBf⟩
      case measure => simp [intOf]; omega
    · have e2 : max m s = m := by omega
      go_wp2
      go_roundw
      case rel => exact ⟨k + 1, by omega, by go_num, (by rw [HS2.out, e2]), HBf⟩
      case measure => simp [intOf]; omega
end Go.Proofs.YtgfbikknkcaneaaGreat
namespace Go.Proofs.YtgfbikknkcaneaaGreat
open Go.RowKit

theorem diag_code34 (a b c d : Int) (w : World) : (Instr.field 45 (.agg #[.int .i64 a, .int .i64 b, .int .i64 c, .int .i64 d]) 0).run Tryz.prog w = .ok (.int .i64 a) w := by kernel_rfl
theorem put_res {w : World} {k : Nat} {a b : Value} (h : Blk w k 39 #[a, b]) (x y : Value) : Blk ((w.setCell ⟨k, 0, none⟩ x).setCell ⟨k, 1, none⟩ y) k 39 #[x, y] := (h.set_ 0 x).set_ 1 y
theorem put2_below {w w1 : World} {B k : Nat} (hb : Below B w w1) (hk : B ≤ k) (x y : Value) : Below B w ((w1.setCell ⟨k, 0, none⟩ x).setCell ⟨k, 1, none⟩ y) := (hb.setCell hk _).setCell hk _
def resV (c : Nat × Nat) : Value := .agg #[.int .i64 (c.1 : Int), .int .i64 (c.2 : Int)]
/-- the program's box and the result's cell -/
theorem boxR (w : World) (p : ProgD) : ∃ W, W = (w.alloc (.cells (progCells p) 31)).alloc (.cells #[.int .i64 0, .int .i64 0] 39) ∧ Below w.heap.size w W ∧ Below W.heap.size W W ∧
    (∀ w', Below W.heap.size W w' → (∀ i, i < (progCells p).size → w'.cell? ⟨w.heap.size, i, none⟩ = (progCells p)[i]?) ∧ (∀ i, i < 2 → w'.cell? ⟨w.heap.size + 1, i, none⟩ = some (.int .i64 0)) ∧ (∀ i, w'.frozen? ⟨w.heap.size + 1, i, none⟩ = false)) ∧
    ∀ w', Below W.heap.size W w' → Blk w' (w.heap.size + 1) 39 #[.int .i64 0, .int .i64 0] := by
  obtain ⟨W, h1, h2, h3, _, h5⟩ := boxC w (progCells p) 31 #[.int .i64 0, .int .i64 0] 39
  refine ⟨W, h1, h2, h3, fun w' h => ⟨(h5 w' h).1, fun i hi => ?_, (h5 w' h).2.2.2.1⟩, fun w' h => (h5 w' h).2.2.2.2⟩
  rw [(h5 w' h).2.1 i hi]
  match i, hi with
  | 0, _ => rfl
  | 1, _ => rfl
theorem diag_none {p : ProgD} (h : checkM p = none) : diagM p = ⟨0, 0, 0, 0⟩ := by rw [diagM, h]; rfl
theorem check_code {p : ProgD} (h : checkM p ≠ none) : (diagM p).code ≠ 0 := by
  rcases hc : checkM p with _ | d
  · exact absurd hc h
  · have hs : ∀ {a b : Option DiagD}, (∀ x, a = some x → x.code ≠ 0) → (∀ x, b = some x → x.code ≠ 0) → ∀ x, orE a b = some x → x.code ≠ 0 := by
      intro a b ha hb x hx
      cases a
      · exact hb x hx
      · exact ha x hx
    rw [diagM, hc]
    exact hs code_lim (hs code_hdrs (hs code_meta (hs code_regs (hs code_acts (hs code_tabs code_flow))))) d hc
theorem cost_bad {p : ProgD} {t : Int} (h : checkM p ≠ none) : costP p t = (0, 0) := by rw [costP, if_pos (.inl h)]
theorem cost_neg {p : ProgD} {t : Int} (h : t < 0) : costP p t = (0, 0) := by rw [costP, if_pos (.inr h)]
theorem cost_out {p : ProgD} {t : Int} (h0 : 0 ≤ t) (h : (p.tables.l.length : Int) ≤ t) : costP p t = (0, 0) := by
  unfold costP
  split
  · rfl
  · rw [List.getElem?_eq_none (by omega)]
theorem cost_empty {p : ProgD} {i : Nat} (hi : i < p.tables.l.length) (h : p.tables.l[i].keys.l.length = 0) : costP p i = (0, 0) := by
  unfold costP
  split
  · rfl
  · rw [Int.toNat_natCast, List.getElem?_eq_getElem hi]
    simp only [h, if_true]
theorem cost_at {p : ProgD} (hc : checkM p = none) {i : Nat} (hi : i < p.tables.l.length) (h : p.tables.l[i].keys.l.length ≠ 0) : costP p i = costT p p.tables.l[i] := by
  rw [costP, if_neg (by rintro (h | h); exact h hc; omega), Int.toNat_natCast, List.getElem?_eq_getElem hi]
  simp only [h, if_false]

set_option maxRecDepth 100000 in
set_option maxHeartbeats 16000000 in
theorem tcost_any (p : ProgD) (t : Int) (w : World) (o : ProgOk w p) (hcp : ProgCap p) (hN : (presM p.control.l).length ≤ 90000) :
    Calls Tryz.prog 13 #[.agg (progCells p), .int .i64 t] w fun e w' => e = .returned (resV (costP p t)) ∧ Below w.heap.size w w' := by
  have HO := Lib.hid o
  have HCp := Lib.hid hcp
  obtain ⟨W, hW, hw, HB, hp, hQ⟩ := boxR w p
  have HW := Lib.hid hw
  have HQ := Lib.hid hQ
  have hck := fun u (hb : Below W.heap.size W u) => check_any p u (o.below (below_step hw hb)) hcp hN
  have hdc := diag_code34
  clear hQ hcp hN
  by_cases hc : checkM p = none
  case neg =>
    have HR : Hid (resV (costP p t) = .agg #[.int .i64 0, .int .i64 0]) := Lib.hid (by rw [cost_bad hc]; rfl)
    have hd := check_code hc
    generalize diagM p = d at *
    obtain ⟨c, q, i, s⟩ := d
    simp only [DiagD.val] at hck hd
    have HCk := Lib.hid hck
    have hd' : (c == 0) = false := beq_eq_false_iff_ne.2 hd
    have hd2 : (c != 0) = true := bne_iff_ne.2 hd
    clear o hw hck hd hc
    go_enter Tryz.func13, Tryz.ntmps13
    go_upto_region 1 with fail
    rw [← hW]
    clear hW
    have hp3 := hp W HB
    go_wp2_with fail
    refine (HCk.out _ (by first | exact HB | exact below_alloc HB _ | exact below_alloc (below_alloc HB _) _ | exact below_alloc (below_alloc (below_alloc HB _) _) _)).mono ?_
    rintro e w1 ⟨rfl, hbN⟩
    replace HB := below_step (by first | exact HB | exact below_alloc HB _ | exact below_alloc (below_alloc HB _) _ | exact below_alloc (below_alloc (below_alloc HB _) _) _) hbN
    clear hbN
    clear hp3
    have hp3 := hp _ HB
    go_wp2
    refine bodyPost_ret (v := .agg #[.int .i64 (0), .int .i64 (0)]) ?_ rfl ?_
    · exact results_cell_row (fn := Tryz.f13) (p := 4) (ty := 39) rfl _ _ (w.heap.size + 1) 39 #[.int .i64 (0), .int .i64 (0)] (0, 0) _ rfl (put_res (HQ.out _ HB) _ _) Tryz.underlying39 rfl (by kernel_rfl)
    · exact ⟨by first | (rw [HR.out]; done) | (rw [HR.out]; rfl), put2_below (below_step HW.out HB) (by omega) _ _⟩
  rw [diag_none hc] at hck
  simp only [DiagD.val] at hck
  have HCk := Lib.hid hck
  have HC := Lib.hid hc
  clear hck hc
  have hcase : t < 0 ∨ (0 ≤ t ∧ (p.tables.l.length : Int) ≤ t) ∨ ∃ i : Nat, t = i ∧ i < p.tables.l.length := by
    by_cases h : 0 ≤ t ∧ t < p.tables.l.length
    · exact .inr (.inr ⟨t.toNat, by omega, by omega⟩)
    · omega
  rcases hcase with h1 | ⟨h1, h2⟩ | ⟨i, rfl, hi⟩
  · have HR : Hid (resV (costP p t) = .agg #[.int .i64 0, .int .i64 0]) := Lib.hid (by rw [cost_neg h1]; rfl)
    clear o hw
    go_enter Tryz.func13, Tryz.ntmps13
    go_upto_region 1 with fail
    rw [← hW]
    clear hW
    have hp3 := hp W HB
    go_wp2_with fail
    refine (HCk.out _ (by first | exact HB | exact below_alloc HB _ | exact below_alloc (below_alloc HB _) _ | exact below_alloc (below_alloc (below_alloc HB _) _) _)).mono ?_
    rintro e w1 ⟨rfl, hbN⟩
    replace HB := below_step (by first | exact HB | exact below_alloc HB _ | exact below_alloc (below_alloc HB _) _ | exact below_alloc (below_alloc (below_alloc HB _) _) _) hbN
    clear hbN
    clear hp3
    have hp3 := hp _ HB
    go_wp2
    refine bodyPost_ret (v := .agg #[.int .i64 (0), .int .i64 (0)]) ?_ rfl ?_
    · exact results_cell_row (fn := Tryz.f13) (p := 4) (ty := 39) rfl _ _ (w.heap.size + 1) 39 #[.int .i64 (0), .int .i64 (0)] (0, 0) _ rfl (put_res (HQ.out _ HB) _ _) Tryz.underlying39 rfl (by kernel_rfl)
    · exact ⟨by first | (rw [HR.out]; done) | (rw [HR.out]; rfl), put2_below (below_step HW.out HB) (by omega) _ _⟩
  · have HR : Hid (resV (costP p t) = .agg #[.int .i64 0, .int .i64 0]) := Lib.hid (by rw [cost_out h1 h2]; rfl)
    clear o hw
    go_enter Tryz.func13, Tryz.ntmps13
    go_upto_region 1 with fail
    rw [← hW]
    clear hW
    have hp3 := hp W HB
    go_wp2_with fail
    refine (HCk.out _ (by first | exact HB | exact below_alloc HB _ | exact below_alloc (below_alloc HB _) _ | exact below_alloc (below_alloc (below_alloc HB _) _) _)).mono ?_
    rintro e w1 ⟨rfl, hbN⟩
    replace HB := below_step (by first | exact HB | exact below_alloc HB _ | exact below_alloc (below_alloc HB _) _ | exact below_alloc (below_alloc (below_alloc HB _) _) _) hbN
    clear hbN
    clear hp3
    have hp3 := hp _ HB
    go_wp2
    refine bodyPost_ret (v := .agg #[.int .i64 (0), .int .i64 (0)]) ?_ rfl ?_
    · exact results_cell_row (fn := Tryz.f13) (p := 4) (ty := 39) rfl _ _ (w.heap.size + 1) 39 #[.int .i64 (0), .int .i64 (0)] (0, 0) _ rfl (put_res (HQ.out _ HB) _ _) Tryz.underlying39 rfl (by kernel_rfl)
    · exact ⟨by first | (rw [HR.out]; done) | (rw [HR.out]; rfl), put2_below (below_step HW.out HB) (by omega) _ _⟩
  have hi1 : (i : Int) < (p.tables.l.length : Int) := by omega
  have HF := Lib.hid (tab_fine HC.out hi)
  have HPF := Lib.hid (par_fine HC.out)
  have HTo : Hid (TabOk W p.tables.l[i]) := Lib.hid ((o.tab _ (List.getElem_mem hi)).below hw)
  have hbits := fun u (hb : Below W.heap.size W u) => tbits_any p i hi u (o.below (below_step hw hb)) HCp.out.dflt HF.out
  have hkind := fun u (hb : Below W.heap.size W u) => tkind_any p i hi u (o.below (below_step hw hb)) HCp.out.dflt HF.out
  have hargs := fun u (hb : Below W.heap.size W u) => argBits_any p p.tables.l[i] u (o.below (below_step hw hb)) (HTo.out.below hb) HF.out HPF.out
  have HE := Lib.hid (cost_empty (p := p) hi)
  have HCo := Lib.hid (cost_at HC.out hi)
  have HAl := Lib.hid (argsT_le HPF.out p.tables.l[i].acts.l)
  obtain ⟨g, of, hA, hq⟩ := TabD.atA (o.tables.below hw (Nat.le_refl _)) hi
  have hbnd := HF.out.bits
  have hsize := HF.out.size
  have hk6 := HF.out.keys
  clear HF HTo o hw HC
  generalize p.tables.l[i] = x at *
  have HDt := Lib.hid (costT.eq_1 p x)
  obtain ⟨tn, ⟨kl, kA, kc⟩, ⟨al, aA, ac⟩, td, ⟨gl, gA, gc⟩, tz⟩ := x
  simp only at hq HE HCo HAl hbnd hsize HDt hk6 hbits hkind hargs
  generalize bitsM p kl = bm at *
  generalize argsT p al = am at *
  generalize kindT kl = kd at *
  obtain ⟨a1, a2⟩ := HAl.out
  obtain ⟨b1, b2⟩ := hbnd
  obtain ⟨z1, z2⟩ := hsize
  obtain ⟨bn, rfl⟩ : ∃ n : Nat, bm = n := ⟨bm.toNat, by omega⟩
  obtain ⟨an, rfl⟩ : ∃ n : Nat, am = n := ⟨am.toNat, by omega⟩
  obtain ⟨zn, rfl⟩ : ∃ n : Nat, tz = n := ⟨tz.toNat, by omega⟩
  simp only [Int.toNat_natCast] at HDt
  have HAA := Lib.hid hA
  simp only [progCells, hA] at hp hW hbits hkind hargs HCk ⊢
  have HBi := Lib.hid hbits
  have HKi := Lib.hid hkind
  have HAr := Lib.hid hargs
  clear hA hbits hkind hargs HAl
  by_cases h0 : kl.length = 0
  · have HR : Hid (resV (costP p i) = .agg #[.int .i64 0, .int .i64 0]) := Lib.hid (by rw [HE.out h0]; rfl)
    have h0' : ((kl.length : Int) == 0) = true := by rw [beq_iff_eq]; omega
    clear h0 hk6
    go_enter Tryz.func13, Tryz.ntmps13
    go_upto_region 1 with fail
    rw [← hW]
    clear hW
    have hp3 := hp W HB
    go_wp2_with fail
    refine (HCk.out _ (by first | exact HB | exact below_alloc HB _ | exact below_alloc (below_alloc HB _) _ | exact below_alloc (below_alloc (below_alloc HB _) _) _)).mono ?_
    rintro e w1 ⟨rfl, hbN⟩
    replace HB := below_step (by first | exact HB | exact below_alloc HB _ | exact below_alloc (below_alloc HB _) _ | exact below_alloc (below_alloc (below_alloc HB _) _) _) hbN
    clear hbN
    clear hp3
    have hp3 := hp _ HB
    have hq3 := hq _ HB
    go_wp2
    refine bodyPost_ret (v := .agg #[.int .i64 (0), .int .i64 (0)]) ?_ rfl ?_
    · exact results_cell_row (fn := Tryz.f13) (p := 4) (ty := 39) rfl _ _ (w.heap.size + 1) 39 #[.int .i64 (0), .int .i64 (0)] (0, 0) _ rfl (put_res (HQ.out _ HB) _ _) Tryz.underlying39 rfl (by kernel_rfl)
    · exact ⟨by first | (rw [HR.out]; done) | (rw [HR.out]; rfl), put2_below (below_step HW.out HB) (by omega) _ _⟩
  have h0' : ((kl.length : Int) == 0) = false := by rw [beq_eq_false_iff_ne]; omega
  have HR0 := Lib.hid ((HCo.out h0).trans HDt.out)
  clear h0 HE HCo HDt hk6
  go_enter Tryz.func13, Tryz.ntmps13
  go_upto_region 1 with fail
  rw [← hW]
  clear hW
  have hp3 := hp W HB
  go_wp2_with fail
  refine (HCk.out _ (by first | exact HB | exact below_alloc HB _ | exact below_alloc (below_alloc HB _) _ | exact below_alloc (below_alloc (below_alloc HB _) _) _)).mono ?_
  rintro e w1 ⟨rfl, hbN⟩
  replace HB := below_step (by first | exact HB | exact below_alloc HB _ | exact below_alloc (below_alloc HB _) _ | exact below_alloc (below_alloc (below_alloc HB _) _) _) hbN
  clear hbN
  clear hp3
  have hp3 := hp _ HB
  have hq3 := hq _ HB
  have hp4 := fun w' (h : Below w1.heap.size w1 w') => hp w' (below_step HB h)
  have hq4 := fun w' (h : Below w1.heap.size w1 w') => hq w' (below_step HB h)
  have HB4 := Lib.hid HB
  have HBi4 := Lib.hid (fun u (hb : Below w1.heap.size w1 u) => HBi.out u (below_step HB4.out hb))
  have HAr4 := Lib.hid (fun u (hb : Below w1.heap.size w1 u) => HAr.out u (below_step HB4.out hb))
  have H0 := Lib.hid (Below.refl w1.heap.size w1)
  have hwa : IntKind.i64.wrap (8 + (an : Int)) = 8 + (an : Int) := IntWalk.i64_in _ (by omega)
  clear HB hp hq
  go_upto_region 3 with fail
  clear hp3 hq3
  go_region_held3 (fun w' => Below w1.heap.size w1 w') (first | exact H0.out | exact below_drew H0.out | (exact below_step (by assumption) (by assumption)) | assumption)
    (first
    | (go_at_call 35; refine (HBi4.out _ (by assumption)).mono ?_; rintro e w2 ⟨rfl, hb1⟩)
    | (go_at_call 36; refine (HAr4.out _ (by assumption)).mono ?_; rintro e w2 ⟨rfl, hb1⟩))
  have HB5 : Hid (Below w1.heap.size w1 _) := Lib.hid (by assumption)
  have hp3 := hp4 _ HB5.out
  have HB6 := Lib.hid (below_step HB4.out HB5.out)
  go_wp2_with fail
  refine (HKi.out _ HB6.out).mono ?_
  rintro e w3 ⟨rfl, hbN⟩
  have HB := below_step HB6.out hbN
  have hp5 := hp4 _ (below_step HB5.out hbN)
  clear hbN hp3 hp4 hq4
  have hz256 : zn ≤ 256 := by omega
  have ha128 : an ≤ 128 := by omega
  have hb64 : bn ≤ 64 := by omega
  by_cases hk1 : kd = 1
  · subst hk1
    have hm2 : zn * (bn + (8 + an)) ≤ 1000000 := Nat.le_trans (Nat.mul_le_mul hz256 (show bn + (8 + an) ≤ 200 by omega)) (by decide)
    have HR : Hid (resV (costP p i) = .agg #[.int .i64 ((ceilDiv (zn * (bn + (8 + an))) 4096 : Nat) : Int), .int .i64 0]) := Lib.hid (by rw [HR0.out]; rfl)
    generalize hm : zn * (bn + (8 + an)) = m at *
    have hm3 : (zn : Int) * ((bn : Int) + (8 + (an : Int))) = (m : Int) := by rw [← hm]; simp
    have hw3 : IntKind.i64.wrap ((bn : Int) + (8 + (an : Int))) = (bn : Int) + (8 + (an : Int)) := IntWalk.i64_in _ (by omega)
    have hw4 : IntKind.i64.wrap (m : Int) = (m : Int) := IntWalk.i64_in _ (by omega)
    clear hm
    go_wp2_with fail
    refine (blocks_any m 4096 _ hm2 (by omega) (by omega)).mono ?_
    rintro e w4 ⟨rfl, rfl⟩
    rw [show (m + 4096 - 1) / 4096 = ceilDiv m 4096 from rfl]
    generalize ceilDiv m 4096 = q at *
    clear hm3 hw3 hw4
    go_wp2
    refine bodyPost_ret (v := .agg #[.int .i64 ((q : Int)), .int .i64 (0)]) ?_ rfl ?_
    · exact results_cell_row (fn := Tryz.f13) (p := 4) (ty := 39) rfl _ _ (w.heap.size + 1) 39 #[.int .i64 ((q : Int)), .int .i64 (0)] (0, 0) _ rfl (put_res (HQ.out _ HB) _ _) Tryz.underlying39 rfl (by kernel_rfl)
    · exact ⟨by first | (rw [HR.out]; done) | (rw [HR.out]; rfl), put2_below (below_step HW.out HB) (by omega) _ _⟩
  · have hk1' : (kd == 1) = false := beq_eq_false_iff_ne.2 hk1
    have hm2 : zn * (8 + an) ≤ 1000000 := Nat.le_trans (Nat.mul_le_mul hz256 (show 8 + an ≤ 200 by omega)) (by decide)
    have hn2 : zn * bn ≤ 1000000 := Nat.le_trans (Nat.mul_le_mul hz256 hb64) (by decide)
    have HR : Hid (resV (costP p i) = .agg #[.int .i64 ((ceilDiv (zn * (8 + an)) 4096 : Nat) : Int), .int .i64 ((ceilDiv (zn * bn) 2048 : Nat) : Int)]) := Lib.hid (by rw [HR0.out, if_neg hk1]; rfl)
    generalize hm : zn * (8 + an) = m at *
    generalize hn : zn * bn = n at *
    have hm3 : (zn : Int) * (8 + (an : Int)) = (m : Int) := by rw [← hm]; simp
    have hn3 : (zn : Int) * (bn : Int) = (n : Int) := by rw [← hn]; simp
    have hw4 : IntKind.i64.wrap (m : Int) = (m : Int) := IntWalk.i64_in _ (by omega)
    have hw5 : IntKind.i64.wrap (n : Int) = (n : Int) := IntWalk.i64_in _ (by omega)
    clear hm hn
    go_wp2_with fail
    refine (blocks_any m 4096 _ hm2 (by omega) (by omega)).mono ?_
    rintro e w4 ⟨rfl, rfl⟩
    rw [show (m + 4096 - 1) / 4096 = ceilDiv m 4096 from rfl]
    generalize ceilDiv m 4096 = q at *
    clear hm3 hw4
    go_wp2_with fail
    refine (blocks_any n 2048 _ hn2 (by omega) (by omega)).mono ?_
    rintro e w4 ⟨rfl, rfl⟩
    rw [show (n + 2048 - 1) / 2048 = ceilDiv n 2048 from rfl]
    generalize ceilDiv n 2048 = r at *
    clear hn3 hw5
    go_wp2
    refine bodyPost_ret (v := .agg #[.int .i64 ((q : Int)), .int .i64 ((r : Int))]) ?_ rfl ?_
    · exact results_cell_row (fn := Tryz.f13) (p := 4) (ty := 39) rfl _ _ (w.heap.size + 1) 39 #[.int .i64 ((q : Int)), .int .i64 ((r : Int))] (0, 0) _ rfl (put_res (HQ.out _ HB) _ _) Tryz.underlying39 rfl (by kernel_rfl)
    · exact ⟨by first | (rw [HR.out]; done) | (rw [HR.out]; rfl), put2_below (below_step HW.out HB) (by omega) _ _⟩
end Go.Proofs.YtgfbikknkcaneaaGreat
namespace Go.Proofs.YtgfbikknkcaneaaGreat
open Go.RowKit

set_option maxRecDepth 100000 in
set_option maxHeartbeats 4000000 in
theorem rvalid17_any (p : ProgD) (i : Nat) (hi : i < p.tables.l.length) (w : World) (o : ProgOk w p) (hc : ∀ t ∈ p.tables.l, ∀ v ∈ t.args.l, (Lit.int .u32 v).wf = true) (hv : (tabM p p.tables.l[i]).2 = 0) :
    Calls Tryz.prog 98 #[.agg (progCells p), .int .i64 i] w fun e w' => e = .returned (.bool true) ∧ Below w.heap.size w w' := by
  have HO := Lib.hid o
  have HC := Lib.hid hc
  obtain ⟨W, hW, hw, HB, hp⟩ := box1 w (progCells p) 31
  have HW := Lib.hid hw
  have HT := Lib.hid (fun u (hb : Below W.heap.size W u) => rtableCheck_any p i hi u (HO.out.below (below_step HW.out hb)) HC.out)
  clear o hw hc
  rw [hv] at HT
  clear hv
  go_enter Tryz.func98, Tryz.ntmps98
  go_upto_region 1 with fail
  rw [← hW]
  clear hW
  have hp3 := hp W HB
  go_wp2_with fail
  refine (HT.out _ (by first | exact HB | exact below_alloc HB _ | exact below_alloc (below_alloc HB _) _ | exact below_alloc (below_alloc (below_alloc HB _) _) _)).mono ?_
  rintro e w1 ⟨rfl, hbN⟩
  replace HB := below_step (by first | exact HB | exact below_alloc HB _ | exact below_alloc (below_alloc HB _) _ | exact below_alloc (below_alloc (below_alloc HB _) _) _) hbN
  clear hbN
  go_wp2
  go_ret
  exact ⟨rfl, below_step HW.out HB⟩

/-- the greatest of the kinds, at least 1 -/
def kmaxT (l : List KeyD) : Int := l.foldl (fun m k => max m k.kind) 1
theorem kmax_snoc (l : List KeyD) (k : KeyD) : kmaxT (l ++ [k]) = max (kmaxT l) k.kind := by rw [kmaxT, List.foldl_append]; rfl
theorem kmax_fold : ∀ (l : List KeyD) (m : Int), (∀ k ∈ l, k.kind = 1 ∨ k.kind = 2 ∨ k.kind = 3) → m = 1 ∨ m = 2 ∨ m = 3 →
    l.foldl (fun m k => max m k.kind) m = if l.any (fun k => decide (k.kind = 3)) = true ∨ m = 3 then 3 else if l.any (fun k => decide (k.kind = 2)) = true ∨ m = 2 then 2 else 1
  | [], m, _, hm => by
    rcases hm with rfl | rfl | rfl <;> simp
  | k :: l, m, h, hm => by
    have hk := h k (List.mem_cons_self ..)
    rw [List.foldl_cons, kmax_fold l (max m k.kind) (fun x hx => h x (List.mem_cons_of_mem _ hx)) (by omega)]
    simp only [List.any_cons, Bool.or_eq_true, decide_eq_true_eq]
    have m1 : max (1 : Int) 2 = 2 := rfl
    have m2 : max (1 : Int) 3 = 3 := rfl
    have m3 : max (2 : Int) 1 = 2 := rfl
    have m4 : max (2 : Int) 3 = 3 := rfl
    have m5 : max (3 : Int) 1 = 3 := rfl
    have m6 : max (3 : Int) 2 = 3 := rfl
    rcases hk with e | e | e <;> rcases hm with rfl | rfl | rfl <;> rw [e] <;> simp [m1, m2, m3, m4, m5, m6]
theorem kmax_eq {l : List KeyD} (h : ∀ k ∈ l, k.kind = 1 ∨ k.kind = 2 ∨ k.kind = 3) : kmaxT l = kindT l := by
  rw [kmaxT, kmax_fold l 1 h (.inl rfl), kindT]
  simp
theorem kmax_le {l : List KeyD} (h : ∀ k ∈ l, k.kind = 1 ∨ k.kind = 2 ∨ k.kind = 3) : 1 ≤ kmaxT l ∧ kmaxT l ≤ 3 := by
  rw [kmax_eq h, kindT]
  split
  · decide
  · split <;> decide
set_option maxRecDepth 100000 in
set_option maxHeartbeats 8000000 in
theorem rkind_any (p : ProgD) (i : Nat) (hi : i < p.tables.l.length) (w : World) (o : ProgOk w p) (hc : ∀ t ∈ p.tables.l, ∀ v ∈ t.args.l, (Lit.int .u32 v).wf = true) (hf : TabFine p p.tables.l[i]) :
    Calls Tryz.prog 41 #[.agg (progCells p), .int .i64 i] w fun e w' => e = .returned (.int .i64 (kindT p.tables.l[i].keys.l)) ∧ Below w.heap.size w w' := by
  obtain ⟨W, hW, hw, HB, hp⟩ := box1 w (progCells p) 31
  have HW := Lib.hid hw
  have hvl := fun u (hb : Below W.heap.size W u) => rvalid17_any p i hi u (o.below (below_step hw hb)) hc hf.ok
  have HK := Lib.hid ((o.tab _ (List.getElem_mem hi)).below hw).keys
  have HKd := Lib.hid hf.kinds
  obtain ⟨g, of, hA, hq⟩ := TabD.atA (o.tables.below hw (Nat.le_refl _)) hi
  have hn1 : (i : Int) < (p.tables.l.length : Int) := by omega
  clear o hw hc hf
  generalize p.tables.l[i] = t at *
  obtain ⟨tn, ⟨kl, kA, kc⟩, ta, td, tg, tz⟩ := t
  simp only at hq HK HKd ⊢
  have HR := Lib.hid (kmax_eq HKd.out)
  have hmk : kl.length ≤ 9223372036854775807 := HK.out.1
  simp only [progCells, hA] at hp hW hvl ⊢
  have HVl := Lib.hid hvl
  clear hA hvl
  go_enter Tryz.func41, Tryz.ntmps41
  go_upto_region 1 with fail
  rw [← hW]
  clear hW
  have hp3 := hp W HB
  go_wp2_with fail
  refine (HVl.out _ (by first | exact HB | exact below_alloc HB _ | exact below_alloc (below_alloc HB _) _ | exact below_alloc (below_alloc (below_alloc HB _) _) _)).mono ?_
  rintro e w1 ⟨rfl, hbN⟩
  replace HB := below_step (by first | exact HB | exact below_alloc HB _ | exact below_alloc (below_alloc HB _) _ | exact below_alloc (below_alloc (below_alloc HB _) _) _) hbN
  clear hbN
  have HB1 := Lib.hid HB
  go_wp2
  clear HB hp3
  go_loopw [5, 6] (fun bv iv wr => ∃ (k : Nat) (m : Int), k ≤ kl.length ∧ iv = .int .i64 k ∧ bv = .int .i64 m ∧ Hid (m = kmaxT (kl.take k)) ∧ Below W.heap.size W wr) (fun _ i _ => kl.length - (intOf i).toNat)
  case atStart => exact ⟨0, 1, Nat.zero_le _, rfl, rfl, Lib.hid rfl, HB1.out⟩
  case round =>
    obtain ⟨k, m, hk, rfl, rfl, HM, HB⟩ := hrel
    have hp3 := hp wr HB
    have hq3 := hq wr HB
    by_cases hlt : k < kl.length
    · obtain ⟨g2, of2, hA2, d0, d1, d2⟩ := KeyD.at (HK.out.below HB (Nat.le_refl _)) hlt
      have HT : Hid (kmaxT (kl.take (k + 1)) = max (kmaxT (kl.take k)) kl[k].kind) := Lib.hid (by rw [take_snoc kl k hlt, kmax_snoc])
      have hlt' : (k : Int) < (kl.length : Int) := by omega
      simp only at hA2 d0 d1 d2
      subst hA2
      generalize kl[k] = y at *
      obtain ⟨yh, yf, yk⟩ := y
      simp only at d0 d1 d2 HT
      have HT2 : Hid (max m yk = kmaxT (kl.take (k + 1))) := Lib.hid (by rw [HT.out, ← HM.out])
      go_wp2
      go_roundw
      case rel => exact ⟨k + 1, max m yk, by omega, by go_num, rfl, HT2, HB⟩
      case measure => simp [intOf]; omega
    · have e : k = kl.length := by omega
      have HR2 : Hid (m = kindT kl) := Lib.hid (by have h := HM.out; rw [e, List.take_length] at h; rw [h, HR.out])
      go_wp2
      go_ret
      exact ⟨by rw [HR2.out]; rfl, below_step HW.out HB⟩

set_option maxRecDepth 100000 in
set_option maxHeartbeats 16000000 in
theorem rwidths_any (p : ProgD) (i : Nat) (hi : i < p.tables.l.length) (w : World) (o : ProgOk w p) (hc : ∀ t ∈ p.tables.l, ∀ v ∈ t.args.l, (Lit.int .u32 v).wf = true) (hf : TabFine p p.tables.l[i]) :
    Calls Tryz.prog 97 #[.agg (progCells p), .int .i64 i] w fun e w' => ∃ A c, e = .returned (.slice A p.tables.l[i].keys.l.length c) ∧ w'.ownsRow w.heap.size 3 1 (.slice A p.tables.l[i].keys.l.length c) p.tables.l[i].keys.l.length (p.tables.l[i].keys.l.map (wcell p)) ∧ Below w.heap.size w w' := by
  obtain ⟨W, hW, hw, HB, hp⟩ := box1 w (progCells p) 31
  have HW := Lib.hid hw
  have hvl := fun u (hb : Below W.heap.size W u) => rvalid17_any p i hi u (o.below (below_step hw hb)) hc hf.ok
  have hwd := fun h f u (hb : Below W.heap.size W u) => rwidth17_any p h f u (o.below (below_step hw hb))
  have HK := Lib.hid ((o.tab _ (List.getElem_mem hi)).below hw).keys
  obtain ⟨g, of, hA, hq⟩ := TabD.atA (o.tables.below hw (Nat.le_refl _)) hi
  have hn1 : (i : Int) < (p.tables.l.length : Int) := by omega
  have h6 := hf.keys
  clear o hw hc hf
  generalize p.tables.l[i] = t at *
  obtain ⟨tn, ⟨kl, kA, kc⟩, ta, td, tg, tz⟩ := t
  simp only at hq HK h6 ⊢
  simp only [progCells, hA] at hp hW hvl hwd ⊢
  have HVl := Lib.hid hvl
  have HWd := Lib.hid hwd
  clear hA hvl hwd
  obtain ⟨i0, hi, hz0, hz1, hz2⟩ := info_parts Tryz.infoInt
  go_enter Tryz.func97, Tryz.ntmps97
  go_upto_region 1 with fail
  rw [← hW]
  clear hW
  have hp3 := hp W HB
  go_wp2_with fail
  refine (HVl.out _ (by first | exact HB | exact below_alloc HB _ | exact below_alloc (below_alloc HB _) _ | exact below_alloc (below_alloc (below_alloc HB _) _) _)).mono ?_
  rintro e w1 ⟨rfl, hbN⟩
  replace HB := below_step (by first | exact HB | exact below_alloc HB _ | exact below_alloc (below_alloc HB _) _ | exact below_alloc (below_alloc (below_alloc HB _) _) _) hbN
  clear hbN
  have HB1 := Lib.hid HB
  go_wp2
  clear HB hp3
  go_loopw [5, 6] (fun ov iv wr => ∃ (k : Nat) (A : Option Addr) (c : Nat), k ≤ kl.length ∧ iv = .int .i64 k ∧ ov = .slice A k c ∧ Hid (wr.ownsRow W.heap.size 3 1 (.slice A k c) k ((kl.take k).map (wcell p))) ∧ Below W.heap.size W wr)
    (fun _ i _ => kl.length - (intOf i).toNat)
  case atStart => exact ⟨0, none, 0, Nat.zero_le _, rfl, rfl, Lib.hid (World.ownsRow_nil _ _ _ _), HB1.out⟩
  case round =>
    obtain ⟨k, A, c, hk, rfl, rfl, HOw, HB⟩ := hrel
    have hp3 := hp wr HB
    have hq3 := hq wr HB
    by_cases hlt : k < kl.length
    · obtain ⟨g2, of2, hA2, hkey⟩ := KeyD.atA HK.out hlt
      have HT : Hid ((kl.take (k + 1)).map (wcell p) = (kl.take k).map (wcell p) ++ [.int .i64 (widthAt p kl[k].h kl[k].f)]) := Lib.hid (by rw [take_snoc kl k hlt, List.map_append]; rfl)
      have hlt' : (k : Int) < (kl.length : Int) := by omega
      simp only at hA2 hkey
      subst hA2
      generalize kl[k] = y at *
      obtain ⟨yh, yf, yk⟩ := y
      simp only at hkey HT
      have HBE := Lib.hid HB
      have hB0 : Below W.heap.size W wr := HB
      have HC2 : Hid (∀ u, Below wr.heap.size wr u → _) := Lib.hid (fun u (hb : Below wr.heap.size wr u) => HWd.out yh yf u (below_step HBE.out hb))
      generalize widthAt p yh yf = wd at *
      have hbnd : Hid ((k + 1) * 8 ≤ 140737488355328 ∧ k + 1 ≤ 9223372036854775807) := Lib.hid ⟨by omega, by omega⟩
      have H0 := Lib.hid (Below.refl wr.heap.size wr)
      clear HB
      go_wp2
      clear hp3 hq3
      go_region_held3 (fun w' => Below W.heap.size W w') (first | exact HBw.out | exact below_alloc hB2 _ | exact hB2 | exact Below.drew hB0 | exact hB0 | assumption)
        (first
        | (go_at_call 150; refine (HC2.out _ (Below.drew H0.out)).mono ?_; rintro e w2 ⟨rfl, hb2⟩; have hO2 := own_below (w := World.drew wr) HOw.out hb2; have hB2 := below_step (Below.drew hB0) hb2)
        | (refine step_append_lies _ (by rfl) (.tmp 22) (.tmp 35) 29 (by rfl) W.heap.size 3 i0 (.int .i64 0) 1 8 Tryz.underlying29 hi hz0 hz1 hz2 rfl (by decide) (.slice A k c) k ((kl.take k).map (wcell p)) (by rfl) (hO2.alloc _) ⟨w2.heap.size, 0, none⟩ 1 1 [.int .i64 wd] (by rfl) rfl (one_intw _ _ _) ?_ (by decide) hbnd.out.2 hbnd.out.1 (Nat.le_trans hB2.size (by simp)) _ rfl ?_; (intro u hu; simp at hu; subst hu; rfl); intro g' cap w3 h1 h2 h3 h4; have HX3 := Lib.hid (And.intro h1 h2); have HBw := Lib.hid ((hB2.alloc hB2.size _).grown h2 (hB2.alloc hB2.size _).size fun j hj => (hO2.lt j hj).1); clear h1 h2 h3 h4))
      have HO3 : Hid (w3.ownsRow W.heap.size 3 1 (.slice (some ⟨g', 0, none⟩) (k + 1) cap) (k + 1) ((kl.take (k + 1)).map (wcell p))) := Lib.hid (by rw [HT.out]; first | exact HX3.out.1 | (rw [List.map_take]; exact HX3.out.1))
      go_wp2
      go_roundw
      case rel => exact ⟨k + 1, some ⟨g', 0, none⟩, cap, by omega, by go_num, rfl, HO3, HBw.out⟩
      case measure => simp [intOf]; omega
    · have e : k = kl.length := by omega
      have HO1 : Hid (wr.ownsRow W.heap.size 3 1 (.slice A kl.length c) kl.length (kl.map (wcell p))) := Lib.hid (by have := HOw.out; rwa [e, List.take_length] at this)
      clear HOw
      subst e
      go_wp2
      go_ret
      exact ⟨A, c, rfl, own_weaken HW.out.size HO1.out, below_step HW.out HB⟩

set_option maxRecDepth 100000 in
set_option maxHeartbeats 8000000 in
theorem rbits_any (p : ProgD) (i : Nat) (hi : i < p.tables.l.length) (w : World) (o : ProgOk w p) (hc : ∀ t ∈ p.tables.l, ∀ v ∈ t.args.l, (Lit.int .u32 v).wf = true) (hf : TabFine p p.tables.l[i]) :
    Calls Tryz.prog 40 #[.agg (progCells p), .int .i64 i] w fun e w' => e = .returned (.int .i64 (bitsM p p.tables.l[i].keys.l)) ∧ Below w.heap.size w w' := by
  obtain ⟨W, hW, hw, HB, hp⟩ := box1 w (progCells p) 31
  have HW := Lib.hid hw
  have HWs := Lib.hid (fun u (hb : Below W.heap.size W u) => rwidths_any p i hi u (o.below (below_step hw hb)) hc hf)
  have h6 := hf.keys
  clear o hw hc hf
  generalize p.tables.l[i].keys.l = kl at *
  have HBl := Lib.hid (bitsM_le p)
  have HBs := Lib.hid (bitsM_snoc p)
  go_enter Tryz.func40, Tryz.ntmps40
  go_upto_region 1 with fail
  rw [← hW]
  clear hW
  have hp3 := hp W HB
  go_wp2_with fail
  refine (HWs.out _ HB).mono ?_
  rintro e w1 ⟨A, c, rfl, hown, hbN⟩
  have HW1 := Lib.hid hown
  have HB1 := Lib.hid (below_step HB hbN)
  clear hown hbN hp3 hp HB
  go_wp2
  go_loopw [6, 7] (fun bv iv wr => ∃ k : Nat, k ≤ kl.length ∧ iv = .int .i64 k ∧ bv = .int .i64 (bitsM p (kl.take k)) ∧ wr = w1) (fun _ i _ => kl.length - (intOf i).toNat)
  case atStart => exact ⟨0, Nat.zero_le _, rfl, rfl, rfl⟩
  case round =>
    obtain ⟨k, hk, rfl, rfl, rfl⟩ := hrel
    by_cases hlt : k < kl.length
    · obtain ⟨g, cap, hv, _, _⟩ := HW1.out.form (by omega : 0 < kl.length)
      have hA : A = some ⟨g, 0, none⟩ := by injection hv
      subst hA
      have hcl := HW1.out.cellAt k (by omega)
      rw [List.getElem?_map, List.getElem?_eq_getElem hlt] at hcl
      simp only [Option.map_some, wcell] at hcl
      have HS := Lib.hid (HBs.out (kl.take k) kl[k])
      rw [← take_snoc kl k hlt] at HS
      have b1 := HBl.out (kl.take k)
      rw [List.length_take] at b1
      obtain ⟨b2, b3⟩ := b1
      have hwl := widthAt_le p kl[k].h kl[k].f
      obtain ⟨w2, w3⟩ := hwl
      generalize widthAt p kl[k].h kl[k].f = wd at *
      generalize bitsM p (kl.take k) = bm at *
      have hwr : IntKind.i64.wrap (bm + wd) = bm + wd := IntWalk.i64_in _ (by omega)
      clear hv
      go_wp2
      go_roundw
      case rel => exact ⟨k + 1, by omega, by go_num, by rw [HS.out], by trivial⟩
      case measure => simp [intOf]; omega
    · have e : k = kl.length := by omega
      rw [show kl.take k = kl by rw [e, List.take_length]]
      go_wp2
      go_ret
      exact ⟨rfl, below_step HW.out HB1.out⟩

set_option maxRecDepth 100000 in
set_option maxHeartbeats 8000000 in
theorem rargs_any (p : ProgD) (j : Nat) (hj : j < p.actions.l.length) (w : World) (o : ProgOk w p) (hpf : ParFine p) :
    Calls Tryz.prog 39 #[.agg (progCells p), .int .i64 j] w fun e w' => e = .returned (.int .i64 (argOf p j)) ∧ Below w.heap.size w w' := by
  obtain ⟨W, hW, hw, HB, hp⟩ := box1 w (progCells p) 31
  have HW := Lib.hid hw
  have HPf := Lib.hid (hpf _ (List.getElem_mem hj))
  have HPm := Lib.hid ((o.act _ (List.getElem_mem hj)).below hw).params
  have HAo : Hid (argOf p (j : Int) = widthSum p.actions.l[j].params.l) := Lib.hid (by rw [argOf, Int.toNat_natCast, List.getElem?_eq_getElem hj])
  obtain ⟨g, of, hA, hq⟩ := ActD.atA (o.actions.below hw (Nat.le_refl _)) hj
  have hj1 : (j : Int) < (p.actions.l.length : Int) := by omega
  clear o hw hpf
  generalize p.actions.l[j] = x at *
  obtain ⟨xn, ⟨pl, pA, pc⟩, xb⟩ := x
  simp only at hq HPm HPf HAo
  simp only [progCells, hA] at hp hW ⊢
  have hml : pl.length ≤ 4 := HPf.out.1
  have HB1 := Lib.hid HB
  clear hA
  go_enter Tryz.func39, Tryz.ntmps39
  go_upto_region 1 with fail
  rw [← hW]
  clear hW
  go_wp2
  clear HB
  go_loopw [5, 6] (fun nv iv wr => ∃ q : Nat, q ≤ pl.length ∧ iv = .int .i64 q ∧ nv = .int .i64 (widthSum (pl.take q)) ∧ Below W.heap.size W wr) (fun _ i _ => pl.length - (intOf i).toNat)
  case atStart => exact ⟨0, Nat.zero_le _, rfl, rfl, HB1.out⟩
  case round =>
  obtain ⟨q, hqq, rfl, rfl, HB⟩ := hrel
  have hp3 := hp wr HB
  have hq3 := hq wr HB
  by_cases hlq : q < pl.length
  · obtain ⟨g3, of3, hA3, f0, f1⟩ := FieldD.at (HPm.out.below HB (Nat.le_refl _)) hlq
    have HT : Hid (widthSum (pl.take (q + 1)) = widthSum (pl.take q) + pl[q].width) := Lib.hid (by rw [take_snoc pl q hlq, wsum_snoc])
    have HW3 := HPf.out.2 _ (List.getElem_mem hlq)
    have b5 := sum_width (l := pl.take q) (fun f hf => HPf.out.2 f (List.mem_of_mem_take hf))
    rw [List.length_take] at b5
    have hlq' : (q : Int) < (pl.length : Int) := by omega
    simp only at hA3 f0 f1
    subst hA3
    generalize pl[q] = y at *
    obtain ⟨yn, yw⟩ := y
    simp only at HT HW3 f0 f1
    generalize widthSum (pl.take q) = s at *
    obtain ⟨y1, y2⟩ := HW3
    obtain ⟨b51, b52⟩ := b5
    have hwr : IntKind.i64.wrap (s + yw) = s + yw := IntWalk.i64_in _ (by omega)
    go_wp2
    go_roundw
    case rel => exact ⟨q + 1, by omega, by go_num, by rw [HT.out], HB⟩
    case measure => simp [intOf]; omega
  · have e : q = pl.length := by omega
    rw [show pl.take q = pl by rw [e, List.take_length], ← HAo.out]
    go_wp2
    go_ret
    exact ⟨rfl, below_step HW.out HB⟩
end Go.Proofs.YtgfbikknkcaneaaGreat
namespace Go.Proofs.YtgfbikknkcaneaaGreat
open Go.RowKit

theorem ceil_quo (n s : Nat) (h1 : 1 ≤ s) : ((n : Int) + ((s : Int) - 1)) / (s : Int) = ((ceilDiv n s : Nat) : Int) := by
  rw [show (n : Int) + ((s : Int) - 1) = ((n + s - 1 : Nat) : Int) by omega, ← Int.natCast_ediv, ceilDiv]
set_option maxRecDepth 100000 in
set_option maxHeartbeats 16000000 in
theorem rtcost_any (p : ProgD) (t : Int) (w : World) (o : ProgOk w p) (hcp : ProgCap p) (hN : (presM p.control.l).length ≤ 90000) :
    Calls Tryz.prog 14 #[.agg (progCells p), .int .i64 t] w fun e w' => e = .returned (resV (costP p t)) ∧ Below w.heap.size w w' := by
  have HO := Lib.hid o
  have HCp := Lib.hid hcp
  obtain ⟨W, hW, hw, HB, hp, hQ⟩ := boxR w p
  have HW := Lib.hid hw
  have HQ := Lib.hid hQ
  have hck := fun u (hb : Below W.heap.size W u) => rcheck_any p u (o.below (below_step hw hb)) hcp hN
  rw [show dgV (checkM p) = (diagM p).val from rfl] at hck
  have hdc := diag_code34
  clear hQ hcp hN
  by_cases hc : checkM p = none
  case neg =>
    have HR : Hid (resV (costP p t) = .agg #[.int .i64 0, .int .i64 0]) := Lib.hid (by rw [cost_bad hc]; rfl)
    have hd := check_code hc
    generalize diagM p = d at *
    obtain ⟨c, q, i, s⟩ := d
    simp only [DiagD.val] at hck hd
    have HCk := Lib.hid hck
    have hd' : (c == 0) = false := beq_eq_false_iff_ne.2 hd
    have hd2 : (c != 0) = true := bne_iff_ne.2 hd
    clear o hw hck hd hc
    go_enter Tryz.func14, Tryz.ntmps14
    go_upto_region 1 with fail
    rw [← hW]
    clear hW
    have hp3 := hp W HB
    go_wp2_with fail
    refine (HCk.out _ (by first | exact HB | exact below_alloc HB _ | exact below_alloc (below_alloc HB _) _ | exact below_alloc (below_alloc (below_alloc HB _) _) _)).mono ?_
    rintro e w1 ⟨rfl, hbN⟩
    replace HB := below_step (by first | exact HB | exact below_alloc HB _ | exact below_alloc (below_alloc HB _) _ | exact below_alloc (below_alloc (below_alloc HB _) _) _) hbN
    clear hbN
    clear hp3
    have hp3 := hp _ HB
    go_wp2
    refine bodyPost_ret (v := .agg #[.int .i64 (0), .int .i64 (0)]) ?_ rfl ?_
    · exact results_cell_row (fn := Tryz.f14) (p := 4) (ty := 39) rfl _ _ (w.heap.size + 1) 39 #[.int .i64 (0), .int .i64 (0)] (0, 0) _ rfl (put_res (HQ.out _ HB) _ _) Tryz.underlying39 rfl (by kernel_rfl)
    · exact ⟨by first | (rw [HR.out]; done) | (rw [HR.out]; rfl), put2_below (below_step HW.out HB) (by omega) _ _⟩
  rw [diag_none hc] at hck
  simp only [DiagD.val] at hck
  have HCk := Lib.hid hck
  have HC := Lib.hid hc
  clear hck hc
  have hcase : t < 0 ∨ (0 ≤ t ∧ (p.tables.l.length : Int) ≤ t) ∨ ∃ i : Nat, t = i ∧ i < p.tables.l.length := by
    by_cases h : 0 ≤ t ∧ t < p.tables.l.length
    · exact .inr (.inr ⟨t.toNat, by omega, by omega⟩)
    · omega
  rcases hcase with h1 | ⟨h1, h2⟩ | ⟨i, rfl, hi⟩
  · have HR : Hid (resV (costP p t) = .agg #[.int .i64 0, .int .i64 0]) := Lib.hid (by rw [cost_neg h1]; rfl)
    clear o hw
    go_enter Tryz.func14, Tryz.ntmps14
    go_upto_region 1 with fail
    rw [← hW]
    clear hW
    have hp3 := hp W HB
    go_wp2_with fail
    refine (HCk.out _ (by first | exact HB | exact below_alloc HB _ | exact below_alloc (below_alloc HB _) _ | exact below_alloc (below_alloc (below_alloc HB _) _) _)).mono ?_
    rintro e w1 ⟨rfl, hbN⟩
    replace HB := below_step (by first | exact HB | exact below_alloc HB _ | exact below_alloc (below_alloc HB _) _ | exact below_alloc (below_alloc (below_alloc HB _) _) _) hbN
    clear hbN
    clear hp3
    have hp3 := hp _ HB
    go_wp2
    refine bodyPost_ret (v := .agg #[.int .i64 (0), .int .i64 (0)]) ?_ rfl ?_
    · exact results_cell_row (fn := Tryz.f14) (p := 4) (ty := 39) rfl _ _ (w.heap.size + 1) 39 #[.int .i64 (0), .int .i64 (0)] (0, 0) _ rfl (put_res (HQ.out _ HB) _ _) Tryz.underlying39 rfl (by kernel_rfl)
    · exact ⟨by first | (rw [HR.out]; done) | (rw [HR.out]; rfl), put2_below (below_step HW.out HB) (by omega) _ _⟩
  · have HR : Hid (resV (costP p t) = .agg #[.int .i64 0, .int .i64 0]) := Lib.hid (by rw [cost_out h1 h2]; rfl)
    clear o hw
    go_enter Tryz.func14, Tryz.ntmps14
    go_upto_region 1 with fail
    rw [← hW]
    clear hW
    have hp3 := hp W HB
    go_wp2_with fail
    refine (HCk.out _ (by first | exact HB | exact below_alloc HB _ | exact below_alloc (below_alloc HB _) _ | exact below_alloc (below_alloc (below_alloc HB _) _) _)).mono ?_
    rintro e w1 ⟨rfl, hbN⟩
    replace HB := below_step (by first | exact HB | exact below_alloc HB _ | exact below_alloc (below_alloc HB _) _ | exact below_alloc (below_alloc (below_alloc HB _) _) _) hbN
    clear hbN
    clear hp3
    have hp3 := hp _ HB
    go_wp2
    refine bodyPost_ret (v := .agg #[.int .i64 (0), .int .i64 (0)]) ?_ rfl ?_
    · exact results_cell_row (fn := Tryz.f14) (p := 4) (ty := 39) rfl _ _ (w.heap.size + 1) 39 #[.int .i64 (0), .int .i64 (0)] (0, 0) _ rfl (put_res (HQ.out _ HB) _ _) Tryz.underlying39 rfl (by kernel_rfl)
    · exact ⟨by first | (rw [HR.out]; done) | (rw [HR.out]; rfl), put2_below (below_step HW.out HB) (by omega) _ _⟩
  have hi1 : (i : Int) < (p.tables.l.length : Int) := by omega
  have HF := Lib.hid (tab_fine HC.out hi)
  have HPF := Lib.hid (par_fine HC.out)
  have HTo : Hid (TabOk W p.tables.l[i]) := Lib.hid ((o.tab _ (List.getElem_mem hi)).below hw)
  have hbits := fun u (hb : Below W.heap.size W u) => rbits_any p i hi u (o.below (below_step hw hb)) HCp.out.args HF.out
  have hkind := fun u (hb : Below W.heap.size W u) => rkind_any p i hi u (o.below (below_step hw hb)) HCp.out.args HF.out
  have hargs := fun j (hj : j < p.actions.l.length) u (hb : Below W.heap.size W u) => rargs_any p j hj u (o.below (below_step hw hb)) HPF.out
  have HE := Lib.hid (cost_empty (p := p) hi)
  have HCo := Lib.hid (cost_at HC.out hi)
  have HAl := Lib.hid (argsT_le HPF.out)
  have HSn := Lib.hid (argsT_snoc p)
  have HMem := Lib.hid HF.out.mem
  obtain ⟨g, of, hA, hq⟩ := TabD.atA (o.tables.below hw (Nat.le_refl _)) hi
  have hbnd := HF.out.bits
  have hsize := HF.out.size
  have hk6 := HF.out.keys
  clear HF o hw HC
  generalize p.tables.l[i] = x at *
  have HDt := Lib.hid (costT.eq_1 p x)
  obtain ⟨tn, ⟨kl, kA, kc⟩, ⟨al, aA, ac⟩, td, ⟨gl, gA, gc⟩, tz⟩ := x
  have HAc := Lib.hid HTo.out.acts
  simp only at hq HE HCo hbnd hsize HDt hk6 hbits hkind HMem HAc
  have hma : al.length ≤ 9223372036854775807 := HAc.out.1
  generalize bitsM p kl = bm at *
  generalize kindT kl = kd at *
  obtain ⟨b1, b2⟩ := hbnd
  obtain ⟨z1, z2⟩ := hsize
  obtain ⟨bn, rfl⟩ : ∃ n : Nat, bm = n := ⟨bm.toNat, by omega⟩
  obtain ⟨zn, rfl⟩ : ∃ n : Nat, tz = n := ⟨tz.toNat, by omega⟩
  simp only [Int.toNat_natCast] at HDt
  have HAA := Lib.hid hA
  simp only [progCells, hA] at hp hW hbits hkind hargs HCk ⊢
  have HBi := Lib.hid hbits
  have HKi := Lib.hid hkind
  have HAr := Lib.hid hargs
  clear hA hbits hkind hargs HTo
  by_cases h0 : kl.length = 0
  · have HR : Hid (resV (costP p i) = .agg #[.int .i64 0, .int .i64 0]) := Lib.hid (by rw [HE.out h0]; rfl)
    have h0' : ((kl.length : Int) == 0) = true := by rw [beq_iff_eq]; omega
    clear h0 hk6
    go_enter Tryz.func14, Tryz.ntmps14
    go_upto_region 1 with fail
    rw [← hW]
    clear hW
    have hp3 := hp W HB
    go_wp2_with fail
    refine (HCk.out _ (by first | exact HB | exact below_alloc HB _ | exact below_alloc (below_alloc HB _) _ | exact below_alloc (below_alloc (below_alloc HB _) _) _)).mono ?_
    rintro e w1 ⟨rfl, hbN⟩
    replace HB := below_step (by first | exact HB | exact below_alloc HB _ | exact below_alloc (below_alloc HB _) _ | exact below_alloc (below_alloc (below_alloc HB _) _) _) hbN
    clear hbN
    clear hp3
    have hp3 := hp _ HB
    have hq3 := hq _ HB
    go_wp2
    refine bodyPost_ret (v := .agg #[.int .i64 (0), .int .i64 (0)]) ?_ rfl ?_
    · exact results_cell_row (fn := Tryz.f14) (p := 4) (ty := 39) rfl _ _ (w.heap.size + 1) 39 #[.int .i64 (0), .int .i64 (0)] (0, 0) _ rfl (put_res (HQ.out _ HB) _ _) Tryz.underlying39 rfl (by kernel_rfl)
    · exact ⟨by first | (rw [HR.out]; done) | (rw [HR.out]; rfl), put2_below (below_step HW.out HB) (by omega) _ _⟩
  have h0' : ((kl.length : Int) == 0) = false := by rw [beq_eq_false_iff_ne]; omega
  have HR0 := Lib.hid ((HCo.out h0).trans HDt.out)
  have hdz : decide (p.tables.l.length ≤ i) = false := decide_eq_false (by omega)
  have hdy : decide ((p.tables.l.length : Int) ≤ (i : Int)) = false := decide_eq_false (by omega)
  clear h0 HE HCo HDt hk6
  go_enter Tryz.func14, Tryz.ntmps14
  go_upto_region 1 with fail
  rw [← hW]
  clear hW
  have hp3 := hp W HB
  go_wp2_with fail
  refine (HCk.out _ (by first | exact HB | exact below_alloc HB _ | exact below_alloc (below_alloc HB _) _ | exact below_alloc (below_alloc (below_alloc HB _) _) _)).mono ?_
  rintro e w1 ⟨rfl, hbN⟩
  replace HB := below_step (by first | exact HB | exact below_alloc HB _ | exact below_alloc (below_alloc HB _) _ | exact below_alloc (below_alloc (below_alloc HB _) _) _) hbN
  clear hbN
  clear hp3
  have hp3 := hp _ HB
  have hq3 := hq _ HB
  refine Exists.elim (box1 w1 #[.string tn, .slice kA kl.length kc, .slice aA al.length ac, .int .i64 td, .slice gA gl.length gc, .int .i64 zn] 52) ?_
  rintro U ⟨hU, hu, hUU, hcx⟩
  go_upto_region 4 with fail
  rw [← hU]
  clear hU hp3 hq3
  have HBU := Lib.hid (below_step HB hu)
  have HUU := Lib.hid hUU
  clear HB hu hUU hq
  go_wp2
  go_loopw [6, 7] (fun dv iv wr => ∃ (k : Nat) (m : Int), k ≤ al.length ∧ iv = .int .i64 k ∧ dv = .int .i64 (8 + m) ∧ 0 ≤ m ∧ m ≤ 128 ∧ Hid (m = argsT p (al.take k)) ∧ Below U.heap.size U wr) (fun _ i _ => al.length - (intOf i).toNat)
  case atStart => exact ⟨0, 0, Nat.zero_le _, rfl, rfl, by omega, by omega, Lib.hid rfl, HUU.out⟩
  case round =>
  obtain ⟨k, m, hk, rfl, rfl, m1, m2, HM, HB⟩ := hrel
  have hc3 := hcx wr HB
  have hp3 := hp wr (below_step HBU.out HB)
  by_cases hlt : k < al.length
  · obtain ⟨g2, of2, hA2, hac⟩ := icell_atA (HAc.out.below (below_step HBU.out HB) (Nat.le_refl _)) hlt
    have HS := Lib.hid (HSn.out (al.take k) al[k])
    rw [← take_snoc al k hlt] at HS
    have HMk := HMem.out _ (List.getElem_mem hlt)
    have HBd := Lib.hid (arg_le HPF.out al[k])
    have hlt' : (k : Int) < (al.length : Int) := by omega
    simp only at hA2 hac
    subst hA2
    generalize al[k] = a at *
    obtain ⟨j, rfl⟩ : ∃ j : Nat, a = j := ⟨a.toNat, by omega⟩
    have hp4 := fun w' (h : Below wr.heap.size wr w') => hp w' (below_step HBU.out (below_step HB h))
    have hc4 := fun w' (h : Below wr.heap.size wr w') => hcx w' (below_step HB h)
    have HAj : Hid (∀ u, Below wr.heap.size wr u → _) := Lib.hid (fun u (hb : Below wr.heap.size wr u) => HAr.out j (by omega) u (below_step HBU.out (below_step HB hb)))
    have b5 := HBd.out
    generalize argOf p (j : Int) = y at *
    obtain ⟨y1, y2⟩ := b5
    have hwa : IntKind.i64.wrap (8 + y) = 8 + y := IntWalk.i64_in _ (by omega)
    have HVV := Lib.hid HB
    have H0 := Lib.hid (Below.refl wr.heap.size wr)
    clear HB hp hcx HMk HBd
    go_wp2
    clear hp3 hc3
    go_region_held3 (fun w' => Below wr.heap.size wr w') (first | exact H0.out | exact below_drew H0.out | (exact below_step (by assumption) (by assumption)) | assumption)
      (first | (go_at_call 39; refine (HAj.out _ (by assumption)).mono ?_; rintro e w2 ⟨rfl, hb1⟩))
    have HB5 : Hid (Below wr.heap.size wr _) := Lib.hid (by assumption)
    go_wp2
    go_roundw
    case rel =>
      exact ⟨k + 1, max m y, by omega, by go_num, (by refine congrArg (Value.int .i64) ?_; omega), by omega, by omega, Lib.hid (by rw [HS.out, ← HM.out]), below_step HVV.out HB5.out⟩
    case measure => simp [intOf]; omega
  have e : k = al.length := by omega
  have HMf : Hid (argsT p al = m) := Lib.hid (by have h := HM.out; rw [e, List.take_length] at h; exact h.symm)
  have hlt' : ¬ (k : Int) < (al.length : Int) := by omega
  obtain ⟨an, rfl⟩ : ∃ n : Nat, m = n := ⟨m.toNat, by omega⟩
  have HB6 := Lib.hid (below_step HBU.out HB)
  go_wp2_with fail
  refine (HBi.out _ HB6.out).mono ?_
  rintro e2 w2 ⟨rfl, hbN⟩
  have HB7 := Lib.hid (below_step HB6.out hbN)
  have HBu7 := Lib.hid (below_step HB hbN)
  clear hbN hp3 hc3 HB
  have hp3 := hp _ HB7.out
  go_wp2_with fail
  refine (HKi.out _ HB7.out).mono ?_
  rintro e2 w3 ⟨rfl, hbN⟩
  have HB := below_step HB7.out hbN
  have hc3 := hcx _ (below_step HBu7.out hbN)
  clear hp3
  have hp3 := hp _ HB
  clear hbN
  have hz256 : zn ≤ 256 := by omega
  have ha128 : an ≤ 128 := by omega
  have hb64 : bn ≤ 64 := by omega
  by_cases hk1 : kd = 1
  · subst hk1
    have hm2 : zn * (bn + (8 + an)) ≤ 1000000 := Nat.le_trans (Nat.mul_le_mul hz256 (show bn + (8 + an) ≤ 200 by omega)) (by decide)
    have HR : Hid (resV (costP p i) = .agg #[.int .i64 ((ceilDiv (zn * (bn + (8 + an))) 4096 : Nat) : Int), .int .i64 0]) := Lib.hid (by rw [HR0.out, HMf.out]; rfl)
    generalize hm : zn * (bn + (8 + an)) = m at *
    have hm3 : (zn : Int) * ((bn : Int) + (8 + (an : Int))) = (m : Int) := by rw [← hm]; simp
    have hw3 : IntKind.i64.wrap ((bn : Int) + (8 + (an : Int))) = (bn : Int) + (8 + (an : Int)) := IntWalk.i64_in _ (by omega)
    have hw4 : IntKind.i64.wrap (m : Int) = (m : Int) := IntWalk.i64_in _ (by omega)
    have hw5 : IntKind.i64.wrap ((m : Int) + 4095) = (m : Int) + 4095 := IntWalk.i64_in _ (by omega)
    have hcq := ceil_quo m 4096 (by omega)
    simp only [show ((4096 : Nat) : Int) = 4096 from rfl, show (4096 : Int) - 1 = 4095 from rfl] at hcq
    generalize ceilDiv m 4096 = q at *
    clear hm
    go_wp2
    refine bodyPost_ret (v := .agg #[.int .i64 ((q : Int)), .int .i64 (0)]) ?_ rfl ?_
    · exact results_cell_row (fn := Tryz.f14) (p := 4) (ty := 39) rfl _ _ (w.heap.size + 1) 39 #[.int .i64 ((q : Int)), .int .i64 (0)] (0, 0) _ rfl (put_res (HQ.out _ HB) _ _) Tryz.underlying39 rfl (by kernel_rfl)
    · exact ⟨by first | (rw [HR.out]; done) | (rw [HR.out]; rfl), put2_below (below_step HW.out HB) (by omega) _ _⟩
  · have hk1' : (kd == 1) = false := beq_eq_false_iff_ne.2 hk1
    have hm2 : zn * (8 + an) ≤ 1000000 := Nat.le_trans (Nat.mul_le_mul hz256 (show 8 + an ≤ 200 by omega)) (by decide)
    have hn2 : zn * bn ≤ 1000000 := Nat.le_trans (Nat.mul_le_mul hz256 hb64) (by decide)
    have HR : Hid (resV (costP p i) = .agg #[.int .i64 ((ceilDiv (zn * (8 + an)) 4096 : Nat) : Int), .int .i64 ((ceilDiv (zn * bn) 2048 : Nat) : Int)]) := Lib.hid (by rw [HR0.out, if_neg hk1, HMf.out]; rfl)
    generalize hm : zn * (8 + an) = m at *
    generalize hn : zn * bn = n at *
    have hm3 : (zn : Int) * (8 + (an : Int)) = (m : Int) := by rw [← hm]; simp
    have hn3 : (zn : Int) * (bn : Int) = (n : Int) := by rw [← hn]; simp
    have hw4 : IntKind.i64.wrap (m : Int) = (m : Int) := IntWalk.i64_in _ (by omega)
    have hw5 : IntKind.i64.wrap (n : Int) = (n : Int) := IntWalk.i64_in _ (by omega)
    have hw6 : IntKind.i64.wrap ((m : Int) + 4095) = (m : Int) + 4095 := IntWalk.i64_in _ (by omega)
    have hw7 : IntKind.i64.wrap ((n : Int) + 2047) = (n : Int) + 2047 := IntWalk.i64_in _ (by omega)
    have hcq := ceil_quo m 4096 (by omega)
    have hcr := ceil_quo n 2048 (by omega)
    simp only [show ((4096 : Nat) : Int) = 4096 from rfl, show (4096 : Int) - 1 = 4095 from rfl] at hcq
    simp only [show ((2048 : Nat) : Int) = 2048 from rfl, show (2048 : Int) - 1 = 2047 from rfl] at hcr
    generalize ceilDiv m 4096 = q at *
    generalize ceilDiv n 2048 = r at *
    clear hm hn
    go_wp2
    refine bodyPost_ret (v := .agg #[.int .i64 ((q : Int)), .int .i64 ((r : Int))]) ?_ rfl ?_
    · exact results_cell_row (fn := Tryz.f14) (p := 4) (ty := 39) rfl _ _ (w.heap.size + 1) 39 #[.int .i64 ((q : Int)), .int .i64 ((r : Int))] (0, 0) _ rfl (put_res (HQ.out _ HB) _ _) Tryz.underlying39 rfl (by kernel_rfl)
    · exact ⟨by first | (rw [HR.out]; done) | (rw [HR.out]; rfl), put2_below (below_step HW.out HB) (by omega) _ _⟩

/-- a unit: its table, and two lists -/
structure UnitD where
  table : Int
  a0 : Option Addr
  n0 : Nat
  k0 : Nat
  a1 : Option Addr
  n1 : Nat
  k1 : Nat
@[reducible] def UnitD.cells (u : UnitD) : Array Value := #[.int .i64 u.table, .slice u.a0 u.n0 u.k0, .slice u.a1 u.n1 u.k1]
theorem boxU (w : World) (p : ProgD) (u : UnitD) : ∃ W, W = ((w.alloc (.cells (progCells p) 31)).alloc (.cells u.cells 35)).alloc (.cells #[.int .i64 0, .int .i64 0] 39) ∧ Below w.heap.size w W ∧ Below W.heap.size W W ∧
    (∀ w', Below W.heap.size W w' → (∀ i, i < (progCells p).size → w'.cell? ⟨w.heap.size, i, none⟩ = (progCells p)[i]?) ∧ w'.cell? ⟨w.heap.size + 1, 0, none⟩ = some (.int .i64 u.table) ∧ (∀ i, i < 2 → w'.cell? ⟨w.heap.size + 1 + 1, i, none⟩ = some (.int .i64 0)) ∧ (∀ i, w'.frozen? ⟨w.heap.size + 1 + 1, i, none⟩ = false)) ∧
    ∀ w', Below W.heap.size W w' → Blk w' (w.heap.size + 1 + 1) 39 #[.int .i64 0, .int .i64 0] := by
  obtain ⟨W0, e0, b0, _, _, f0⟩ := boxC w (progCells p) 31 u.cells 35
  have hs : W0.heap.size = w.heap.size + 1 + 1 := by rw [e0]; simp
  have hb : Below W0.heap.size W0 (W0.alloc (.cells #[.int .i64 0, .int .i64 0] 39)) := below1 _ _
  have hk : Blk (W0.alloc (.cells #[.int .i64 0, .int .i64 0] 39)) (w.heap.size + 1 + 1) 39 #[.int .i64 0, .int .i64 0] := hs ▸ Blk.new _ _ _
  refine ⟨_, by rw [← e0], below_step b0 hb, Below.refl _ _, fun w' h => ⟨(f0 w' (below_step hb h)).1, (f0 w' (below_step hb h)).2.1 0 (show 0 < 3 by decide), fun i hi => ?_, (hk.below h hk.lt).frozen⟩, fun w' h => hk.below h hk.lt⟩
  rw [(hk.below h hk.lt).cell i]
  match i, hi with
  | 0, _ => rfl
  | 1, _ => rfl
set_option maxRecDepth 100000 in
set_option maxHeartbeats 8000000 in
theorem ucost_any (p : ProgD) (u : UnitD) (w : World) (o : ProgOk w p) (hcp : ProgCap p) (hN : (presM p.control.l).length ≤ 90000) :
    Calls Tryz.prog 15 #[.agg (progCells p), .agg u.cells] w fun e w' => e = .returned (resV (costP p u.table)) ∧ Below w.heap.size w w' := by
  obtain ⟨W, hW, hw, HB, hp, hQ⟩ := boxU w p u
  have HW := Lib.hid hw
  have HQ := Lib.hid hQ
  have HT := Lib.hid (fun v (hb : Below W.heap.size W v) => tcost_any p u.table v (o.below (below_step hw hb)) hcp hN)
  have HN := Lib.hid (cost_neg (p := p) (t := u.table))
  obtain ⟨t, a0, n0, k0, a1, n1, k1⟩ := u
  simp only at HT HN hp ⊢
  clear hQ o hw hcp hN
  by_cases ht : t = -1
  · have HR : Hid (resV (costP p t) = .agg #[.int .i64 0, .int .i64 0]) := Lib.hid (by rw [HN.out (by omega)]; rfl)
    subst ht
    go_enter Tryz.func15, Tryz.ntmps15
    go_upto_region 1 with fail
    rw [← hW]
    clear hW
    have hp3 := hp W HB
    go_wp2
    refine bodyPost_ret (v := .agg #[.int .i64 (0), .int .i64 (0)]) ?_ rfl ?_
    · exact results_cell_row (fn := Tryz.f15) (p := 4) (ty := 39) rfl _ _ (w.heap.size + 1+1) 39 #[.int .i64 (0), .int .i64 (0)] (0, 0) _ rfl (put_res (HQ.out _ HB) _ _) Tryz.underlying39 rfl (by kernel_rfl)
    · exact ⟨by first | (rw [HR.out]; done) | (rw [HR.out]; rfl), put2_below (below_step HW.out HB) (by omega) _ _⟩
  · have ht' : (t == -1) = false := beq_eq_false_iff_ne.2 ht
    clear ht HN
    generalize costP p t = c at *
    obtain ⟨ca, cb⟩ := c
    simp only [resV] at HT
    have HR : Hid (resV (ca, cb) = .agg #[.int .i64 (ca : Int), .int .i64 (cb : Int)]) := Lib.hid rfl
    go_enter Tryz.func15, Tryz.ntmps15
    go_upto_region 1 with fail
    rw [← hW]
    clear hW
    have hp3 := hp W HB
    go_wp2_with fail
    refine (HT.out _ (by first | exact HB | exact below_alloc HB _ | exact below_alloc (below_alloc HB _) _ | exact below_alloc (below_alloc (below_alloc HB _) _) _)).mono ?_
    rintro e w1 ⟨rfl, hbN⟩
    replace HB := below_step (by first | exact HB | exact below_alloc HB _ | exact below_alloc (below_alloc HB _) _ | exact below_alloc (below_alloc (below_alloc HB _) _) _) hbN
    clear hbN
    clear hp3
    have hp3 := hp _ HB
    go_wp2
    refine bodyPost_ret (v := .agg #[.int .i64 ((ca : Int)), .int .i64 ((cb : Int))]) ?_ rfl ?_
    · exact results_cell_row (fn := Tryz.f15) (p := 4) (ty := 39) rfl _ _ (w.heap.size + 1+1) 39 #[.int .i64 ((ca : Int)), .int .i64 ((cb : Int))] (0, 0) _ rfl (put_res (HQ.out _ HB) _ _) Tryz.underlying39 rfl (by kernel_rfl)
    · exact ⟨by first | (rw [HR.out]; done) | (rw [HR.out]; rfl), put2_below (below_step HW.out HB) (by omega) _ _⟩
set_option maxRecDepth 100000 in
set_option maxHeartbeats 8000000 in
theorem rucost_any (p : ProgD) (u : UnitD) (w : World) (o : ProgOk w p) (hcp : ProgCap p) (hN : (presM p.control.l).length ≤ 90000) :
    Calls Tryz.prog 16 #[.agg (progCells p), .agg u.cells] w fun e w' => e = .returned (resV (costP p u.table)) ∧ Below w.heap.size w w' := by
  obtain ⟨W, hW, hw, HB, hp, hQ⟩ := boxU w p u
  have HW := Lib.hid hw
  have HQ := Lib.hid hQ
  have HT := Lib.hid (fun v (hb : Below W.heap.size W v) => rtcost_any p u.table v (o.below (below_step hw hb)) hcp hN)
  obtain ⟨t, a0, n0, k0, a1, n1, k1⟩ := u
  simp only at HT hp ⊢
  clear hQ o hw hcp hN
  generalize costP p t = c at *
  obtain ⟨ca, cb⟩ := c
  simp only [resV] at HT
  have HR : Hid (resV (ca, cb) = .agg #[.int .i64 (ca : Int), .int .i64 (cb : Int)]) := Lib.hid rfl
  go_enter Tryz.func16, Tryz.ntmps16
  go_upto_region 1 with fail
  rw [← hW]
  clear hW
  have hp3 := hp W HB
  go_wp2_with fail
  refine (HT.out _ (by first | exact HB | exact below_alloc HB _ | exact below_alloc (below_alloc HB _) _ | exact below_alloc (below_alloc (below_alloc HB _) _) _)).mono ?_
  rintro e w1 ⟨rfl, hbN⟩
  replace HB := below_step (by first | exact HB | exact below_alloc HB _ | exact below_alloc (below_alloc HB _) _ | exact below_alloc (below_alloc (below_alloc HB _) _) _) hbN
  clear hbN
  clear hp3
  have hp3 := hp _ HB
  go_wp2
  refine bodyPost_ret (v := .agg #[.int .i64 ((ca : Int)), .int .i64 ((cb : Int))]) ?_ rfl ?_
  · exact results_cell_row (fn := Tryz.f16) (p := 4) (ty := 39) rfl _ _ (w.heap.size + 1+1) 39 #[.int .i64 ((ca : Int)), .int .i64 ((cb : Int))] (0, 0) _ rfl (put_res (HQ.out _ HB) _ _) Tryz.underlying39 rfl (by kernel_rfl)
  · exact ⟨by first | (rw [HR.out]; done) | (rw [HR.out]; rfl), put2_below (below_step HW.out HB) (by omega) _ _⟩
end Go.Proofs.YtgfbikknkcaneaaGreat
