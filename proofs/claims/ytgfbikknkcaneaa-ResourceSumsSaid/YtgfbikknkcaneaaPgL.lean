/- Walks of resource.Sum and its reference. -/
import Derived.Test.YtgfbikknkcaneaaPgK
namespace Go.Proofs.Ytgfbikknkcaneaa
open Go.RowKit

set_option maxRecDepth 100000 in
set_option maxHeartbeats 4000000 in
theorem sum_any (x : L ResD) (w : World) (h : LOk w 2 ResD.cells x) (hm : x.l.length ≤ 1000) (hw : ∀ r ∈ x.l, r.wf) :
    Calls Try.prog 7 #[x.v] w fun e w' => e = .returned (.agg #[.int .i64 (sumS x.l), .int .i64 (sumT x.l)]) ∧ Below w.heap.size w w' := by
  obtain ⟨l, A0, c0⟩ := x
  have HX := Lib.hid h
  have HW := Lib.hid hw
  clear h hw
  simp only [L.v] at *
  go_enter Try.func7, Try.ntmps7
  go_wp2
  go_loopw [4, 7] (fun _ iv wr => ∃ k : Nat, k ≤ l.length ∧ iv = .int .i64 k ∧ Blk wr w.heap.size 27 #[.int .i64 0, .int .i64 0] ∧
      Blk wr (w.heap.size + 1) 27 #[.int .i64 (sumS (l.take k)), .int .i64 (sumT (l.take k))] ∧ Below w.heap.size w wr) (fun _ i _ => l.length - (intOf i).toNat)
  case atStart =>
    refine ⟨0, Nat.zero_le _, rfl, (Blk.new _ _ _).alloc _, ?_, below2 _ _ _⟩
    have := Blk.new (w.alloc (.cells #[.int .i64 0, .int .i64 0] 27)) 27 #[.int .i64 0, .int .i64 0]
    rwa [World.size_alloc] at this
  case round =>
    obtain ⟨k, hk, rfl, hr, ho, hbel⟩ := hrel
    by_cases hlt : k < l.length
    · obtain ⟨g, o, rfl, d0, d1⟩ := ResD.at (HX.out.below hbel (Nat.le_refl _)) hlt
      have hwf := HW.out l[k] (List.getElem_mem hlt)
      have HT : Hid (l.take (k + 1) = l.take k ++ [l[k]]) := Lib.hid (List.take_succ_eq_append_getElem hlt)
      simp only at d0 d1
      generalize l[k] = y at *
      have hg : g < w.heap.size := by
        obtain ⟨g', o', e, hx, _⟩ := HX.out.at hlt
        simp only [Option.some.injEq, Addr.mk.injEq] at e
        rw [e.1]; exact hx
      have HS := Lib.hid (sumS_le (l.take k))
      have HTT := Lib.hid (sumT_le (l.take k))
      obtain ⟨u, hu, hmu⟩ : ∃ u : Nat, y.s.toNat = u ∧ max y.s 0 = (u : Int) := ⟨_, rfl, by omega⟩
      obtain ⟨v, hv, hmv⟩ : ∃ v : Nat, y.t.toNat = v ∧ max y.t 0 = (v : Int) := ⟨_, rfl, by omega⟩
      have HSN := Lib.hid (show sumS (l.take k ++ [y]) = addM (sumS (l.take k)) u by rw [sumS_snoc, hu])
      have HTN := Lib.hid (show sumT (l.take k ++ [y]) = addM (sumT (l.take k)) v by rw [sumT_snoc, hv])
      have HU := Lib.hid (show u ≤ maxInt by have := hwf.1.2; unfold maxInt; omega)
      have HVv := Lib.hid (show v ≤ maxInt by have := hwf.2.2; unfold maxInt; omega)
      clear hu hv
      generalize sumS (l.take k) = a at *
      generalize sumT (l.take k) = b at *
      have HR := Lib.hid hr
      have HO := Lib.hid ho
      have HB := Lib.hid hbel
      have HWF := Lib.hid hwf
      have c0 : wr.cell? ⟨w.heap.size + 1, 0, none⟩ = some (.int .i64 a) := ho.cell 0
      have f0 : wr.frozen? ⟨w.heap.size + 1, 0, none⟩ = false := ho.frozen 0
      have hk0 : (0 : Int) ≤ (k : Int) := by omega
      have hk1 : (k : Int) < (l.length : Int) := by omega
      have HD1 : Hid (w.cell? ⟨g, o + k * 2 + 1, none⟩ = some (.int .i64 y.t)) := Lib.hid ((hbel.cell (p := ⟨g, o + k * 2 + 1, none⟩) hg).symm.trans d1)
      clear hr ho hbel hwf d1
      go_wp2
      go_region_law (first | (go_simp; go_at_call 14; refine (add_any a u _ HS.out HU.out).mono ?_; rintro e w' ⟨rfl, rfl⟩))
      all_goals
        clear c0 f0 d0 hmu
        have e5 : Blk ((wr.setCell ⟨w.heap.size + 1, 0, none⟩ (.int .i64 (addM a u : Nat))).drew) (w.heap.size + 1) 27 #[.int .i64 (addM a u : Nat), .int .i64 b] := (HO.out.set_ 0 (.int .i64 (addM a u : Nat))).drew
        have r5 : Blk ((wr.setCell ⟨w.heap.size + 1, 0, none⟩ (.int .i64 (addM a u : Nat))).drew) w.heap.size 27 #[.int .i64 0, .int .i64 0] := (HR.out.far (by show w.heap.size ≠ w.heap.size + 1; omega) _).drew
        have b5 : Below w.heap.size w ((wr.setCell ⟨w.heap.size + 1, 0, none⟩ (.int .i64 (addM a u : Nat))).drew) := (HB.out.setCell (Nat.le_succ _) _).drew
        generalize hW5 : (wr.setCell ⟨w.heap.size + 1, 0, none⟩ (.int .i64 (addM a u : Nat))).drew = w5 at *
        clear hW5
        have d1 : w5.cell? ⟨g, o + k * 2 + 1, none⟩ = some (.int .i64 y.t) := (b5.cell (p := ⟨g, o + k * 2 + 1, none⟩) hg).trans HD1.out
        have c1 : w5.cell? ⟨w.heap.size + 1, 1, none⟩ = some (.int .i64 b) := e5.cell 1
        have f1 : w5.frozen? ⟨w.heap.size + 1, 1, none⟩ = false := e5.frozen 1
        have HO5 := Lib.hid e5
        have HR5 := Lib.hid r5
        have HB5 := Lib.hid b5
        clear e5 r5 b5
        go_wp2
        go_region_law (first | (go_simp; go_at_call 14; refine (add_any b v _ HTT.out HVv.out).mono ?_; rintro e w' ⟨rfl, rfl⟩))
        all_goals
          clear c1 f1 d1 hk0 hk1
          go_wp2
          go_roundw
          case rel =>
            refine ⟨k + 1, by omega, by go_num, (HR5.out.far (by show w.heap.size ≠ w.heap.size + 1; omega) _).drew, ?_, (HB5.out.setCell (Nat.le_succ _) _).drew⟩
            rw [HT.out, HSN.out, HTN.out]
            exact (HO5.out.set_ 1 (.int .i64 (addM b v : Nat))).drew
          case measure => simp [intOf]; omega
    · have hk' : k = l.length := by omega
      subst hk'
      rw [List.take_length] at ho
      generalize hsa : sumS l = a at *
      generalize hsb : sumT l = b at *
      have HAB := Lib.hid (And.intro hsa hsb)
      clear hsa hsb
      have HR := Lib.hid hr
      have HO := Lib.hid ho
      have HB := Lib.hid hbel
      have c0 : wr.cell? ⟨w.heap.size + 1, 0, none⟩ = some (.int .i64 a) := ho.cell 0
      have c1 : wr.cell? ⟨w.heap.size + 1, 1, none⟩ = some (.int .i64 b) := ho.cell 1
      have r0 : wr.cell? ⟨w.heap.size, 0, none⟩ = some (.int .i64 0) := hr.cell 0
      have r1 : wr.cell? ⟨w.heap.size, 1, none⟩ = some (.int .i64 0) := hr.cell 1
      have f0 : wr.frozen? ⟨w.heap.size, 0, none⟩ = false := hr.frozen 0
      have f1 : wr.frozen? ⟨w.heap.size, 1, none⟩ = false := hr.frozen 1
      clear hr ho hbel
      go_wp2
      refine bodyPost_ret (v := .agg #[.int .i64 (a : Int), .int .i64 (b : Int)]) (by simp [results, Try.results7, go_sem, r0, r1]) rfl ⟨by rw [HAB.out.1, HAB.out.2], ?_⟩
      exact (HB.out.setCell (Nat.le_refl _) _).setCell (Nat.le_refl _) _

set_option maxRecDepth 100000 in
set_option maxHeartbeats 4000000 in
theorem rsum_any (x : L ResD) (w : World) (h : LOk w 2 ResD.cells x) (hm : x.l.length ≤ 1000) (hw : ∀ r ∈ x.l, r.wf) :
    Calls Try.prog 8 #[x.v] w fun e w' => e = .returned (.agg #[.int .i64 (sumS x.l), .int .i64 (sumT x.l)]) ∧ Below w.heap.size w w' := by
  obtain ⟨l, A0, c0⟩ := x
  have HX := Lib.hid h
  have HW := Lib.hid hw
  clear h hw
  simp only [L.v] at *
  go_enter Try.func8, Try.ntmps8
  go_wp2
  go_loopw [4] (fun iv wr => ∃ k : Nat, k ≤ l.length ∧ iv = .int .i64 k ∧ Blk wr w.heap.size 27 #[.int .i64 0, .int .i64 0] ∧
      Blk wr (w.heap.size + 1) 27 #[.int .i64 (sumS (l.take k)), .int .i64 (sumT (l.take k))] ∧ Below w.heap.size w wr) (fun i _ => l.length - (intOf i).toNat)
  case atStart =>
    refine ⟨0, Nat.zero_le _, rfl, (Blk.new _ _ _).alloc _, ?_, below2 _ _ _⟩
    have := Blk.new (w.alloc (.cells #[.int .i64 0, .int .i64 0] 27)) 27 #[.int .i64 0, .int .i64 0]
    rwa [World.size_alloc] at this
  case round =>
    obtain ⟨k, hk, rfl, hr, ho, hbel⟩ := hrel
    by_cases hlt : k < l.length
    · obtain ⟨g, o, rfl, d0, d1⟩ := ResD.at (HX.out.below hbel (Nat.le_refl _)) hlt
      have hwf := HW.out l[k] (List.getElem_mem hlt)
      have HT : Hid (l.take (k + 1) = l.take k ++ [l[k]]) := Lib.hid (List.take_succ_eq_append_getElem hlt)
      simp only at d0 d1
      generalize l[k] = y at *
      have hg : g < w.heap.size := by
        obtain ⟨g', o', e, hx, _⟩ := HX.out.at hlt
        simp only [Option.some.injEq, Addr.mk.injEq] at e
        rw [e.1]; exact hx
      have HS := Lib.hid (sumS_le (l.take k))
      have HTT := Lib.hid (sumT_le (l.take k))
      obtain ⟨u, hu, hmu⟩ : ∃ u : Nat, y.s.toNat = u ∧ max y.s 0 = (u : Int) := ⟨_, rfl, by omega⟩
      obtain ⟨v, hv, hmv⟩ : ∃ v : Nat, y.t.toNat = v ∧ max y.t 0 = (v : Int) := ⟨_, rfl, by omega⟩
      have HSN := Lib.hid (show sumS (l.take k ++ [y]) = addM (sumS (l.take k)) u by rw [sumS_snoc, hu])
      have HTN := Lib.hid (show sumT (l.take k ++ [y]) = addM (sumT (l.take k)) v by rw [sumT_snoc, hv])
      have HUU := Lib.hid hu
      have HVV := Lib.hid hv
      clear hu hv
      generalize sumS (l.take k) = a at *
      generalize sumT (l.take k) = b at *
      have HR := Lib.hid hr
      have HO := Lib.hid ho
      have HB := Lib.hid hbel
      have HWF := Lib.hid hwf
      have c0 : wr.cell? ⟨w.heap.size + 1, 0, none⟩ = some (.int .i64 a) := ho.cell 0
      have f0 : wr.frozen? ⟨w.heap.size + 1, 0, none⟩ = false := ho.frozen 0
      have hk0 : (0 : Int) ≤ (k : Int) := by omega
      have hk1 : (k : Int) < (l.length : Int) := by omega
      have HD1 : Hid (w.cell? ⟨g, o + k * 2 + 1, none⟩ = some (.int .i64 y.t)) := Lib.hid ((hbel.cell (p := ⟨g, o + k * 2 + 1, none⟩) hg).symm.trans d1)
      clear hr ho hbel hwf d1
      go_wp2
      go_region_law (first | (go_simp; go_at_call 15; refine (radd_any a y.s _ HS.out HWF.out.1.2).mono ?_; rintro e w' ⟨rfl, rfl⟩; rw [HUU.out]))
      all_goals
        clear c0 f0 d0 hmu
        have e5 : Blk ((wr.setCell ⟨w.heap.size + 1, 0, none⟩ (.int .i64 (addM a u : Nat))).drew) (w.heap.size + 1) 27 #[.int .i64 (addM a u : Nat), .int .i64 b] := (HO.out.set_ 0 (.int .i64 (addM a u : Nat))).drew
        have r5 : Blk ((wr.setCell ⟨w.heap.size + 1, 0, none⟩ (.int .i64 (addM a u : Nat))).drew) w.heap.size 27 #[.int .i64 0, .int .i64 0] := (HR.out.far (by show w.heap.size ≠ w.heap.size + 1; omega) _).drew
        have b5 : Below w.heap.size w ((wr.setCell ⟨w.heap.size + 1, 0, none⟩ (.int .i64 (addM a u : Nat))).drew) := (HB.out.setCell (Nat.le_succ _) _).drew
        generalize hW5 : (wr.setCell ⟨w.heap.size + 1, 0, none⟩ (.int .i64 (addM a u : Nat))).drew = w5 at *
        clear hW5
        have d1 : w5.cell? ⟨g, o + k * 2 + 1, none⟩ = some (.int .i64 y.t) := (b5.cell (p := ⟨g, o + k * 2 + 1, none⟩) hg).trans HD1.out
        have c1 : w5.cell? ⟨w.heap.size + 1, 1, none⟩ = some (.int .i64 b) := e5.cell 1
        have f1 : w5.frozen? ⟨w.heap.size + 1, 1, none⟩ = false := e5.frozen 1
        have HO5 := Lib.hid e5
        have HR5 := Lib.hid r5
        have HB5 := Lib.hid b5
        clear e5 r5 b5
        go_wp2
        go_region_law (first | (go_simp; go_at_call 15; refine (radd_any b y.t _ HTT.out HWF.out.2.2).mono ?_; rintro e w' ⟨rfl, rfl⟩; rw [HVV.out]))
        all_goals
          clear c1 f1 d1 hk0 hk1
          go_wp2
          go_roundw
          case rel =>
            refine ⟨k + 1, by omega, by go_num, (HR5.out.far (by show w.heap.size ≠ w.heap.size + 1; omega) _).drew, ?_, (HB5.out.setCell (Nat.le_succ _) _).drew⟩
            rw [HT.out, HSN.out, HTN.out]
            exact (HO5.out.set_ 1 (.int .i64 (addM b v : Nat))).drew
          case measure => simp [intOf]; omega
    · have hk' : k = l.length := by omega
      subst hk'
      rw [List.take_length] at ho
      generalize hsa : sumS l = a at *
      generalize hsb : sumT l = b at *
      have HAB := Lib.hid (And.intro hsa hsb)
      clear hsa hsb
      have HR := Lib.hid hr
      have HO := Lib.hid ho
      have HB := Lib.hid hbel
      have c0 : wr.cell? ⟨w.heap.size + 1, 0, none⟩ = some (.int .i64 a) := ho.cell 0
      have c1 : wr.cell? ⟨w.heap.size + 1, 1, none⟩ = some (.int .i64 b) := ho.cell 1
      have r0 : wr.cell? ⟨w.heap.size, 0, none⟩ = some (.int .i64 0) := hr.cell 0
      have r1 : wr.cell? ⟨w.heap.size, 1, none⟩ = some (.int .i64 0) := hr.cell 1
      have f0 : wr.frozen? ⟨w.heap.size, 0, none⟩ = false := hr.frozen 0
      have f1 : wr.frozen? ⟨w.heap.size, 1, none⟩ = false := hr.frozen 1
      clear hr ho hbel
      go_wp2
      refine bodyPost_ret (v := .agg #[.int .i64 (a : Int), .int .i64 (b : Int)]) (by simp [results, Try.results8, go_sem, r0, r1]) rfl ⟨by rw [HAB.out.1, HAB.out.2], ?_⟩
      exact (HB.out.setCell (Nat.le_refl _) _).setCell (Nat.le_refl _) _
end Go.Proofs.Ytgfbikknkcaneaa

