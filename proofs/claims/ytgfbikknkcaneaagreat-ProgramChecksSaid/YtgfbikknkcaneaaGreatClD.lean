/- The walk of program.Check on any program: it returns the first error. No condition but that the program lies in memory, its numbers are of their kinds, and it has at most ninety thousand control nodes. -/
import Derived.Test.YtgfbikknkcaneaaGreatClC
import Derived.Defers
import Derived.Recover
namespace Go.Proofs.YtgfbikknkcaneaaGreat
open Go.RowKit

/-- the deferred function of program.Check where nothing panics -/
theorem catch_none (v : Value) (w : World) :
    CallsD Tryz.prog 50 #[v] .returning w fun e u' w' => e = .returned (.tuple #[]) ∧ u' = .returning ∧ w' = w := by
  refine callsD_of_wpS Tryz.func50 rfl fun c₀ cs hu => ?_
  apply wpS_seq
  apply wpS_region
  simp [wpOpsS, go_sem, recoverD, hu, Tryz.ntmps50, Exit.thenS]
  apply wpS_seq
  apply wpS_seq
  apply wpS_region
  simp [wpOpsS, go_sem, Exit.thenS]
  refine wpS_cond (t := true) (by simp [Act.eval]) ?_
  simp only [if_true]
  refine wpS_of_wp (wp_ret ?_)
  cases c₀
  simp_all [Exit.thenS, bodyPostS, results, Tryz.results50]

theorem fail_is (c pt it sb : Int) (w : World) : (Instr.typeAssert (.iface 92 (.agg #[.int .i64 c, .int .i64 pt, .int .i64 it, .int .i64 sb])) 20 92 true).run Tryz.prog w = .ok (.tuple #[.agg #[.int .i64 c, .int .i64 pt, .int .i64 it, .int .i64 sb], .bool true]) w := by kernel_rfl
set_option maxRecDepth 100000 in
set_option maxHeartbeats 1000000 in
theorem catch_some (c pt it sb : Int) (g : Nat) (t : TypeId) (x0 x1 x2 x3 : Int) (w : World) (hb : Blk w g t #[.int .i64 x0, .int .i64 x1, .int .i64 x2, .int .i64 x3]) :
    CallsD Tryz.prog 50 #[.pointer (some ⟨g, 0, none⟩)] (.panicking ({ v := .iface 92 (.agg #[.int .i64 c, .int .i64 pt, .int .i64 it, .int .i64 sb]), recovered := false } :: [])) w fun e u' w' =>
      e = .returned (.tuple #[]) ∧ u' = .panicking ({ v := .iface 92 (.agg #[.int .i64 c, .int .i64 pt, .int .i64 it, .int .i64 sb]), recovered := true } :: []) ∧ w' = ((((w.setCell ⟨g, 0, none⟩ (.int .i64 c)).setCell ⟨g, 1, none⟩ (.int .i64 pt)).setCell ⟨g, 2, none⟩ (.int .i64 it)).setCell ⟨g, 3, none⟩ (.int .i64 sb)).alloc (.cells #[.int .i64 c, .int .i64 pt, .int .i64 it, .int .i64 sb] 92) := by
  have h0 : w.cell? ⟨g, 0, none⟩ = some (.int .i64 x0) := hb.cell 0
  have h1 : w.cell? ⟨g, 1, none⟩ = some (.int .i64 x1) := hb.cell 1
  have h2 : w.cell? ⟨g, 2, none⟩ = some (.int .i64 x2) := hb.cell 2
  have h3 : w.cell? ⟨g, 3, none⟩ = some (.int .i64 x3) := hb.cell 3
  have f0 : w.frozen? ⟨g, 0, none⟩ = false := hb.frozen 0
  have f1 : w.frozen? ⟨g, 1, none⟩ = false := hb.frozen 1
  have f2 : w.frozen? ⟨g, 2, none⟩ = false := hb.frozen 2
  have f3 : w.frozen? ⟨g, 3, none⟩ = false := hb.frozen 3
  have hl := hb.lt
  have hta := fail_is
  have hca := @World.cell?_alloc_some
  have hfl := @World.frozen?_alloc_old
  refine callsD_of_wpS Tryz.func50 rfl fun c₀ cs hu => ?_
  apply wpS_seq
  apply wpS_region
  simp [wpOpsS, go_sem, recoverD, hu, Tryz.ntmps50, Exit.thenS]
  refine wpS_of_wp ?_
  change Code.wp _ _ _ (⟨#[.pointer (some ⟨g, 0, none⟩), .iface 92 (.agg #[.int .i64 c, .int .i64 pt, .int .i64 it, .int .i64 sb]), undef, undef, .iface 92 (.agg #[.int .i64 c, .int .i64 pt, .int .i64 it, .int .i64 sb]), undef, undef, undef, undef, undef, undef, undef, undef, undef, undef, undef], []⟩ : Act) w
  go_wp2
  clear h0 h1 h2 h3 f0 f1 f2 f3 hl hta hca hfl hb
  cases c₀
  simp_all [bodyPostS, results, Tryz.results50]

theorem diag_val (d : DiagD) : d.val = .agg #[.int .i64 d.code, .int .i64 d.part, .int .i64 d.item, .int .i64 d.sub] := rfl
/-- what program.Check answers -/
def diagM (p : ProgD) : DiagD := (checkM p).getD noDiag
theorem checkM_eq (p : ProgD) : checkM p = orE (limM p) (orE (hdrsM p) (orE (metaM p) (orE (objsM p) (flowM p)))) := by
  unfold checkM objsM
  cases limM p <;> cases hdrsM p <;> cases metaM p <;> cases regsM p <;> cases actsM p <;> cases tabsM p <;> rfl

/-- how Check's frame ends where nothing panicked, or where one of the checks did -/
theorem check_leaves (g : Nat) (w0 w : World) (tmps : Array Value) (o : Option DiagD) (m : FrameMode) (hg : w0.heap.size ≤ g) (hb : Below w0.heap.size w0 w) (hB : Blk w g 45 #[.int .i64 0, .int .i64 0, .int .i64 0, .int .i64 0])
    (ht : (tmps[2]?).getD undef = .pointer (some ⟨g, 0, none⟩)) (hm : (o = none ∧ m = .returning) ∨ ∃ d, o = some d ∧ m = .panicking [{ v := .iface 92 d.val, recovered := false }]) :
    Leaves Tryz.prog Tryz.f19 tmps (fun e w' => e = .returned (o.getD noDiag).val ∧ Below w0.heap.size w0 w') [{ target := .fn (.func 50) #[.pointer (some ⟨g, 0, none⟩)], args := #[] }] m w := by
  rcases hm with ⟨rfl, rfl⟩ | ⟨d, rfl, rfl⟩
  · have h0 : w.cell? ⟨g, 0, none⟩ = some (.int .i64 0) := hB.cell 0
    have h1 : w.cell? ⟨g, 1, none⟩ = some (.int .i64 0) := hB.cell 1
    have h2 : w.cell? ⟨g, 2, none⟩ = some (.int .i64 0) := hB.cell 2
    have h3 : w.cell? ⟨g, 3, none⟩ = some (.int .i64 0) := hB.cell 3
    refine leaves_cons (f := 50) (args := #[.pointer (some ⟨g, 0, none⟩)]) (by simp) (by simp [go_sem]) ?_
    refine (catch_none _ _).mono ?_
    rintro e u' w'' ⟨rfl, rfl, rfl⟩
    simp [Leaves, settle, results, Tryz.results19, go_sem, ht, h0, h1, h2, h3, noDiag, DiagD.val]
    exact hb
  · obtain ⟨dc, dp, di, ds⟩ := d
    refine leaves_cons (f := 50) (args := #[.pointer (some ⟨g, 0, none⟩)]) (by simp) (by simp [go_sem]) ?_
    refine (catch_some dc dp di ds g _ 0 0 0 0 w hB).mono ?_
    rintro e u' w'' ⟨rfl, rfl, rfl⟩
    have hB' := (((((hB.set_ 0 (.int .i64 dc)).set_ 1 (.int .i64 dp)).set_ 2 (.int .i64 di)).set_ 3 (.int .i64 ds)).alloc (.cells #[.int .i64 dc, .int .i64 dp, .int .i64 di, .int .i64 ds] 92))
    have e0 : Below w0.heap.size w0 (w.setCell ⟨g, 0, none⟩ (.int .i64 dc)) := hb.setCell hg _
    have e1 : Below w0.heap.size w0 ((w.setCell ⟨g, 0, none⟩ (.int .i64 dc)).setCell ⟨g, 1, none⟩ (.int .i64 dp)) := e0.setCell hg _
    have e2 : Below w0.heap.size w0 (((w.setCell ⟨g, 0, none⟩ (.int .i64 dc)).setCell ⟨g, 1, none⟩ (.int .i64 dp)).setCell ⟨g, 2, none⟩ (.int .i64 di)) := e1.setCell hg _
    have e3 : Below w0.heap.size w0 ((((w.setCell ⟨g, 0, none⟩ (.int .i64 dc)).setCell ⟨g, 1, none⟩ (.int .i64 dp)).setCell ⟨g, 2, none⟩ (.int .i64 di)).setCell ⟨g, 3, none⟩ (.int .i64 ds)) := e2.setCell hg _
    have hb' := below_alloc e3 (.cells #[.int .i64 dc, .int .i64 dp, .int .i64 di, .int .i64 ds] 92)
    generalize ((((w.setCell ⟨g, 0, none⟩ (.int .i64 dc)).setCell ⟨g, 1, none⟩ (.int .i64 dp)).setCell ⟨g, 2, none⟩ (.int .i64 di)).setCell ⟨g, 3, none⟩ (.int .i64 ds)).alloc (.cells #[.int .i64 dc, .int .i64 dp, .int .i64 di, .int .i64 ds] 92) = w9 at *
    have h0 : w9.cell? ⟨g, 0, none⟩ = some (.int .i64 dc) := hB'.cell 0
    have h1 : w9.cell? ⟨g, 1, none⟩ = some (.int .i64 dp) := hB'.cell 1
    have h2 : w9.cell? ⟨g, 2, none⟩ = some (.int .i64 di) := hB'.cell 2
    have h3 : w9.cell? ⟨g, 3, none⟩ = some (.int .i64 ds) := hB'.cell 3
    simp [Leaves, settle, results, Tryz.results19, go_sem, ht, h0, h1, h2, h3, DiagD.val]
    exact hb'

theorem lim_bounds {p : ProgD} (h : limM p = none) : p.headers.l.length ≤ 8 ∧ p.registers.l.length ≤ 4 ∧ p.actions.l.length ≤ 16 ∧ p.tables.l.length ≤ 12 := by
  unfold limM at h
  split at h
  · cases h
  split at h
  · cases h
  split at h
  · cases h
  split at h
  · cases h
  split at h
  · cases h
  exact ⟨by omega, by omega, by omega, by omega⟩
set_option maxRecDepth 100000 in
set_option maxHeartbeats 4000000 in
theorem check_any (p : ProgD) (w : World) (o : ProgOk w p) (hc : ProgCap p) (hN : (presM p.control.l).length ≤ 90000) :
    Calls Tryz.prog 19 #[.agg (progCells p)] w fun e w' => e = .returned (diagM p).val ∧ Below w.heap.size w w' := by
  have hmf : ∀ (fn : Fn) (first cap : Array Value) (w : World), (Instr.makeFunc fn first cap).run Tryz.prog w = .ok (.func fn first cap) w := fun _ _ _ _ => rfl
  have HO := Lib.hid o
  have HC := Lib.hid hc
  have HN := Lib.hid hN
  have HR := Lib.hid (checkM_eq p)
  obtain ⟨W, hW, hw, HB, hp⟩ := box2 w (progCells p) 31 #[.int .i64 0, .int .i64 0, .int .i64 0, .int .i64 0] 45
  have HW := Lib.hid hw
  have hbD : Blk W (w.heap.size + 1) 45 #[.int .i64 0, .int .i64 0, .int .i64 0, .int .i64 0] := by rw [hW]; exact (by simpa using Blk.new (w.alloc (.cells (progCells p) 31)) 45 #[.int .i64 0, .int .i64 0, .int .i64 0, .int .i64 0])
  have HD := Lib.hid hbD
  clear o hc hN hw hbD
  go_enter_defers Tryz.func19, Tryz.ntmps19
  go_upto_region 1 with fail
  rw [← hW]
  clear hW
  go_wp2_with fail
  refine (checkLimits_any p _ HO.out.name).mono ?_
  rintro e w1 ⟨rfl, hbN⟩
  replace HB := below_step (by first | exact HB | exact below_alloc HB _ | exact below_alloc (below_alloc HB _) _ | exact below_alloc (below_alloc (below_alloc HB _) _) _) hbN
  clear hbN
  rcases h1 : limM p with _ | d
  case some =>
    have HM : Hid (checkM p = some d) := Lib.hid (by rw [HR.out, h1]; rfl)
    simp only [outE]
    go_wp2
    rw [diagM, HM.out]
    exact check_leaves (w.heap.size + 1) w _ _ (some d) _ (Nat.le_succ _) (below_step HW.out HB) (HD.out.below HB HD.out.lt) rfl (.inr ⟨d, rfl, rfl⟩)
  replace HR := Lib.hid (HR.out.trans (or2 h1))
  have HLm := Lib.hid (lim_bounds h1)
  simp only [outE]
  go_wp2_with fail
  refine (checkHeaders_any p _ (HO.out.below (below_step HW.out (by first | exact HB | exact below_alloc HB _ | exact below_alloc (below_alloc HB _) _ | exact below_alloc (below_alloc (below_alloc HB _) _) _))) (by have := HLm.out.1; omega) HC.out.fields).mono ?_
  rintro e w2 ⟨rfl, hbN⟩
  replace HB := below_step (by first | exact HB | exact below_alloc HB _ | exact below_alloc (below_alloc HB _) _ | exact below_alloc (below_alloc (below_alloc HB _) _) _) hbN
  clear hbN
  rcases h2 : hdrsM p with _ | d
  case some =>
    have HM : Hid (checkM p = some d) := Lib.hid (by rw [HR.out, h2]; rfl)
    simp only [outE]
    go_wp2
    rw [diagM, HM.out]
    exact check_leaves (w.heap.size + 1) w _ _ (some d) _ (Nat.le_succ _) (below_step HW.out HB) (HD.out.below HB HD.out.lt) rfl (.inr ⟨d, rfl, rfl⟩)
  replace HR := Lib.hid (HR.out.trans (or2 h2))
  simp only [outE]
  go_wp2_with fail
  refine (checkMetadata_any p _ (HO.out.below (below_step HW.out (by first | exact HB | exact below_alloc HB _ | exact below_alloc (below_alloc HB _) _ | exact below_alloc (below_alloc (below_alloc HB _) _) _)))).mono ?_
  rintro e w3 ⟨rfl, hbN⟩
  replace HB := below_step (by first | exact HB | exact below_alloc HB _ | exact below_alloc (below_alloc HB _) _ | exact below_alloc (below_alloc (below_alloc HB _) _) _) hbN
  clear hbN
  rcases h3 : metaM p with _ | d
  case some =>
    have HM : Hid (checkM p = some d) := Lib.hid (by rw [HR.out, h3]; rfl)
    simp only [outE]
    go_wp2
    rw [diagM, HM.out]
    exact check_leaves (w.heap.size + 1) w _ _ (some d) _ (Nat.le_succ _) (below_step HW.out HB) (HD.out.below HB HD.out.lt) rfl (.inr ⟨d, rfl, rfl⟩)
  replace HR := Lib.hid (HR.out.trans (or2 h3))
  simp only [outE]
  go_wp2_with fail
  refine (checkObjects_any p _ (HO.out.below (below_step HW.out (by first | exact HB | exact below_alloc HB _ | exact below_alloc (below_alloc HB _) _ | exact below_alloc (below_alloc (below_alloc HB _) _) _))) (by have := HLm.out.2.1; omega) (by have := HLm.out.2.2.1; omega) (by have := HLm.out.2.2.2; omega) HC.out.params HC.out.dflt).mono ?_
  rintro e w4 ⟨rfl, hbN⟩
  replace HB := below_step (by first | exact HB | exact below_alloc HB _ | exact below_alloc (below_alloc HB _) _ | exact below_alloc (below_alloc (below_alloc HB _) _) _) hbN
  clear hbN
  rcases h4 : objsM p with _ | d
  case some =>
    have HM : Hid (checkM p = some d) := Lib.hid (by rw [HR.out, h4]; rfl)
    simp only [outE]
    go_wp2
    rw [diagM, HM.out]
    exact check_leaves (w.heap.size + 1) w _ _ (some d) _ (Nat.le_succ _) (below_step HW.out HB) (HD.out.below HB HD.out.lt) rfl (.inr ⟨d, rfl, rfl⟩)
  replace HR := Lib.hid (HR.out.trans (or2 h4))
  simp only [outE]
  go_wp2_with fail
  refine (checkFlow_any p _ (HO.out.below (below_step HW.out (by first | exact HB | exact below_alloc HB _ | exact below_alloc (below_alloc HB _) _ | exact below_alloc (below_alloc (below_alloc HB _) _) _))) HC.out HN.out).mono ?_
  rintro e w5 ⟨rfl, hbN⟩
  replace HB := below_step (by first | exact HB | exact below_alloc HB _ | exact below_alloc (below_alloc HB _) _ | exact below_alloc (below_alloc (below_alloc HB _) _) _) hbN
  clear hbN
  rcases h5 : flowM p with _ | d
  case some =>
    have HM : Hid (checkM p = some d) := Lib.hid (by rw [HR.out, h5])
    simp only [outE]
    go_wp2
    rw [diagM, HM.out]
    exact check_leaves (w.heap.size + 1) w _ _ (some d) _ (Nat.le_succ _) (below_step HW.out HB) (HD.out.below HB HD.out.lt) rfl (.inr ⟨d, rfl, rfl⟩)
  have HM : Hid (checkM p = none) := Lib.hid (by rw [HR.out, h5])
  simp only [outE]
  have hD := HD.out.below HB HD.out.lt
  have z0 : w5.cell? ⟨w.heap.size + 1, 0, none⟩ = some (.int .i64 0) := hD.cell 0
  have z1 : w5.cell? ⟨w.heap.size + 1, 1, none⟩ = some (.int .i64 0) := hD.cell 1
  have z2 : w5.cell? ⟨w.heap.size + 1, 2, none⟩ = some (.int .i64 0) := hD.cell 2
  have z3 : w5.cell? ⟨w.heap.size + 1, 3, none⟩ = some (.int .i64 0) := hD.cell 3
  have f0 : w5.frozen? ⟨w.heap.size + 1, 0, none⟩ = false := hD.frozen 0
  have f1 : w5.frozen? ⟨w.heap.size + 1, 1, none⟩ = false := hD.frozen 1
  have f2 : w5.frozen? ⟨w.heap.size + 1, 2, none⟩ = false := hD.frozen 2
  have f3 : w5.frozen? ⟨w.heap.size + 1, 3, none⟩ = false := hD.frozen 3
  have HBw := Lib.hid (below_step HW.out HB)
  have HD5 := Lib.hid hD
  clear hD hp HB
  go_wp2
  rw [diagM, HM.out]
  have e0 : Below w.heap.size w (w5.setCell ⟨w.heap.size + 1, 0, none⟩ (.int .i64 0)) := HBw.out.setCell (Nat.le_succ _) _
  have e1 : Below w.heap.size w ((w5.setCell ⟨w.heap.size + 1, 0, none⟩ (.int .i64 0)).setCell ⟨w.heap.size + 1, 1, none⟩ (.int .i64 0)) := e0.setCell (Nat.le_succ _) _
  have e2 : Below w.heap.size w (((w5.setCell ⟨w.heap.size + 1, 0, none⟩ (.int .i64 0)).setCell ⟨w.heap.size + 1, 1, none⟩ (.int .i64 0)).setCell ⟨w.heap.size + 1, 2, none⟩ (.int .i64 0)) := e1.setCell (Nat.le_succ _) _
  have e3 : Below w.heap.size w ((((w5.setCell ⟨w.heap.size + 1, 0, none⟩ (.int .i64 0)).setCell ⟨w.heap.size + 1, 1, none⟩ (.int .i64 0)).setCell ⟨w.heap.size + 1, 2, none⟩ (.int .i64 0)).setCell ⟨w.heap.size + 1, 3, none⟩ (.int .i64 0)) := e2.setCell (Nat.le_succ _) _
  exact check_leaves (w.heap.size + 1) w _ _ none _ (Nat.le_succ _) e3 ((((HD5.out.set_ 0 (.int .i64 0)).set_ 1 (.int .i64 0)).set_ 2 (.int .i64 0)).set_ 3 (.int .i64 0)) rfl (.inl ⟨rfl, rfl⟩)
end Go.Proofs.YtgfbikknkcaneaaGreat

