/- Walks of program.checkObjects and program.Check at the small programs. -/
import Derived.Test.YtgfbikknkcaneaaPgH
import Derived.Defers
import Derived.Recover
namespace Go.Proofs.Ytgfbikknkcaneaa
open Go.RowKit

set_option maxRecDepth 100000 in
set_option maxHeartbeats 4000000 in
theorem checkObjects_ok (s : Sm) (w : World) (h : SmAt w s) (o : SmOk s) :
    Calls Try.prog 26 #[s.prog.val] w fun e w' => e = .returned (.tuple #[]) ∧ Below w.heap.size w w' := by
  have HA := Lib.hid h
  have HO := Lib.hid o
  obtain ⟨W, hW, hb, hp⟩ := sm_box w s 42
  have HB := Lib.hid hb
  have HV := Lib.hid (Sm.val s)
  clear h hb o
  rw [Sm.val]
  go_enter Try.func26, Try.ntmps26
  go_wp2_with fail
  rw [← hW]
  clear hW
  have hn := names_register s.prog.registers W (HA.out.below HB.out).ok.registers (Nat.zero_le _)
  refine hn.mono ?_
  clear hn
  rintro e w1 ⟨A, c, rfl, _, hb1⟩
  rw [show s.prog.registers.l.length = 0 from rfl]
  go_wp2
  refine wp_loop_rounds 1 ?_
  rw [rounds_succ]
  go_wp2_with fail
  have hn := names_action s.prog.actions w1 (HA.out.below (below_step HB.out hb1)).ok.actions (show (1 : Nat) ≤ 100 by omega)
  refine hn.mono ?_
  clear hn
  rintro e w2 ⟨A2, c2, rfl, hown, hb2⟩
  rw [show s.prog.actions.l.length = 1 from rfl]
  obtain ⟨g, rfl, hg⟩ := OwnStrs.form hown (show 0 < 1 by omega)
  have HG := Lib.hid hg
  have B2 := below_step hb1 hb2
  clear hown hg
  go_wp2
  refine wp_loop_rounds 2 ?_
  rw [rounds_succ]
  go_wp2_with fail
  have hk := actionCheck_ok s w2 (HA.out.below (below_step HB.out B2)) HO.out
  rw [HV.out] at hk
  refine hk.mono ?_
  clear hk
  rintro e w3 ⟨rfl, hb3⟩
  go_wp2_with fail
  refine (require_ok _ _ _ _).mono ?_
  rintro e w' ⟨rfl, rfl⟩
  go_wp2_with fail
  refine (repeated_at _ 1 g c2 0 w2 w3 rfl (by omega) (by omega) HG.out hb3 rfl).mono ?_
  rintro e w4 ⟨rfl, hb4⟩
  go_wp2_with fail
  refine (when_false _ _ _ rfl).mono ?_
  rintro e w' ⟨rfl, rfl⟩
  go_wp2_with fail
  refine (require_ok _ _ _ _).mono ?_
  rintro e w' ⟨rfl, rfl⟩
  have B4 := below_step (below_step B2 hb3) hb4
  clear hb1 hb2 B2 hb3 hb4 HG
  go_wp2
  rw [rounds_succ]
  go_wp2_with fail
  have hn := names_table s.prog.tables w4 (HA.out.below (below_step HB.out B4)).ok.tables (show (1 : Nat) ≤ 100 by omega)
  refine hn.mono ?_
  clear hn
  rintro e w5 ⟨A5, c5, rfl, hown, hb5⟩
  rw [show s.prog.tables.l.length = 1 from rfl]
  obtain ⟨g5, rfl, hg⟩ := OwnStrs.form hown (show 0 < 1 by omega)
  have HG := Lib.hid hg
  have B5 := below_step B4 hb5
  clear hown hg B4 hb5
  go_wp2
  refine wp_loop_rounds 2 ?_
  rw [rounds_succ]
  go_wp2_with fail
  have hk := tableCheck_ok s w5 (HA.out.below (below_step HB.out B5)) HO.out
  rw [HV.out] at hk
  refine hk.mono ?_
  clear hk
  rintro e w6 ⟨rfl, hb6⟩
  go_wp2_with fail
  refine (require_ok _ _ _ _).mono ?_
  rintro e w' ⟨rfl, rfl⟩
  go_wp2_with fail
  refine (repeated_at _ 1 g5 c5 0 w5 w6 rfl (by omega) (by omega) HG.out hb6 rfl).mono ?_
  rintro e w7 ⟨rfl, hb7⟩
  go_wp2_with fail
  refine (when_false _ _ _ rfl).mono ?_
  rintro e w' ⟨rfl, rfl⟩
  go_wp2_with fail
  refine (require_ok _ _ _ _).mono ?_
  rintro e w' ⟨rfl, rfl⟩
  have B7 := Lib.hid (below_step HB.out (below_step (below_step B5 hb6) hb7))
  clear B5 hb6 hb7 HG
  go_wp2
  rw [rounds_succ]
  go_wp2
  go_end0
  exact ⟨rfl, B7.out⟩

/-- the deferred function of program.Check where nothing panics -/
theorem catch_idle (v : Value) (w : World) :
    CallsD Try.prog 22 #[v] .returning w fun e u' w' => e = .returned (.tuple #[]) ∧ u' = .returning ∧ w' = w := by
  refine callsD_of_wpS Try.func22 rfl fun c₀ cs hu => ?_
  apply wpS_seq
  apply wpS_region
  simp [wpOpsS, go_sem, recoverD, hu, Try.ntmps22, Exit.thenS]
  apply wpS_seq
  apply wpS_seq
  apply wpS_region
  simp [wpOpsS, go_sem, Exit.thenS]
  refine wpS_cond (t := true) (by simp [Act.eval]) ?_
  simp only [if_true]
  refine wpS_of_wp (wp_ret ?_)
  cases c₀
  simp_all [Exit.thenS, bodyPostS, results, Try.results22]

def zeroDiag : Value := .agg #[.int .i64 0, .int .i64 0, .int .i64 0, .int .i64 0]
theorem sm_limits (s : Sm) : LimitsOk s.prog := ⟨show ident ⟨#[112]⟩ = true by decide +kernel, Nat.zero_le _, Nat.zero_le _, show (1 : Nat) ≤ 16 by omega, show (1 : Nat) ≤ 12 by omega⟩
set_option maxRecDepth 100000 in
set_option maxHeartbeats 4000000 in
theorem check_ok (s : Sm) (w : World) (h : SmAt w s) (o : SmOk s) :
    Calls Try.prog 16 #[s.prog.val] w fun e w' => e = .returned (.agg #[.int .i64 0, .int .i64 0, .int .i64 0, .int .i64 0]) ∧ Below w.heap.size w w' := by
  have hmf : ∀ (fn : Fn) (first cap : Array Value) (w : World), (Instr.makeFunc fn first cap).run Try.prog w = .ok (.func fn first cap) w := fun _ _ _ _ => rfl
  have HA := Lib.hid h
  have HO := Lib.hid o
  obtain ⟨W, hW, hb, hp, hq⟩ := sm_box2 w s 42 #[.int .i64 0, .int .i64 0, .int .i64 0, .int .i64 0] 53
  have HB := Lib.hid hb
  have HV := Lib.hid (Sm.val s)
  have HF : Hid ((W.frozen? ⟨w.heap.size + 1, 0, none⟩ = false ∧ W.frozen? ⟨w.heap.size + 1, 1, none⟩ = false ∧ W.frozen? ⟨w.heap.size + 1, 2, none⟩ = false ∧ W.frozen? ⟨w.heap.size + 1, 3, none⟩ = false) ∧ w.heap.size + 1 < W.heap.size) := Lib.hid (by rw [hW]; exact ⟨⟨by simp, by simp, by simp, by simp⟩, by simp⟩)
  clear h hb o
  rw [Sm.val]
  go_enter_defers Try.func16, Try.ntmps16
  go_wp2_with fail
  rw [← hW]
  clear hW
  have hk := checkLimits_ok s.prog W (show (⟨#[112]⟩ : ByteArray).size ≤ maxLen by decide) (sm_limits s)
  rw [HV.out] at hk
  refine hk.mono ?_
  clear hk
  rintro e w1 ⟨rfl, hb1⟩
  go_wp2_with fail
  have hk := checkHeaders_none s.prog w1 (HA.out.below (below_step HB.out hb1)).ok rfl
  rw [HV.out] at hk
  refine hk.mono ?_
  clear hk
  rintro e w2 ⟨rfl, hb2⟩
  have b2 := below_step hb1 hb2
  clear hb1 hb2
  go_wp2_with fail
  have hk := checkMetadata_ok s.prog w2 (HA.out.below (below_step HB.out b2)).ok rfl
  rw [HV.out] at hk
  refine hk.mono ?_
  clear hk
  rintro e w3 ⟨rfl, hb3⟩
  have b3 := below_step b2 hb3
  clear b2 hb3
  go_wp2_with fail
  have hk := checkObjects_ok s w3 (HA.out.below (below_step HB.out b3)) HO.out
  rw [HV.out] at hk
  refine hk.mono ?_
  clear hk
  rintro e w4 ⟨rfl, hb4⟩
  have b4 := below_step b3 hb4
  clear b3 hb4
  go_wp2_with fail
  have hk := checkFlow_ok s w4 (HA.out.below (below_step HB.out b4))
  rw [HV.out] at hk
  refine hk.mono ?_
  clear hk
  rintro e w5 ⟨rfl, hb5⟩
  have b5 := below_step b4 hb5
  clear b4 hb5
  have hz0 : w5.cell? ⟨w.heap.size + 1, 0, none⟩ = some (.int .i64 0) := hq w5 0 b5 (by decide)
  have hz1 : w5.cell? ⟨w.heap.size + 1, 1, none⟩ = some (.int .i64 0) := hq w5 1 b5 (by decide)
  have hz2 : w5.cell? ⟨w.heap.size + 1, 2, none⟩ = some (.int .i64 0) := hq w5 2 b5 (by decide)
  have hz3 : w5.cell? ⟨w.heap.size + 1, 3, none⟩ = some (.int .i64 0) := hq w5 3 b5 (by decide)
  have hf0 := below_frozen b5 HF.out.1.1 HF.out.2
  have hf1 := below_frozen b5 HF.out.1.2.1 HF.out.2
  have hf2 := below_frozen b5 HF.out.1.2.2.1 HF.out.2
  have hf3 := below_frozen b5 HF.out.1.2.2.2 HF.out.2
  have HB5 := Lib.hid (below_step HB.out b5)
  clear b5 hp hq
  go_wp2
  refine leaves_cons (f := 22) (args := #[.pointer (some ⟨w.heap.size + 1, 0, none⟩)]) (by simp) (by simp [go_sem]) ?_
  refine (catch_idle _ _).mono ?_
  rintro e u' w'' ⟨rfl, rfl, rfl⟩
  simp [Leaves, settle, results, Try.results16, go_sem, hz0, hz1, hz2, hz3]
  exact (((HB5.out.setCell (Nat.le_succ _) _).setCell (Nat.le_succ _) _).setCell (Nat.le_succ _) _).setCell (Nat.le_succ _) _
end Go.Proofs.Ytgfbikknkcaneaa

