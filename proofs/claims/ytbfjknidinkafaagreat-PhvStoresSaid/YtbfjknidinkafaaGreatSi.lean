/- The walk of the law's fixed results. No condition. -/
import Derived.Test.YtbfjknidinkafaaGreatSd
import Derived.Test.YtbfjknidinkafaaGreatSa
import Derived.Test.YtbfjknidinkafaaGreatSb
import Derived.ScopeJumps
import Derived.WalkMore
import Derived.Test.YtbfjknidinkafaaGreatSc
import Derived.Deep.CutRange
import Derived.Laws.StructEq
import Derived.BigQuiet
namespace Go.Proofs.YtbfjknidinkafaaGreat
open Go.RowKit
set_option maxRecDepth 100000
set_option maxHeartbeats 16000000
theorem lsmall_any (p : ProgD) (w : World) (o : ProgOk w p) :
    Calls Tryz.prog 32 #[.agg (progCells p)] w fun e w' => Yes e (p.headers.l.length ≤ 12 ∧ (∀ k (h : k < p.headers.l.length), p.headers.l[k].fields.l.length ≤ 16) ∧ p.metadata.l.length ≤ 16 ∧ p.registers.l.length ≤ 8) ∧ Below w.heap.size w w' := by
  obtain ⟨W, hW⟩ : ∃ W, W = w.alloc (.cells (progCells p) 31) := ⟨_, rfl⟩
  have HW : Hid (Below w.heap.size w W) := hi_ (by rw [hW]; exact below1 _ _)
  have HP : Hid (Blk W w.heap.size 31 (progCells p)) := hi_ (by rw [hW]; exact Blk.new _ _ _)
  have HQ := hi_ (fun w' (h : Below W.heap.size W w') (i : Nat) => (HP.out.below h HP.out.lt).cell i)
  have HO := hi_ (o.below HW.out)
  have HB0 := hi_ (Below.refl W.heap.size W)
  clear o HP
  go_enter Tryz.func32, Tryz.ntmps32
  go_upto_region 1 with fail
  rw [← hW]
  clear hW
  have s0 : W.cell? ⟨w.heap.size, 0, none⟩ = some (.string p.name) := HQ.out W HB0.out 0
  have s1 : W.cell? ⟨w.heap.size, 1, none⟩ = some (.slice p.headers.A p.headers.l.length p.headers.c) := HQ.out W HB0.out 1
  have s2 : W.cell? ⟨w.heap.size, 2, none⟩ = some (.slice p.metadata.A p.metadata.l.length p.metadata.c) := HQ.out W HB0.out 2
  have s3 : W.cell? ⟨w.heap.size, 3, none⟩ = some (.slice p.registers.A p.registers.l.length p.registers.c) := HQ.out W HB0.out 3
  have s4 : W.cell? ⟨w.heap.size, 4, none⟩ = some (.slice p.actions.A p.actions.l.length p.actions.c) := HQ.out W HB0.out 4
  have s5 : W.cell? ⟨w.heap.size, 5, none⟩ = some (.slice p.tables.A p.tables.l.length p.tables.c) := HQ.out W HB0.out 5
  have s6 : W.cell? ⟨w.heap.size, 6, none⟩ = some (.slice p.states.A p.states.l.length p.states.c) := HQ.out W HB0.out 6
  have s8 : W.cell? ⟨w.heap.size, 8, none⟩ = some (.slice p.deparser.A p.deparser.l.length p.deparser.c) := HQ.out W HB0.out 8
  by_cases c0 : (40 : Int) < (p.name.size : Int)
  case pos =>
    go_wp2
    go_ret
    exact ⟨Yes.no, below_step HW.out HB0.out⟩
  by_cases c1 : (12 : Int) < (p.headers.l.length : Int)
  case pos =>
    go_wp2
    go_ret
    exact ⟨Yes.no, below_step HW.out HB0.out⟩
  go_wp2_with fail
  refine (lfields_any p.metadata W HO.out.metadata).mono ?_
  rintro e w' ⟨⟨b, rfl, hb⟩, rfl⟩
  cases b with
  | false =>
    go_wp2
    go_ret
    exact ⟨Yes.no, below_step HW.out HB0.out⟩
  | true =>
  have HM := hi_ (hb rfl)
  clear hb
  by_cases c3 : (8 : Int) < (p.registers.l.length : Int)
  case pos =>
    go_wp2
    go_ret
    exact ⟨Yes.no, below_step HW.out HB0.out⟩
  by_cases c4 : (20 : Int) < (p.actions.l.length : Int)
  case pos =>
    go_wp2
    go_ret
    exact ⟨Yes.no, below_step HW.out HB0.out⟩
  by_cases c5 : (16 : Int) < (p.tables.l.length : Int)
  case pos =>
    go_wp2
    go_ret
    exact ⟨Yes.no, below_step HW.out HB0.out⟩
  by_cases c6 : (16 : Int) < (p.states.l.length : Int)
  case pos =>
    go_wp2
    go_ret
    exact ⟨Yes.no, below_step HW.out HB0.out⟩
  by_cases c8 : (16 : Int) < (p.deparser.l.length : Int)
  case pos =>
    go_wp2
    go_ret
    exact ⟨Yes.no, below_step HW.out HB0.out⟩
  have HL : Hid (p.headers.l.length ≤ 12 ∧ p.registers.l.length ≤ 8) := hi_ ⟨by omega, by omega⟩
  have bn0 : p.headers.l.length ≤ 20 := by omega
  have bn1 : p.registers.l.length ≤ 20 := by omega
  have bn2 : p.actions.l.length ≤ 20 := by omega
  have bn3 : p.tables.l.length ≤ 20 := by omega
  have bn4 : p.states.l.length ≤ 20 := by omega
  go_wp2
  clear s0 s1 s2 s3 s4 s5 s6 s8 c0 c1 c3 c4 c5 c6 c8
  go_loopw [3] (fun iv wr => ∃ k : Nat, k ≤ p.headers.l.length ∧ iv = .int .i64 k ∧ Hid (∀ i (h : i < p.headers.l.length), i < k → p.headers.l[i].fields.l.length ≤ 16) ∧ Below W.heap.size W wr) (fun i _ => p.headers.l.length - (intOf i).toNat)
  case atStart => exact ⟨0, Nat.zero_le _, rfl, hi_ (fun i h h2 => absurd h2 (Nat.not_lt_zero _)), HB0.out⟩
  case round =>
  obtain ⟨k, hk, rfl, HY, HB⟩ := hrel
  have s1 : wr.cell? ⟨w.heap.size, 1, none⟩ = some (.slice p.headers.A p.headers.l.length p.headers.c) := HQ.out wr HB 1
  by_cases hlt : k < p.headers.l.length
  case pos =>
    obtain ⟨g, of, hA, hall⟩ := HeaderD.atA HO.out.headers hlt
    obtain ⟨d0, d1⟩ := hall wr HB
    have hf := (HO.out.hdr _ (List.getElem_mem hlt)).fields.below HB (Nat.le_refl _)
    have HS := hi_ (fun (hn : p.headers.l[k].fields.l.length ≤ 16) i (h : i < p.headers.l.length) (h2 : i < k + 1) => if e : i = k then (by subst e; exact hn : p.headers.l[i].fields.l.length ≤ 16) else HY.out i h (by omega))
    rw [hA] at s1
    have hBe := hi_ HB
    have HLT := hi_ (show k + 1 ≤ p.headers.l.length from hlt)
    clear HY hall hA
    generalize p.headers.l[k] = s at *
    obtain ⟨nm, fl⟩ := s
    simp only at d0 d1 hf HS
    by_cases t0 : (40 : Int) < (nm.size : Int)
    case pos =>
      go_wp2
      go_ret
      exact ⟨Yes.no, below_step HW.out (by exact hBe.out)⟩
    go_wp2_with fail
    refine (lfields_any fl wr hf).mono ?_
    rintro e w' ⟨⟨b, rfl, hb⟩, rfl⟩
    cases b with
    | false =>
      go_wp2
      go_ret
      exact ⟨Yes.no, below_step HW.out hBe.out⟩
    | true =>
    have HBn := hi_ (hb rfl)
    clear hb
    go_wp2
    go_roundw
    case rel => exact ⟨k + 1, HLT.out, by go_num, hi_ (HS.out HBn.out), hBe.out⟩
    case measure => have := HLT.out; simp [intOf]; omega
  have hk' : k = p.headers.l.length := by omega
  subst hk'
  have HF := HY
  have HBk := hi_ HB
  clear hk HB HY
  have s3 : wr.cell? ⟨w.heap.size, 3, none⟩ = some (.slice p.registers.A p.registers.l.length p.registers.c) := HQ.out wr HBk.out 3
  go_wp2
  clear s3 s1 hlt
  go_loopw [4] (fun iv wr => ∃ k : Nat, k ≤ p.registers.l.length ∧ iv = .int .i64 k ∧ Hid (True) ∧ Below W.heap.size W wr) (fun i _ => p.registers.l.length - (intOf i).toNat)
  case atStart => exact ⟨0, Nat.zero_le _, rfl, hi_ (trivial), HBk.out⟩
  case round =>
  obtain ⟨k, hk, rfl, HY, HB⟩ := hrel
  have s3 : wr.cell? ⟨w.heap.size, 3, none⟩ = some (.slice p.registers.A p.registers.l.length p.registers.c) := HQ.out wr HB 3
  by_cases hlt : k < p.registers.l.length
  case pos =>
    obtain ⟨g, of, hA, hall⟩ := RegD.atA HO.out.registers hlt
    obtain ⟨d0, d1, d2⟩ := hall wr HB
    rw [hA] at s3
    have hBe := hi_ HB
    have HLT := hi_ (show k + 1 ≤ p.registers.l.length from hlt)
    clear HY hall hA
    generalize p.registers.l[k] = s at *
    obtain ⟨nm, z1, z2⟩ := s
    simp only at d0 d1 d2
    by_cases t0 : (40 : Int) < (nm.size : Int)
    case pos =>
      go_wp2
      go_ret
      exact ⟨Yes.no, below_step HW.out (by exact hBe.out)⟩
    go_wp2
    go_roundw
    case rel => exact ⟨k + 1, HLT.out, by go_num, hi_ trivial, by exact hBe.out⟩
    case measure => have := HLT.out; simp [intOf]; omega
  have hk' : k = p.registers.l.length := by omega
  subst hk'
  have HBk := hi_ HB
  clear hk HB HY
  have s4 : wr.cell? ⟨w.heap.size, 4, none⟩ = some (.slice p.actions.A p.actions.l.length p.actions.c) := HQ.out wr HBk.out 4
  go_wp2
  clear s4 s3 hlt
  go_loopw [5] (fun iv wr => ∃ k : Nat, k ≤ p.actions.l.length ∧ iv = .int .i64 k ∧ Hid (True) ∧ Below W.heap.size W wr) (fun i _ => p.actions.l.length - (intOf i).toNat)
  case atStart => exact ⟨0, Nat.zero_le _, rfl, hi_ (trivial), HBk.out⟩
  case round =>
  obtain ⟨k, hk, rfl, HY, HB⟩ := hrel
  have s4 : wr.cell? ⟨w.heap.size, 4, none⟩ = some (.slice p.actions.A p.actions.l.length p.actions.c) := HQ.out wr HB 4
  by_cases hlt : k < p.actions.l.length
  case pos =>
    obtain ⟨g, of, hA, hall⟩ := ActD.atA HO.out.actions hlt
    obtain ⟨d0, d1, d2⟩ := hall wr HB
    have hf := (HO.out.act _ (List.getElem_mem hlt)).below HB
    rw [hA] at s4
    have hBe := hi_ HB
    have HLT := hi_ (show k + 1 ≤ p.actions.l.length from hlt)
    clear HY hall hA
    generalize p.actions.l[k] = s at *
    obtain ⟨nm, pr, bd⟩ := s
    simp only at d0 d1 d2
    go_wp2_with fail
    refine (lbody_any ⟨nm, pr, bd⟩ wr hf).mono ?_
    rintro e w' ⟨⟨b, rfl, hb⟩, hb2⟩
    cases b with
    | false =>
      go_wp2
      go_ret
      exact ⟨Yes.no, below_step HW.out (below_step hBe.out hb2)⟩
    | true =>
    have HBn := hi_ (hb rfl)
    clear hb
    go_wp2
    go_roundw
    case rel => exact ⟨k + 1, HLT.out, by go_num, hi_ trivial, (below_step hBe.out hb2)⟩
    case measure => have := HLT.out; simp [intOf]; omega
  have hk' : k = p.actions.l.length := by omega
  subst hk'
  have HBk := hi_ HB
  clear hk HB HY
  have s5 : wr.cell? ⟨w.heap.size, 5, none⟩ = some (.slice p.tables.A p.tables.l.length p.tables.c) := HQ.out wr HBk.out 5
  go_wp2
  clear s5 s4 hlt
  go_loopw [6, 7] (fun iv _ wr => ∃ k : Nat, k ≤ p.tables.l.length ∧ iv = .int .i64 k ∧ Hid (True) ∧ Below W.heap.size W wr) (fun i _ _ => p.tables.l.length - (intOf i).toNat)
  case atStart => exact ⟨0, Nat.zero_le _, rfl, hi_ (trivial), HBk.out⟩
  case round =>
  obtain ⟨k, hk, rfl, HY, HB⟩ := hrel
  have s5 : wr.cell? ⟨w.heap.size, 5, none⟩ = some (.slice p.tables.A p.tables.l.length p.tables.c) := HQ.out wr HB 5
  by_cases hlt : k < p.tables.l.length
  case pos =>
    obtain ⟨g, of, hA, hall⟩ := TabD.atA HO.out.tables hlt
    obtain ⟨d0, d1, d2, d3, d4, d5⟩ := hall wr HB
    rw [hA] at s5
    have hBe := hi_ HB
    have HLT := hi_ (show k + 1 ≤ p.tables.l.length from hlt)
    clear HY hall hA
    generalize p.tables.l[k] = s at *
    obtain ⟨nm, ks, ac, da, ar, sz⟩ := s
    simp only at d0 d1 d2 d3 d4 d5
    have hca := @World.cell?_alloc_some
    by_cases t0 : (40 : Int) < (nm.size : Int)
    case pos =>
      go_wp2
      go_ret
      exact ⟨Yes.no, below_step HW.out (by exact below_alloc hBe.out _)⟩
    by_cases t1 : (10 : Int) < (ks.l.length : Int)
    case pos =>
      go_wp2
      go_ret
      exact ⟨Yes.no, below_step HW.out (by exact below_alloc hBe.out _)⟩
    by_cases t2 : (24 : Int) < (ac.l.length : Int)
    case pos =>
      go_wp2
      go_ret
      exact ⟨Yes.no, below_step HW.out (by exact below_alloc hBe.out _)⟩
    by_cases t3 : (10 : Int) < (ar.l.length : Int)
    case pos =>
      go_wp2
      go_ret
      exact ⟨Yes.no, below_step HW.out (by exact below_alloc hBe.out _)⟩
    go_wp2
    go_roundw
    case rel => exact ⟨k + 1, HLT.out, by go_num, hi_ trivial, by exact below_alloc hBe.out _⟩
    case measure => have := HLT.out; simp [intOf]; omega
  have hk' : k = p.tables.l.length := by omega
  subst hk'
  have HBk := hi_ HB
  clear hk HB HY
  have s6 : wr.cell? ⟨w.heap.size, 6, none⟩ = some (.slice p.states.A p.states.l.length p.states.c) := HQ.out wr HBk.out 6
  go_wp2
  clear s6 s5 hlt
  go_loopw [8] (fun iv wr => ∃ k : Nat, k ≤ p.states.l.length ∧ iv = .int .i64 k ∧ Hid (True) ∧ Below W.heap.size W wr) (fun i _ => p.states.l.length - (intOf i).toNat)
  case atStart => exact ⟨0, Nat.zero_le _, rfl, hi_ (trivial), HBk.out⟩
  case round =>
  obtain ⟨k, hk, rfl, HY, HB⟩ := hrel
  have s6 : wr.cell? ⟨w.heap.size, 6, none⟩ = some (.slice p.states.A p.states.l.length p.states.c) := HQ.out wr HB 6
  by_cases hlt : k < p.states.l.length
  case pos =>
    obtain ⟨g, of, hA, hall⟩ := StateD.atA HO.out.states hlt
    obtain ⟨d0, d1, d2, d3, d4, d5, d6⟩ := hall wr HB
    rw [hA] at s6
    have hBe := hi_ HB
    have HLT := hi_ (show k + 1 ≤ p.states.l.length from hlt)
    clear HY hall hA
    generalize p.states.l[k] = s at *
    obtain ⟨nm, ex, sl, oh, of2, cs, df⟩ := s
    simp only at d0 d1 d2 d3 d4 d5 d6
    by_cases t0 : (40 : Int) < (nm.size : Int)
    case pos =>
      go_wp2
      go_ret
      exact ⟨Yes.no, below_step HW.out (by exact hBe.out)⟩
    by_cases t1 : (8 : Int) < (ex.l.length : Int)
    case pos =>
      go_wp2
      go_ret
      exact ⟨Yes.no, below_step HW.out (by exact hBe.out)⟩
    by_cases t2 : (16 : Int) < (cs.l.length : Int)
    case pos =>
      go_wp2
      go_ret
      exact ⟨Yes.no, below_step HW.out (by exact hBe.out)⟩
    go_wp2
    go_roundw
    case rel => exact ⟨k + 1, HLT.out, by go_num, hi_ trivial, by exact hBe.out⟩
    case measure => have := HLT.out; simp [intOf]; omega
  have hk' : k = p.states.l.length := by omega
  subst hk'
  have HBk := hi_ HB
  clear hk HB HY
  go_wp2
  go_ret
  exact ⟨Yes.yes ⟨HL.out.1, fun k h => HF.out k h h, HM.out, HL.out.2⟩, below_step HW.out HBk.out⟩
theorem csize_any : ∀ (d : Nat) (D : Int) (x : L CtlD) (M : Int) (w : World), D = d → d ≤ 12 → -1 ≤ M → M ≤ 60 → LOk w 5 CtlD.cells x → CtlsOk w x.l →
    Calls Tryz.prog 82 #[.slice x.A x.l.length x.c, .int .i64 M, .int .i64 D] w fun e w' => (∃ n : Int, e = .returned (.int .i64 n) ∧ n ≤ M + 1 ∧ (n ≤ M → ((presM x.l).length : Int) = n) ∧ 0 ≤ n) ∧ Below w.heap.size w w'
  | d, D, ⟨cl, cA, cc⟩, M, w, hD, hd, hM1, hM2, hc, hcs => by
    have IH : Hid (∀ d', d' + 1 = d → ∀ (D : Int) (x : L CtlD) (M : Int) (w : World), D = d' → d' ≤ 12 → -1 ≤ M → M ≤ 60 → LOk w 5 CtlD.cells x → CtlsOk w x.l →
      Calls Tryz.prog 82 #[.slice x.A x.l.length x.c, .int .i64 M, .int .i64 D] w fun e w' => (∃ n : Int, e = .returned (.int .i64 n) ∧ n ≤ M + 1 ∧ (n ≤ M → ((presM x.l).length : Int) = n) ∧ 0 ≤ n) ∧ Below w.heap.size w w') := hi_ (fun d' he => by
        subst he
        exact csize_any d')
    have HC := hi_ hc
    have HCS := hi_ hcs
    have hl := hc.1
    unfold maxLen at hl
    have HDd := hi_ hD
    have hD1 : 0 ≤ D := by omega
    have hD2 : D ≤ 12 := by omega
    simp only at hl HCS ⊢
    clear hc hcs hD
    go_enter Tryz.func82, Tryz.ntmps82
    go_wp2
    go_loopw [7, 8] (fun nv iv wr => ∃ (k : Nat) (n : Int), k ≤ cl.length ∧ iv = .int .i64 k ∧ nv = .int .i64 n ∧ n ≤ M + 1 ∧ 0 ≤ n ∧ Hid (n ≤ M → ((presM (cl.take k)).length : Int) = n) ∧ Below w.heap.size w wr) (fun _ i _ => cl.length - (intOf i).toNat)
    case atStart => exact ⟨0, 0, Nat.zero_le _, rfl, rfl, by omega, by omega, hi_ (fun _ => rfl), Below.refl _ _⟩
    case round =>
      obtain ⟨k, n, hk, rfl, rfl, hn, hn0, HG, HB⟩ := hrel
      by_cases hlt : k < cl.length
      case neg =>
        have HR : Hid (n ≤ M → ((presM cl).length : Int) = n) := hi_ (by have := HG.out; rwa [List.take_of_length_le (by omega)] at this)
        go_wp2
        go_ret
        exact ⟨⟨n, rfl, by omega, HR.out, hn0⟩, HB⟩
      by_cases hn1 : n ≤ M
      case neg =>
        go_wp2
        go_ret
        exact ⟨⟨n, rfl, by omega, fun h => by omega, hn0⟩, HB⟩
      obtain ⟨g0, of0, hA, hall⟩ := CtlD.atA (HC.out.below HB (Nat.le_refl _)) hlt
      simp only at hA
      subst hA
      have HX : Hid (CtlOk w cl[k]) := hi_ (ctls_mem HCS.out (List.getElem_mem hlt))
      have HP1 : Hid (presM (cl.take (k + 1)) = presM (cl.take k) ++ cl[k] :: (presM cl[k].th.l ++ presM cl[k].el.l)) := hi_ (by rw [take_snoc cl k hlt, presM_snoc])
      generalize cl[k] = x at *
      have HXt : Hid (LOk w 5 CtlD.cells x.th ∧ CtlsOk w x.th.l) := hi_ ⟨(ctl_parts HX.out).2.1, (ctl_parts HX.out).2.2.2.1⟩
      have HXe : Hid (LOk w 5 CtlD.cells x.el ∧ CtlsOk w x.el.l) := hi_ ⟨(ctl_parts HX.out).2.2.1, (ctl_parts HX.out).2.2.2.2⟩
      clear HX
      obtain ⟨_, _, d2, d3, d4⟩ := hall wr (Below.refl _ _)
      have HN : Hid (∀ a b : Int, ((presM x.th.l).length : Int) = a → ((presM x.el.l).length : Int) = b → ((presM (cl.take (k + 1))).length : Int) = n + 1 + a + b) := hi_ (fun a b ha hb => by
        have h1 := HG.out hn1
        rw [HP1.out, List.length_append, List.length_cons, List.length_append]
        omega)
      clear HP1 HG
      have hb4 : Hid (∀ w', Below wr.heap.size wr w' → w'.cell? ⟨g0, of0 + k * 5 + 4, none⟩ = some (.slice x.el.A x.el.l.length x.el.c)) :=
            hi_ (fun w' h => (hall w' h).2.2.2.2)
      clear hall
      by_cases h40 : 40 < x.cond.l.length
      · have h40' : (40 : Int) < (x.cond.l.length : Int) := by omega
        clear h40
        go_wp2
        go_ret
        exact ⟨⟨M + 1, by first | rfl | (rw [IntWalk.i64_in (M + 1) (by omega)]), by omega, fun h => absurd h (by omega), by omega⟩, HB⟩
      have h40' : ¬ (40 : Int) < (x.cond.l.length : Int) := by omega
      clear h40
      by_cases hd0 : D = 0
      · have hDb : (D == 0) = true := beq_iff_eq.2 hd0
        go_wp2
        go_ret
        exact ⟨⟨M + 1, by first | rfl | (rw [IntWalk.i64_in (M + 1) (by omega)]), by omega, fun h => absurd h (by omega), by omega⟩, HB⟩
      have hDb : (D == 0) = false := beq_eq_false_iff_ne.2 hd0
      have HIH := hi_ (fun x M w => IH.out (d - 1) (by have := HDd.out; omega) (D - 1) x M w (by have := HDd.out; omega) (by omega))
      generalize x.cond = xcd at *
      generalize x.th = xt at *
      generalize x.el = xe at *
      obtain ⟨tl, tA, tc⟩ := xt
      obtain ⟨el, eA, ec⟩ := xe
      simp only at d3 d4 HXt HXe HN hb4
      have HBw := hi_ HB
      have hw1 : IntKind.i64.wrap (n + 1) = n + 1 := IntWalk.i64_in (n + 1) (by omega)
      have HCt : Hid (∀ w' M, Below wr.heap.size wr w' → -1 ≤ M → M ≤ 60 → Calls Tryz.prog 82 #[.slice tA tl.length tc, .int .i64 M, .int .i64 (D - 1)] w' fun e w2 => (∃ n : Int, e = .returned (.int .i64 n) ∧ n ≤ M + 1 ∧ (n ≤ M → ((presM tl).length : Int) = n) ∧ 0 ≤ n) ∧ Below w'.heap.size w' w2) :=
        hi_ (fun w' M h h1 h2 => HIH.out ⟨tl, tA, tc⟩ M w' h1 h2 (HXt.out.1.below (below_step HBw.out h) (Nat.le_refl _)) (CtlsOk.below (below_step HBw.out h) HXt.out.2))
      have HCe : Hid (∀ w' M, Below wr.heap.size wr w' → -1 ≤ M → M ≤ 60 → Calls Tryz.prog 82 #[.slice eA el.length ec, .int .i64 M, .int .i64 (D - 1)] w' fun e w2 => (∃ n : Int, e = .returned (.int .i64 n) ∧ n ≤ M + 1 ∧ (n ≤ M → ((presM el).length : Int) = n) ∧ 0 ≤ n) ∧ Below w'.heap.size w' w2) :=
        hi_ (fun w' M h h1 h2 => HIH.out ⟨el, eA, ec⟩ M w' h1 h2 (HXe.out.1.below (below_step HBw.out h) (Nat.le_refl _)) (CtlsOk.below (below_step HBw.out h) HXe.out.2))
      clear HB HXt HXe HIH
      have H0 := hi_ (Below.refl wr.heap.size wr)
      go_wp2_with fail
      refine (HCt.out wr (M - (n + 1)) H0.out (by omega) (by omega)).mono ?_
      rintro e w1 ⟨⟨a, rfl, ha1, ha2, ha0⟩, hb1⟩
      have hA1 : a ≤ M - n := by omega
      have HA2 : Hid (a ≤ M - (n + 1) → ((presM tl).length : Int) = a) := hi_ (fun h => ha2 h)
      clear ha1 ha2 d2 d3 d4 HCt
      have d4 := hb4.out w1 hb1
      have HB1 := hi_ hb1
      clear hb1
      by_cases hle : n + 1 + a ≤ M
      case neg =>
        have hwq : IntKind.i64.wrap (n + 1 + a) = n + 1 + a := IntWalk.i64_in (n + 1 + a) (by omega)
        go_wp2
        go_roundw
        case rel => exact ⟨k + 1, n + 1 + a, by omega, by go_num, by go_num, by omega, by omega, hi_ (fun h => by omega), below_step HBw.out HB1.out⟩
        case measure => simp [intOf]; omega
      go_wp2_with fail
      refine (HCe.out w1 (M - (n + 1 + a)) HB1.out (by omega) (by omega)).mono ?_
      rintro e w2 ⟨⟨b, rfl, hb1, hb2, hb0⟩, hbb⟩
      have hB1 : b ≤ M - (n + 1 + a) + 1 := by omega
      have HB2 : Hid (b ≤ M - (n + 1 + a) → ((presM el).length : Int) = b) := hi_ (fun h => hb2 h)
      have HBB := hi_ hbb
      clear hb1 hb2 hbb
      go_wp2
      go_roundw
      case rel => exact ⟨k + 1, n + 1 + a + b, by omega, by go_num, by go_num, by omega, by omega, hi_ (fun h => HN.out a b (HA2.out (by omega)) (HB2.out (by omega))), below_step HBw.out (below_step HB1.out HBB.out)⟩
      case measure => simp [intOf]; omega
termination_by d => d
theorem csmall_any (x : L CtlD) (w : World) (h : LOk w 5 CtlD.cells x) (h2 : CtlsOk w x.l) :
    Calls Tryz.prog 33 #[.slice x.A x.l.length x.c, .int .i64 40] w fun e w' => Yes e ((presM x.l).length ≤ 40) ∧ Below w.heap.size w w' := by
  have HS := hi_ (csize_any 12 12 x 40 w rfl (by decide) (by decide) (by decide) h h2)
  clear h h2
  go_enter Tryz.func33, Tryz.ntmps33
  go_wp2_with fail
  refine HS.out.mono ?_
  rintro e w1 ⟨⟨n, rfl, hn, hp, h0⟩, hb⟩
  have HP := hi_ hp
  clear hp
  go_wp2
  go_ret
  exact ⟨⟨decide (n ≤ 40), rfl, fun h => by have := HP.out (of_decide_eq_true h); have := of_decide_eq_true h; omega⟩, hb⟩
structure Sm36 (p : ProgD) : Prop where
  headers : p.headers.l.length ≤ 12
  fields : ∀ k (h : k < p.headers.l.length), p.headers.l[k].fields.l.length ≤ 16
  metadata : p.metadata.l.length ≤ 16
  registers : p.registers.l.length ≤ 8
  nodes : (presM p.control.l).length ≤ 40
theorem Sm36.acc {p : ProgD} (h : Sm36 p) (hc : p.headers.l.length ≤ p.headers.c) : AccSm p :=
  ⟨Nat.le_trans h.headers (by decide), fun k => by
    by_cases hk : k < p.headers.l.length
    · rw [nF_at hk]; exact Nat.le_trans (h.fields k hk) (by decide)
    · rw [nF, List.getElem?_eq_none (by omega)]; exact Nat.zero_le _, Nat.le_trans h.metadata (by decide), Nat.le_trans h.registers (by decide), hc⟩
theorem small36_any (p : ProgD) (w : World) (o : ProgOk w p) :
    Calls Tryz.prog 9 #[.agg (progCells p)] w fun e w' => Yes e (Sm36 p) ∧ Below w.heap.size w w' := by
  obtain ⟨W, hW, hw, HB, hp⟩ := box1 w (progCells p) 31
  have HW := hi_ hw
  have HS1 := hi_ (fun u (hb : Below W.heap.size W u) => lsmall_any p u (o.below (below_step hw hb)))
  have HS2 := hi_ (fun u (hb : Below W.heap.size W u) => csmall_any p.control u (o.control.below (below_step hw hb) (Nat.le_refl _)) (CtlsOk.below (below_step hw hb) o.ctl))
  clear o hw
  go_enter Tryz.func9, Tryz.ntmps9
  go_upto_region 1 with fail
  rw [← hW]
  clear hW
  have hp3 := hp W HB
  go_wp2_with fail
  refine (HS1.out _ HB).mono ?_
  rintro e w1 ⟨⟨b, rfl, hb⟩, hb1⟩
  replace HB := below_step HB hb1
  clear hp3
  have hp3 := hp w1 HB
  cases b with
  | false =>
    go_wp2
    go_ret
    exact ⟨Yes.no, below_step HW.out HB⟩
  | true =>
  have HY := hi_ (hb rfl)
  clear hb
  go_wp2_with fail
  refine (HS2.out _ HB).mono ?_
  rintro e w2 ⟨⟨c, rfl, hc⟩, hb2⟩
  replace HB := below_step HB hb2
  cases c with
  | false =>
    go_wp2
    go_ret
    exact ⟨Yes.no, below_step HW.out HB⟩
  | true =>
  have HZ := hi_ (hc rfl)
  clear hc
  go_wp2
  go_ret
  exact ⟨Yes.yes ⟨HY.out.1, HY.out.2.1, HY.out.2.2.1, HY.out.2.2.2, HZ.out⟩, below_step HW.out HB⟩
@[reducible] def poolCells (c : ChipD) (s : AllocS) : Array Value := #[.int .i64 s.u0, .int .i64 s.u1, .int .i64 s.u2, .int .i64 c.c8, .int .i64 c.c16, .int .i64 c.c32]
theorem grow_set {a w : World} {g : Nat} (h : a.grownBy w (some g)) {p : Addr} (hp : p.block = g ∨ a.heap.size ≤ p.block) (v : Value) : a.grownBy (w.setCell p v) (some g) :=
  ⟨h.os, h.tape, h.output, by simpa using h.size, fun i hi hne => (Below.heap_setCell w p v i (by rcases hp with e | e; exact (fun e2 => hne (by rw [e2, e])); omega)).trans (h.block i hi hne)⟩
theorem grow_put4 {a w : World} {g k : Nat} (h : a.grownBy w (some g)) (hk : a.heap.size ≤ k) (x y z u : Value) : a.grownBy ((((w.setCell ⟨k, 0, none⟩ x).setCell ⟨k, 1, none⟩ y).setCell ⟨k, 2, none⟩ z).setCell ⟨k, 3, none⟩ u) (some g) :=
  grow_set (grow_set (grow_set (grow_set h (.inr hk) x) (.inr hk) y) (.inr hk) z) (.inr hk) u
def TakeEnd (c : ChipD) (r : Option (Int × Int × AllocS)) (s : AllocS) (ws : Int) (g : Nat) (w : World) (e : Ending) (w' : World) : Prop :=
  w.grownBy w' (some g) ∧ match r with
  | none => e = .returned (.tuple #[.agg #[.int .i64 0, .int .i64 0, .int .i64 0, .int .i64 0], .bool false]) ∧ Blk w' g 87 (poolCells c s)
  | some (z, n, t) => e = .returned (.tuple #[.agg #[.int .i64 z, .int .i64 n, .int .i64 0, .int .i64 ws], .bool true]) ∧ Blk w' g 87 (poolCells c t)
theorem put4b {w : World} {k : Nat} {t : TypeId} {a b c d : Value} (h : Blk w k t #[a, b, c, d]) (x y z u : Value) :
    Blk ((((w.setCell ⟨k, 0, none⟩ x).setCell ⟨k, 1, none⟩ y).setCell ⟨k, 2, none⟩ z).setCell ⟨k, 3, none⟩ u) k t #[x, y, z, u] := (((h.set_ 0 x).set_ 1 y).set_ 2 z).set_ 3 u
theorem far4 {w : World} {g k : Nat} {t : TypeId} {cs : Array Value} (h : Blk w g t cs) (hk : g ≠ k) (x y z u : Value) :
    Blk ((((w.setCell ⟨k, 0, none⟩ x).setCell ⟨k, 1, none⟩ y).setCell ⟨k, 2, none⟩ z).setCell ⟨k, 3, none⟩ u) g t cs := (((h.far (by exact hk) x).far (by exact hk) y).far (by exact hk) z).far (by exact hk) u
theorem ptake_any (c : ChipD) (s : AllocS) (ws : Int) (g : Nat) (w : World) (hb : Blk w g 87 (poolCells c s)) (h0 : 0 ≤ s.u0 ∧ s.u0 ≤ 64) (h1 : 0 ≤ s.u1 ∧ s.u1 ≤ 64) (h2 : 0 ≤ s.u2 ∧ s.u2 ≤ 64) :
    Calls Tryz.prog 41 #[.pointer (some ⟨g, 0, none⟩), .int .i64 ws] w fun e w' => TakeEnd c (takeC c s ws) s ws g w e w' := by
  obtain ⟨u0, u1, u2, op⟩ := s
  simp only [poolCells] at hb h0 h1 h2
  obtain ⟨V, hV⟩ : ∃ V, V = w.alloc (.cells #[.int .i64 0, .int .i64 0, .int .i64 0, .int .i64 0] 48) := ⟨_, rfl⟩
  have hgw := hb.lt
  have HP : Hid (Blk V g 87 #[.int .i64 u0, .int .i64 u1, .int .i64 u2, .int .i64 c.c8, .int .i64 c.c16, .int .i64 c.c32]) := hi_ (by rw [hV]; exact hb.alloc _)
  have HS : Hid (Blk V w.heap.size 48 #[.int .i64 0, .int .i64 0, .int .i64 0, .int .i64 0]) := hi_ (by rw [hV]; exact Blk.new _ _ _)
  have HBV : Hid (w.grownBy V (some g)) := hi_ (by rw [hV]; exact only_of_below (below1 _ _) _)
  have p0 : V.cell? ⟨g, 0, none⟩ = some (.int .i64 u0) := HP.out.cell 0
  have p1 : V.cell? ⟨g, 1, none⟩ = some (.int .i64 u1) := HP.out.cell 1
  have p2 : V.cell? ⟨g, 2, none⟩ = some (.int .i64 u2) := HP.out.cell 2
  have p3 : V.cell? ⟨g, 3, none⟩ = some (.int .i64 c.c8) := HP.out.cell 3
  have p4 : V.cell? ⟨g, 4, none⟩ = some (.int .i64 c.c16) := HP.out.cell 4
  have p5 : V.cell? ⟨g, 5, none⟩ = some (.int .i64 c.c32) := HP.out.cell 5
  have f0 : ∀ j, V.frozen? ⟨g, j, none⟩ = false := fun j => HP.out.frozen j
  have q0 : V.cell? ⟨w.heap.size, 0, none⟩ = some (.int .i64 0) := HS.out.cell 0
  have q1 : V.cell? ⟨w.heap.size, 1, none⟩ = some (.int .i64 0) := HS.out.cell 1
  have q2 : V.cell? ⟨w.heap.size, 2, none⟩ = some (.int .i64 0) := HS.out.cell 2
  have q3 : V.cell? ⟨w.heap.size, 3, none⟩ = some (.int .i64 0) := HS.out.cell 3
  have e0 : ∀ j, V.frozen? ⟨w.heap.size, j, none⟩ = false := fun j => HS.out.frozen j
  clear hb
  have HT := hi_ (takeC.eq_1 c ⟨u0, u1, u2, op⟩ ws)
  simp only at HT
  generalize takeC c ⟨u0, u1, u2, op⟩ ws = R at *
  go_enter Tryz.func41, Tryz.ntmps41
  go_wp2
  rw [← hV]
  clear hV
  refine wp_scope_jumps 0 (fun a' w' => ∃ (k n : Nat) (v7 v8 v9 v10 v11 v12 v13 v14 v15 v16 v17 v18 v19 v20 v21 v22 v23 v24 v25 v26 v27 v28 v29 v30 v31 v32 v33 v34 v35 v36 v37 v38 v39 v40 v41 v42 v43 v44 v45 v46 v47 v48 v49 v50 v51 v52 : Value), (k = 1 ∨ k = 2 ∨ k = 3) ∧ Hid (¬ (ws ≤ 8 ∧ u0 < c.c8)) ∧ Hid (1 < k → ¬ (ws ≤ 16 ∧ u1 < c.c16)) ∧ Hid (2 < k → ¬ (ws ≤ 32 ∧ u2 < c.c32)) ∧ w' = V.drewN n ∧ a' = { tmps := #[.pointer (some ⟨g, 0, none⟩), .int .i64 ws, undef, undef, .pointer (some ⟨w.heap.size, 0, none⟩), .bool false, .int .i64 (k : Nat), v7, v8, v9, v10, v11, v12, v13, v14, v15, v16, v17, v18, v19, v20, v21, v22, v23, v24, v25, v26, v27, v28, v29, v30, v31, v32, v33, v34, v35, v36, v37, v38, v39, v40, v41, v42, v43, v44, v45, v46, v47, v48, v49, v50, v51, v52], defers := [] }) (fun a' _ => 3 - (intOf (a'.tmps.getD 6 undef)).toNat) rfl ?_ ?_
  · go_wp2
    go_step3
    go_upto_region 5 with fail
    by_cases ha : (8 : Int) < ws
    · skip
      have b0 : decide ((8 : Int) < ws) = true := decide_eq_true (by omega)
      go_quiet (fail)
      go_wp2
      go_step3
      exact ⟨rfl, ⟨1, _, _, _, _, _, _, _, _, _, _, _, _, _, _, _, _, _, _, _, _, _, _, _, _, _, _, _, _, _, _, _, _, _, _, _, _, _, _, _, _, _, _, _, _, _, _, _, by omega, hi_ (by omega), hi_ (fun h => (by omega)), hi_ (fun h => (by omega)), rfl, rfl⟩⟩
    by_cases hc : c.c8 ≤ u0
    · skip
      have b0 : decide ((8 : Int) < ws) = false := decide_eq_false (by omega)
      have b1 : decide (c.c8 ≤ u0) = true := decide_eq_true (by omega)
      go_quiet (fail)
      go_wp2
      go_step3
      exact ⟨rfl, ⟨1, _, _, _, _, _, _, _, _, _, _, _, _, _, _, _, _, _, _, _, _, _, _, _, _, _, _, _, _, _, _, _, _, _, _, _, _, _, _, _, _, _, _, _, _, _, _, _, by omega, hi_ (by omega), hi_ (fun h => (by omega)), hi_ (fun h => (by omega)), rfl, rfl⟩⟩
    · skip
      have HR : Hid (R = some (8, u0, ⟨u0 + 1, u1, u2, op⟩)) := hi_ (by rw [HT.out]; simp only [if_pos (show ws ≤ 8 ∧ u0 < c.c8 from ⟨by omega, by omega⟩)])
      have b0 : decide ((8 : Int) < ws) = false := decide_eq_false (by omega)
      have b1 : decide (c.c8 ≤ u0) = false := decide_eq_false (by omega)
      go_quiet (fail)
      go_upto_region 7 with fail
      go_region
      go_wp2
      try rw [Exit.noGoto_ret]
      try simp only [Exit.jump]
      refine bodyPost_ret (v := .tuple #[.agg #[.int .i64 8, .int .i64 u0, .int .i64 0, .int .i64 ws], .bool true]) ?_ rfl ?_
      · refine results_row_tmp (fn := Tryz.f41) (p := 4) (u := 5) (ty := 48) rfl _ _ w.heap.size 48 #[.int .i64 8, .int .i64 u0, .int .i64 0, .int .i64 ws] _ rfl ?_ Tryz.underlying48 rfl (by kernel_rfl)
        exact put4b ((HS.out.drewN _).far (by show w.heap.size ≠ g; omega) _) _ _ _ _
      · refine ⟨grow_put4 (grow_set (only_drewN HBV.out _) (p := ⟨g, 0, none⟩) (.inl rfl) _) (Nat.le_refl _) _ _ _ _, ?_⟩
        rw [HR.out]
        exact ⟨rfl, far4 ((HP.out.drewN _).set_ 0 _) (by omega) _ _ _ _⟩
  · rintro a' w' ⟨k, n, v7, v8, v9, v10, v11, v12, v13, v14, v15, v16, v17, v18, v19, v20, v21, v22, v23, v24, v25, v26, v27, v28, v29, v30, v31, v32, v33, v34, v35, v36, v37, v38, v39, v40, v41, v42, v43, v44, v45, v46, v47, v48, v49, v50, v51, v52, hk, X0, X1, X2, rfl, rfl⟩
    have hx0 := X0.out
    rcases hk with rfl | rfl | rfl
    · skip
      go_upto_region 5 with fail
      by_cases ha : (16 : Int) < ws
      · skip
        have b0 : decide ((16 : Int) < ws) = true := decide_eq_true (by omega)
        go_quiet (fail)
        go_wp2
        go_step3
        refine ⟨rfl, ⟨2, _, _, _, _, _, _, _, _, _, _, _, _, _, _, _, _, _, _, _, _, _, _, _, _, _, _, _, _, _, _, _, _, _, _, _, _, _, _, _, _, _, _, _, _, _, _, _, by omega, X0, hi_ (fun _ => (by omega)), hi_ (fun h => (by omega)), rfl, rfl⟩, ?_⟩
        simp [intOf]
      by_cases hc : c.c16 ≤ u1
      · skip
        have b0 : decide ((16 : Int) < ws) = false := decide_eq_false (by omega)
        have b1 : decide (c.c16 ≤ u1) = true := decide_eq_true (by omega)
        go_quiet (fail)
        go_wp2
        go_step3
        refine ⟨rfl, ⟨2, _, _, _, _, _, _, _, _, _, _, _, _, _, _, _, _, _, _, _, _, _, _, _, _, _, _, _, _, _, _, _, _, _, _, _, _, _, _, _, _, _, _, _, _, _, _, _, by omega, X0, hi_ (fun _ => (by omega)), hi_ (fun h => (by omega)), rfl, rfl⟩, ?_⟩
        simp [intOf]
      · skip
        have HR : Hid (R = some (16, u1, ⟨u0, u1 + 1, u2, op⟩)) := hi_ (by rw [HT.out]; simp only [if_neg hx0, if_pos (show ws ≤ 16 ∧ u1 < c.c16 from ⟨by omega, by omega⟩)])
        have b0 : decide ((16 : Int) < ws) = false := decide_eq_false (by omega)
        have b1 : decide (c.c16 ≤ u1) = false := decide_eq_false (by omega)
        go_quiet (fail)
        go_upto_region 7 with fail
        go_region
        go_wp2
        try rw [Exit.noGoto_ret]
        try simp only [Exit.jump]
        refine bodyPost_ret (v := .tuple #[.agg #[.int .i64 16, .int .i64 u1, .int .i64 0, .int .i64 ws], .bool true]) ?_ rfl ?_
        · refine results_row_tmp (fn := Tryz.f41) (p := 4) (u := 5) (ty := 48) rfl _ _ w.heap.size 48 #[.int .i64 16, .int .i64 u1, .int .i64 0, .int .i64 ws] _ rfl ?_ Tryz.underlying48 rfl (by kernel_rfl)
          exact put4b ((HS.out.drewN _).far (by show w.heap.size ≠ g; omega) _) _ _ _ _
        · refine ⟨grow_put4 (grow_set (only_drewN HBV.out _) (p := ⟨g, 1, none⟩) (.inl rfl) _) (Nat.le_refl _) _ _ _ _, ?_⟩
          rw [HR.out]
          exact ⟨rfl, far4 ((HP.out.drewN _).set_ 1 _) (by omega) _ _ _ _⟩
    · have hx1 := X1.out
      replace hx1 := hx1 (by omega)
      go_upto_region 5 with fail
      by_cases ha : (32 : Int) < ws
      · skip
        have b0 : decide ((32 : Int) < ws) = true := decide_eq_true (by omega)
        go_quiet (fail)
        go_wp2
        go_step3
        refine ⟨rfl, ⟨3, _, _, _, _, _, _, _, _, _, _, _, _, _, _, _, _, _, _, _, _, _, _, _, _, _, _, _, _, _, _, _, _, _, _, _, _, _, _, _, _, _, _, _, _, _, _, _, by omega, X0, hi_ (fun _ => hx1), hi_ (fun _ => (by omega)), rfl, rfl⟩, ?_⟩
        simp [intOf]
      by_cases hc : c.c32 ≤ u2
      · skip
        have b0 : decide ((32 : Int) < ws) = false := decide_eq_false (by omega)
        have b1 : decide (c.c32 ≤ u2) = true := decide_eq_true (by omega)
        go_quiet (fail)
        go_wp2
        go_step3
        refine ⟨rfl, ⟨3, _, _, _, _, _, _, _, _, _, _, _, _, _, _, _, _, _, _, _, _, _, _, _, _, _, _, _, _, _, _, _, _, _, _, _, _, _, _, _, _, _, _, _, _, _, _, _, by omega, X0, hi_ (fun _ => hx1), hi_ (fun _ => (by omega)), rfl, rfl⟩, ?_⟩
        simp [intOf]
      · skip
        have HR : Hid (R = some (32, u2, ⟨u0, u1, u2 + 1, op⟩)) := hi_ (by rw [HT.out]; simp only [if_neg hx0, if_neg hx1, if_pos (show ws ≤ 32 ∧ u2 < c.c32 from ⟨by omega, by omega⟩)])
        have b0 : decide ((32 : Int) < ws) = false := decide_eq_false (by omega)
        have b1 : decide (c.c32 ≤ u2) = false := decide_eq_false (by omega)
        go_quiet (fail)
        go_upto_region 7 with fail
        go_region
        go_wp2
        try rw [Exit.noGoto_ret]
        try simp only [Exit.jump]
        refine bodyPost_ret (v := .tuple #[.agg #[.int .i64 32, .int .i64 u2, .int .i64 0, .int .i64 ws], .bool true]) ?_ rfl ?_
        · refine results_row_tmp (fn := Tryz.f41) (p := 4) (u := 5) (ty := 48) rfl _ _ w.heap.size 48 #[.int .i64 32, .int .i64 u2, .int .i64 0, .int .i64 ws] _ rfl ?_ Tryz.underlying48 rfl (by kernel_rfl)
          exact put4b ((HS.out.drewN _).far (by show w.heap.size ≠ g; omega) _) _ _ _ _
        · refine ⟨grow_put4 (grow_set (only_drewN HBV.out _) (p := ⟨g, 2, none⟩) (.inl rfl) _) (Nat.le_refl _) _ _ _ _, ?_⟩
          rw [HR.out]
          exact ⟨rfl, far4 ((HP.out.drewN _).set_ 2 _) (by omega) _ _ _ _⟩
    · have hx1 := X1.out (by omega)
      have hx2 := X2.out (by omega)
      have HR : Hid (R = none) := hi_ (by rw [HT.out]; simp only [if_neg hx0, if_neg hx1, if_neg hx2])
      go_wp2
      try rw [Exit.noGoto_ret]
      try simp only [Exit.jump]
      refine bodyPost_ret (v := .tuple #[.agg #[.int .i64 0, .int .i64 0, .int .i64 0, .int .i64 0], .bool false]) ?_ rfl ?_
      · refine results_row_tmp (fn := Tryz.f41) (p := 4) (u := 5) (ty := 48) rfl _ _ w.heap.size 48 #[.int .i64 0, .int .i64 0, .int .i64 0, .int .i64 0] _ rfl ?_ Tryz.underlying48 rfl (by kernel_rfl)
        exact put4b (HS.out.drewN _) _ _ _ _
      · refine ⟨grow_put4 (only_drewN HBV.out _) (Nat.le_refl _) _ _ _ _, ?_⟩
        rw [HR.out]
        exact ⟨rfl, far4 (HP.out.drewN _) (by omega) _ _ _ _⟩
theorem orE_nil {α : Type} {a b : Option α} (h : orE a b = none) : a = none ∧ b = none := by
  cases a
  · exact ⟨rfl, h⟩
  · cases h
theorem firstE_one {α : Type} {f : Nat → Option α} {r : α} : ∀ {n : Nat}, firstE n f = some r → ∃ i, i < n ∧ f i = some r
  | n + 1, h => by
    rw [firstE] at h
    rcases hn : firstE n f with _ | x
    · rw [hn] at h; exact ⟨n, Nat.lt_succ_self n, h⟩
    · rw [hn] at h
      simp only [Option.some.injEq] at h
      subst h
      obtain ⟨i, hi, h2⟩ := firstE_one hn
      exact ⟨i, by omega, h2⟩
theorem fld_wid {l : List FieldD} {i : Nat} (hi : i < l.length) (h : fldM l i = none) : okW l[i].width = true := by
  rw [fldM_at l i hi] at h
  cases ho : okW l[i].width
  · rw [if_pos ho] at h
    split at h <;> cases h
  · rfl
theorem fld_code {l : List FieldD} {i : Nat} {e : Int} (hi : i < l.length) (h : fldM l i = some e) : e ≠ 0 := by
  rw [fldM_at l i hi] at h
  split at h
  · cases h; decide
  split at h
  · cases h; decide
  split at h
  · cases h; decide
  cases h
theorem hdr_wid {x : HeaderD} (h : hdrM x = 0) : ∀ j (hj : j < x.fields.l.length), okW x.fields.l[j].width = true := by
  intro j hj
  unfold hdrM at h
  split at h
  · cases h
  split at h
  · cases h
  split at h
  · cases h
  rcases hfe : firstE x.fields.l.length (fldM x.fields.l) with _ | e
  · exact fld_wid hj (firstE_inv hfe j hj)
  · rw [hfe] at h
    simp only at h
    obtain ⟨i, hi, h2⟩ := firstE_one hfe
    exact absurd h (fld_code hi h2)
theorem hdrs_wid {p : ProgD} (h : checkM p = none) : ∀ k (hk : k < p.headers.l.length), ∀ j (hj : j < p.headers.l[k].fields.l.length), okW p.headers.l[k].fields.l[j].width = true := by
  intro k hk
  have h1 := (orE_nil (orE_nil h).2).1
  have h2 := firstE_inv h1 k hk
  unfold hdrAtM at h2
  rw [List.getElem?_eq_getElem hk] at h2
  simp only at h2
  split at h2
  · cases h2
  rename_i h3
  exact hdr_wid (Classical.byContradiction h3)
theorem meta_wid {p : ProgD} (h : checkM p = none) : ∀ j (hj : j < p.metadata.l.length), okW p.metadata.l[j].width = true := by
  intro j hj
  have h1 := (orE_nil (orE_nil (orE_nil h).2).2).1
  unfold metaM at h1
  split at h1
  · cases h1
  rcases hfe : firstE p.metadata.l.length (fun i => (fldM p.metadata.l i).map fun e => (⟨e, 2, i, 0⟩ : DiagD)) with _ | e
  · have h2 := firstE_inv hfe j hj
    simp only [Option.map_eq_none_iff] at h2
    exact fld_wid hj h2
  · rw [hfe] at h1
    cases h1
theorem wid_ok {p : ProgD} {h f : Int} (hv : okW (fieldAt (fieldsM p h) f).width = true) : 1 ≤ widthAt p h f ∧ widthAt p h f ≤ 32 := by
  rw [widthAt, if_pos hv]
  have := okW_iff.1 hv
  omega
theorem fieldAt_nat (x : L FieldD) {j : Nat} (hj : j < x.l.length) : fieldAt x j = x.l[j] := by
  rw [fieldAt, if_neg (by omega)]
  simp [hj]
theorem fields_hdr (p : ProgD) {k : Nat} (hk : k < p.headers.l.length) : fieldsM p k = p.headers.l[k].fields := by
  rw [fieldsM, if_neg (by omega), headerAt, if_neg (by omega)]
  simp [hk]
theorem ws_fine {p : ProgD} (h : checkM p = none) : ∀ w ∈ wsM p, 1 ≤ w ∧ w ≤ 32 := by
  intro w hw
  obtain ⟨i, hi, rfl⟩ := List.mem_iff_getElem.1 hw
  have hc : i < cellsN p := by rw [← ws_len]; exact hi
  have key : ∀ v, (wsM p)[i]? = some v → (1 ≤ v ∧ v ≤ 32) → 1 ≤ (wsM p)[i] ∧ (wsM p)[i] ≤ 32 := fun v hv hb => by
    rw [List.getElem?_eq_getElem hi] at hv
    cases hv; exact hb
  rcases cell_cases p hc with ⟨k, f, hk, hf, e⟩ | ⟨k, hk, e⟩ | ⟨f, hf, e⟩
  · refine key _ (by rw [e]; exact cells_fld p _ _ hk hf) (wid_ok ?_)
    rw [nF_at hk] at hf
    rw [fields_hdr p hk, fieldAt_nat _ hf]
    exact hdrs_wid h k hk f hf
  · exact key _ (by rw [e]; exact cells_val p _ _ hk) ⟨by decide, by decide⟩
  · refine key _ (by rw [e]; exact cells_meta p _ _ hf) (wid_ok ?_)
    rw [show fieldsM p (-1) = p.metadata from rfl, fieldAt_nat _ hf]
    exact meta_wid h f hf
theorem info_slot : (Tryz.prog.info? 48).map (fun i => (i.zero, i.size, i.bytes)) = some (some (.agg #[.int .i64 0, .int .i64 0, .int .i64 0, .int .i64 0]), 4, 32) := by kernel_rfl
def allocRes (p : ProgD) (n : Int) (c : ChipD) : List SlotD × Int :=
  if (diagM p).code ≠ 0 then ([], (diagM p).code) else if chipM c ≠ 0 then ([], chipM c) else if n < 0 ∨ 24 < n then ([], 9)
  else match slotsM c (wsM p) n.toNat with
    | none => ([], 10)
    | some l => (l, 0)
theorem alloc_out (p : ProgD) (n : Int) (c : ChipD) : allocRes p n c = if (diagM p).code ≠ 0 then ([], (diagM p).code) else if chipM c ≠ 0 then ([], chipM c) else if n < 0 ∨ 24 < n then ([], 9)
  else match slotsM c (wsM p) n.toNat with
    | none => ([], 10)
    | some l => (l, 0) := rfl
theorem diag_nz {p : ProgD} (h : checkM p ≠ none) : (diagM p).code ≠ 0 := by
  rcases hc : checkM p with _ | d
  · exact absurd hc h
  · have hs : ∀ {a b : Option DiagD}, (∀ x, a = some x → x.code ≠ 0) → (∀ x, b = some x → x.code ≠ 0) → ∀ x, orE a b = some x → x.code ≠ 0 := by
      intro a b ha hb x hx
      cases a
      · exact hb x hx
      · exact ha x hx
    rw [diagM, hc]
    exact hs co_lim (hs co_hdrs (hs co_meta (hs co_regs (hs co_acts (hs co_tabs co_flow))))) d hc
theorem diag_zero {p : ProgD} (h : (diagM p).code = 0) : checkM p = none := Classical.byContradiction fun hn => diag_nz hn h
def allW (p : ProgD) (n : Nat) : List Int := wsM p ++ List.replicate n 1
theorem allW_len (p : ProgD) (n : Nat) : (allW p n).length = cellsN p + n := by simp [allW, ws_len]
theorem allW_low {p : ProgD} {n k : Nat} (h : k < cellsN p) : (allW p n)[k]? = some ((wsM p).getD k 0) := by
  rw [allW, List.getElem?_append_left (by rw [ws_len]; exact h), List.getD_eq_getElem?_getD, List.getElem?_eq_getElem (by rw [ws_len]; exact h)]; rfl
theorem allW_high {p : ProgD} {n k : Nat} (h : cellsN p ≤ k) (h2 : k < cellsN p + n) : (allW p n)[k]? = some 1 := by
  rw [allW, List.getElem?_append_right (by rw [ws_len]; exact h), ws_len, List.getElem?_replicate, if_pos (by omega)]
theorem allW_pos {p : ProgD} (h : checkM p = none) (n : Nat) : ∀ w ∈ allW p n, 1 ≤ w := by
  intro w hw
  rcases List.mem_append.1 hw with h1 | h1
  · exact (ws_fine h w h1).1
  · rw [(List.mem_replicate.1 h1).2]; decide
def runR (c : ChipD) (s : AllocS) (ws : List Int) (L : List SlotD) : Option (List SlotD) := match runC c s ws with
  | none => none
  | some l => some (L ++ l)
theorem runR_nil (c : ChipD) (s : AllocS) (L : List SlotD) : runR c s [] L = some L := by simp [runR, runC]
theorem runR_none {c : ChipD} {s : AllocS} {ws : List Int} {L : List SlotD} {k : Nat} {z : Int} (hk : ws[k]? = some z) (h : stepC c s z = none) : runR c s (ws.drop k) L = none := by
  obtain ⟨hlt, rfl⟩ := List.getElem?_eq_some_iff.1 hk
  rw [List.drop_eq_getElem_cons hlt, runR, runC, h]
theorem runR_some {c : ChipD} {s t : AllocS} {ws : List Int} {L : List SlotD} {k : Nat} {z : Int} {x : SlotD} (hk : ws[k]? = some z) (h : stepC c s z = some (x, t)) : runR c s (ws.drop k) L = runR c t (ws.drop (k + 1)) (L ++ [x]) := by
  obtain ⟨hlt, rfl⟩ := List.getElem?_eq_some_iff.1 hk
  rw [List.drop_eq_getElem_cons hlt, runR, runC, h, runR]
  simp only
  cases runC c t (ws.drop (k + 1)) with
  | none => rfl
  | some l => simp
@[reducible] def slotCells (s : SlotD) : Array Value := #[.int .i64 s.size, .int .i64 s.index, .int .i64 s.off, .int .i64 s.width]
@[reducible] def chipCells (c : ChipD) : Array Value := #[.int .i64 c.stages, .int .i64 c.tables, .int .i64 c.gates, .int .i64 c.sram, .int .i64 c.tcam, .int .i64 c.c8, .int .i64 c.c16, .int .i64 c.c32]
theorem chip_any' (c : ChipD) (w : World) : Calls Tryz.prog 38 #[.agg (chipCells c)] w fun e w' => e = .returned (.int .i64 (chipM c)) ∧ Below w.heap.size w w' := chip_any c.stages c.tables c.gates c.sram c.tcam c.c8 c.c16 c.c32 w
theorem blk_grown {w w' : World} {g B : Nat} {t te : TypeId} {cs : Array Value} {v : Value} {n k : Nat} {xs : List Value} (h : Blk w g t cs) (hg : w.grownBy w' v.ownBlock) (ho : w.ownsRow B te k v n xs) (hlt : g < B) : Blk w' g t cs :=
  h.grown hg (fun e => by have := (own_lt ho g e.symm).1; omega)
theorem chip_le {c : ChipD} (h : chipM c = 0) : c.c8 ≤ 64 ∧ c.c16 ≤ 64 ∧ c.c32 ≤ 64 := by
  unfold chipM at h
  split at h
  · rename_i h1
    obtain ⟨_, _, _, ⟨_, h8⟩, ⟨_, h16⟩, ⟨_, h32⟩, _⟩ := h1
    exact ⟨h8, h16, h32⟩
  · cases h
theorem take_op {c : ChipD} {s : AllocS} {w z n : Int} {t : AllocS} (h : takeC c s w = some (z, n, t)) : t.op = s.op := by
  rcases take_cases h with ⟨_, _, _, _, rfl⟩ | ⟨_, _, _, _, rfl⟩ | ⟨_, _, _, _, rfl⟩ <;> rfl
theorem own_set4 {w : World} {B k : Nat} {te : TypeId} {q : Nat} {v : Value} {n : Nat} {xs : List Value} (h : w.ownsRow B te q v n xs) (hk : k < B) (x y z u : Value) :
    ((((w.setCell ⟨k, 0, none⟩ x).setCell ⟨k, 1, none⟩ y).setCell ⟨k, 2, none⟩ z).setCell ⟨k, 3, none⟩ u).ownsRow B te q v n xs :=
  ownsRow_setCell_below (ownsRow_setCell_below (ownsRow_setCell_below (ownsRow_setCell_below h (by exact hk) x) (by exact hk) y) (by exact hk) z) (by exact hk) u
def AllocEnd (p : ProgD) (n : Int) (c : ChipD) (w : World) (e : Ending) (w' : World) : Prop :=
  ∃ A cp, e = .returned (.tuple #[.slice A (allocRes p n c).1.length cp, .int .i64 (allocRes p n c).2]) ∧ w'.ownsRow w.heap.size 48 4 (.slice A (allocRes p n c).1.length cp) (allocRes p n c).1.length ((allocRes p n c).1.flatMap SlotD.cells) ∧ Below w.heap.size w w'
theorem end_none {p : ProgD} {n : Int} {c : ChipD} {w w' : World} {e : Ending} {z : Int} (h : allocRes p n c = ([], z)) (he : e = .returned (.tuple #[.slice none 0 0, .int .i64 z])) (hb : Below w.heap.size w w') : AllocEnd p n c w e w' := by
  unfold AllocEnd
  rw [h]
  exact ⟨none, 0, he, World.ownsRow_nil _ _ _ _, hb⟩
theorem alloc_any (p : ProgD) (n : Int) (c : ChipD) (w : World) (o : ProgOk w p) (hs : AccSm p) (hc : ProgCap p) (hN : (presM p.control.l).length ≤ 90000) :
    Calls Tryz.prog 11 #[.agg (progCells p), .int .i64 n, .agg (chipCells c)] w fun e w' => AllocEnd p n c w e w' := by
  obtain ⟨W, hW, hw, HB, hp⟩ := box2 w (progCells p) 31 (chipCells c) 33
  have HW := hi_ hw
  have HCk := hi_ (fun u (hb : Below W.heap.size W u) => check_any p u (o.below (below_step hw hb)) hc hN)
  have HCc := hi_ (fun u (hb : Below W.heap.size W u) => pcells_any p u (o.below (below_step hw hb)) hs)
  have HCw := hi_ (fun u (hb : Below W.heap.size W u) i hi => cellWidth_any p i hi u (o.below (below_step hw hb)) hs)
  have HR := hi_ (alloc_out p n c)
  have HV := hi_ (fun h => allW_pos (n := n.toNat) (diag_zero (p := p) h))
  have hcl : cellsN p ≤ 10200 := by have := fN_le hs; have := hs.headers; have := hs.metadata; unfold cellsN; omega
  clear o hs hc hN hw
  generalize hdg : diagM p = dg at *
  obtain ⟨dc, dp, di, ds⟩ := dg
  simp only [DiagD.val] at HCk HR HV
  clear hdg
  have hp1 := hp W HB
  go_enter Tryz.func11, Tryz.ntmps11
  go_upto_region 1 with fail
  rw [← hW]
  clear hW
  go_wp2_with fail
  refine (HCk.out _ (by first | exact HB | exact below_alloc HB _ | exact ba2 HB | exact ba3 HB)).mono ?_
  rintro e w1 ⟨rfl, hbN⟩
  replace HB := below_step (by first | exact HB | exact below_alloc HB _ | exact ba2 HB | exact ba3 HB) hbN
  clear hbN
  clear hp1
  by_cases hd0 : dc = 0
  case neg =>
    have hdb : (dc != 0) = true := bne_iff_ne.2 hd0
    have HR1 := hi_ (HR.out.trans (if_pos hd0))
    clear hd0 HR HV HCk HCc HCw hp
    go_wp2
    go_quiet (fail)
    go_wp2
    go_ret2
    exact end_none HR1.out rfl (below_step HW.out (below_drewN (below_alloc HB _) _))
  have hdb : (dc != 0) = false := by rw [hd0]; rfl
  replace HR := hi_ (HR.out.trans (if_neg (by simpa using hd0)))
  replace HV := hi_ (HV.out hd0)
  subst hd0
  have hp1 := hp _ (below_alloc HB (.cells #[.int .i64 0, .int .i64 dp, .int .i64 di, .int .i64 ds] 44))
  replace HB := below_alloc HB (.cells #[.int .i64 0, .int .i64 dp, .int .i64 di, .int .i64 ds] 44)
  go_wp2_with fail
  refine (chip_any' c _).mono ?_
  rintro e w2 ⟨rfl, hbN⟩
  replace HB := below_step HB hbN
  have hw2 : W.heap.size ≤ w2.heap.size := HB.size
  clear hbN hp1
  generalize hch : chipM c = ch at *
  by_cases hc0 : ch = 0
  case neg =>
    have hcb : (ch != 0) = true := bne_iff_ne.2 hc0
    have HR1 := hi_ (HR.out.trans (if_pos hc0))
    clear hc0 HR HV HCc HCw hp HCk hch
    go_wp2
    go_ret2
    exact end_none HR1.out rfl (below_step HW.out HB)
  have hcb : (ch != 0) = false := by rw [hc0]; rfl
  replace HR := hi_ (HR.out.trans (if_neg (by simpa using hc0)))
  have HI0 : Hid (AInv c alloc0) := hi_ (alloc0_inv (by rw [hch]; exact hc0))
  have HCh : Hid (c.c8 ≤ 64 ∧ c.c16 ≤ 64 ∧ c.c32 ≤ 64) := hi_ (chip_le (by rw [hch]; exact hc0))
  subst hc0
  clear hch
  by_cases hn0 : n < 0
  · have HR1 := hi_ (HR.out.trans (if_pos (.inl hn0)))
    clear HR HV HCc HCw hp HCk HI0 HCh
    go_wp2
    go_ret2
    exact end_none HR1.out rfl (below_step HW.out HB)
  by_cases hn1 : 24 < n
  · have HR1 := hi_ (HR.out.trans (if_pos (.inr hn1)))
    clear HR HV HCc HCw hp HCk HI0 HCh
    go_wp2
    go_ret2
    exact end_none HR1.out rfl (below_step HW.out HB)
  replace HR := hi_ (HR.out.trans (if_neg (by omega)))
  obtain ⟨N, rfl⟩ : ∃ N : Nat, n = N := ⟨n.toNat, by omega⟩
  have HRun : Hid (∀ r, runR c alloc0 (allW p N) [] = r → allocRes p N c = match r with | none => ([], 10) | some l => (l, 0)) := hi_ (fun r hr => by
    rw [HR.out, ← hr, slotsM, runR, Int.toNat_natCast]
    show (match runC c alloc0 (allW p N) with | none => _ | some l => _) = _
    cases runC c alloc0 (allW p N) with
    | none => rfl
    | some l => rfl)
  clear HR HCk
  have hp2 := hp _ (below_alloc (below_alloc HB (.cells #[.int .i64 0, .int .i64 0, .int .i64 0, .int .i64 c.c8, .int .i64 c.c16, .int .i64 c.c32] 87)) (.cells #[.int .i64 0, .int .i64 0, .int .i64 0, .int .i64 0] 48))
  have hp1 := hp _ HB
  refine Exists.elim (⟨_, rfl⟩ : ∃ U, U = (w2.alloc (.cells #[.int .i64 0, .int .i64 0, .int .i64 0, .int .i64 c.c8, .int .i64 c.c16, .int .i64 c.c32] 87)).alloc (.cells #[.int .i64 0, .int .i64 0, .int .i64 0, .int .i64 0] 48)) fun U hU => ?_
  have HPo : Hid (Blk U w2.heap.size 87 (poolCells c alloc0)) := hi_ (by rw [hU]; exact (Blk.new _ _ _).alloc _)
  have HOp : Hid (Blk U (w2.heap.size + 1) 48 (slotCells slot0)) := hi_ (by rw [hU]; show Blk _ _ _ #[.int .i64 0, .int .i64 0, .int .i64 0, .int .i64 0]; simpa using Blk.new (w2.alloc (.cells #[.int .i64 0, .int .i64 0, .int .i64 0, .int .i64 c.c8, .int .i64 c.c16, .int .i64 c.c32] 87)) 48 #[.int .i64 0, .int .i64 0, .int .i64 0, .int .i64 0])
  have HBU : Below W.heap.size W U := by rw [hU]; exact below_alloc (below_alloc HB _) _
  rw [← hU] at hp2
  clear HB
  go_upto_region 11 with fail
  rw [← hU]
  clear hp1 hU
  go_wp2_with fail
  refine (HCc.out _ HBU).mono ?_
  rintro e w3 ⟨rfl, hbN⟩
  have HB3 := hi_ (below_step HBU hbN)
  have HPo3 := hi_ (HPo.out.below hbN HPo.out.lt)
  have HOp3 := hi_ (HOp.out.below hbN HOp.out.lt)
  have hgp : w2.heap.size + 1 < w3.heap.size := HOp3.out.lt
  clear hbN HBU HPo HOp hp2
  obtain ⟨i0, hi, hz0, hz1, hz2⟩ := info_parts info_slot
  have HLen := hi_ (allW_len p N)
  go_wp2
  go_loopw [13, 14, 15, 16, 17, 49] (fun out _ _ _ _ iv wr => ∃ (k m : Nat) (A : Option Addr) (cp : Nat) (s : AllocS) (Ls : List SlotD), k ≤ cellsN p + N ∧ iv = .int .i64 k ∧ out = .slice A m cp ∧ m ≤ k ∧ Hid (m = Ls.length ∧ wr.ownsRow w3.heap.size 48 4 (.slice A m cp) m (Ls.flatMap SlotD.cells)) ∧ Hid (AInv c s ∧ runR c s ((allW p N).drop k) Ls = runR c alloc0 (allW p N) []) ∧ s.op.off ≤ 32 ∧ w3.heap.size ≤ wr.heap.size ∧ Blk wr w2.heap.size 87 (poolCells c s) ∧ Blk wr (w2.heap.size + 1) 48 (slotCells s.op) ∧ Below W.heap.size W wr) (fun _ _ _ _ _ i _ => cellsN p + N - (intOf i).toNat)
  case atStart => exact ⟨0, 0, none, 0, alloc0, [], Nat.zero_le _, rfl, rfl, Nat.le_refl _, hi_ ⟨rfl, World.ownsRow_nil _ _ _ _⟩, hi_ ⟨HI0.out, rfl⟩, by decide, Nat.le_refl _, HPo3.out, HOp3.out, HB3.out⟩
  case round =>
  clear HPo3 HOp3
  obtain ⟨k, m, A, cp, s, Ls, hk, rfl, rfl, hm, HG, HRn, hof, hws, hPo, hOp, HB⟩ := hrel
  by_cases hlt : k < cellsN p + N
  case neg =>
    have HRd : Hid (allocRes p N c = (Ls, 0)) := hi_ (HRun.out (some Ls) (by rw [← HRn.out.2, List.drop_eq_nil_of_le (by rw [HLen.out]; omega), runR_nil]))
    clear hPo hOp
    go_wp2
    go_ret2
    have h1 := HG.out.1
    have h2 := HG.out.2
    subst h1
    have hsz : w.heap.size ≤ w3.heap.size := by have := (below_step HW.out HB3.out).size; exact this
    refine ⟨A, cp, by rw [HRd.out]; rfl, ?_, below_step HW.out HB⟩
    rw [HRd.out]
    exact ⟨h2.1, by
      rcases h2.2 with h0 | ⟨g, cap, cur, e, hbg, hr⟩
      · exact .inl h0
      · exact .inr ⟨g, cap, cur, e, Nat.le_trans hsz hbg, hr⟩⟩
  have HPb := hi_ hPo
  have HOb := hi_ hOp
  have HBr := hi_ HB
  clear hPo hOp
  go_upto_if 54 with fail
  go_cut [15] from 50 to 57 (fun v wx => ∃ z : Int, v = .int .i64 z ∧ Hid ((allW p N)[k]? = some z) ∧ Below wr.heap.size wr wx)
  case first =>
    by_cases hkc : k < cellsN p
    · have hkc' : (k : Int) < (cellsN p : Int) := by omega
      have hp3 := hp wr HB
      have HZ := hi_ (allW_low (p := p) (n := N) hkc)
      go_wp2_with fail
      refine (HCw.out _ HB k hkc).mono ?_
      rintro e w5 ⟨rfl, hbN⟩
      clear hp3
      go_wp2
      go_meet
      case rel => exact ⟨_, rfl, HZ, hbN⟩
    · have hkc' : ¬ (k : Int) < (cellsN p : Int) := by omega
      have HZ := hi_ (allW_high (p := p) (n := N) (k := k) (by omega) (by omega))
      have HBe := hi_ (Below.refl wr.heap.size wr)
      go_wp2
      go_meet
      case rel => exact ⟨1, rfl, HZ, HBe.out⟩
  case rest =>
  obtain ⟨z, rfl, HZ, hbx⟩ := hcut
  have HPc := hi_ (HPb.out.below hbx HPb.out.lt)
  have HOc := hi_ (HOb.out.below hbx HOb.out.lt)
  have HGc : Hid (m = Ls.length ∧ wc.ownsRow w3.heap.size 48 4 (.slice A m cp) m (Ls.flatMap SlotD.cells)) := hi_ ⟨HG.out.1, own_below HG.out.2 hbx⟩
  have HBc := hi_ (below_step HB hbx)
  have hs3 : w3.heap.size ≤ wc.heap.size := Nat.le_trans hws hbx.size
  have hz1' : Hid (1 ≤ z) := hi_ (HV.out z (List.mem_of_getElem? HZ.out))
  clear HG HB hbx HPb HOb HBr hws
  have HSt := hi_ (fun x t' (h : stepC c s z = some (x, t')) => And.intro (step_inv hz1'.out HRn.out.1 h) ((runR_some (L := Ls) HZ.out h).symm.trans HRn.out.2))
  have HSn := hi_ (fun (h : stepC c s z = none) => (runR_none (L := Ls) HZ.out h).symm.trans HRn.out.2)
  have HIv := hi_ HRn.out.1
  have HSe := hi_ (stepC.eq_1 c s z)
  clear HRn HZ
  have hsl := HCh.out
  have hu0 := HIv.out.u0
  have hu1 := HIv.out.u1
  have hu2 := HIv.out.u2
  have hop := HIv.out.op
  obtain ⟨u0, u1, u2, ⟨oz, oi, of, ow⟩⟩ := s
  simp only at hu0 hu1 hu2 hop hof HSt HSn HSe HIv
  have ho0 : 0 ≤ of := by
    rcases hop with h | ⟨_, _, _, h, _⟩
    · have := congrArg SlotD.off h; simp only [slot0] at this; omega
    · omega
  have HOs := hi_ hop
  clear hop
  have o0 : wc.cell? ⟨w2.heap.size + 1, 0, none⟩ = some (.int .i64 oz) := HOc.out.cell 0
  have o1 : wc.cell? ⟨w2.heap.size + 1, 1, none⟩ = some (.int .i64 oi) := HOc.out.cell 1
  have o2 : wc.cell? ⟨w2.heap.size + 1, 2, none⟩ = some (.int .i64 of) := HOc.out.cell 2
  have o3 : wc.cell? ⟨w2.heap.size + 1, 3, none⟩ = some (.int .i64 ow) := HOc.out.cell 3
  by_cases hsh : z = 1 ∧ of < oz
  · have HSs := hi_ (HSt.out _ _ (HSe.out.trans (if_pos hsh)))
    obtain ⟨rfl, hlo⟩ := hsh
    have hoz : of + 1 ≤ 32 := by
      rcases HOs.out with h | ⟨h, _⟩
      · have h1 := congrArg SlotD.off h; have h2 := congrArg SlotD.size h; simp only [slot0] at h1 h2; omega
      · omega
    clear HSt HSn HSe HIv
    have hown1 := HGc.out.2
    go_wp2_with (first
      | (at_builtin; refine wpList_append_own_at _ rfl _ _ 36 rfl w3.heap.size 48 i0 _ 4 32 Tryz.underlying36 hi hz0 hz1 hz2 rfl (by decide) _ _ _ rfl (hown1.alloc _) ⟨wc.heap.size, 0, none⟩ 1 1 [.int .i64 oz, .int .i64 oi, .int .i64 of, .int .i64 ow] rfl rfl ?g01 ?g02 ?g03 ?g04 ?g05 ?_))
    case g02 => exact ⟨rfl, rfl, rfl, rfl⟩
    case g03 => unfold maxLen; omega
    case g04 => omega
    case g05 => first | omega | (simp; omega)
    intro v1 w6 hown2 hgrow _ _
    obtain ⟨A1, c1, rfl⟩ := co_slice hown2
    have hoa := hown1.alloc (.cells #[.int .i64 oz, .int .i64 oi, .int .i64 of, .int .i64 ow] 48)
    have HP6 := hi_ (blk_grown (HPc.out.alloc _) hgrow hoa (by omega))
    have HO6 := hi_ (blk_grown (HOc.out.alloc _) hgrow hoa hgp)
    have HB6 : Hid (Below W.heap.size W w6) := hi_ ((below_alloc HBc.out _).grown hgrow (below_alloc HBc.out _).size fun j hj => Nat.le_trans HB3.out.size (own_lt hoa j hj).1)
    have hs6 : w3.heap.size ≤ w6.heap.size := by have := hgrow.size; simp at this; omega
    have HL6 : Hid (m + 1 = (Ls ++ [(⟨oz, oi, of, ow⟩ : SlotD)]).length ∧ w6.ownsRow w3.heap.size 48 4 (.slice A1 (m + 1) c1) (m + 1) ((Ls ++ [(⟨oz, oi, of, ow⟩ : SlotD)]).flatMap SlotD.cells)) := hi_ ⟨by simp [HGc.out.1], by simpa [SlotD.cells] using hown2⟩
    have r2 : w6.cell? ⟨w2.heap.size + 1, 2, none⟩ = some (.int .i64 of) := HO6.out.cell 2
    have f2 : w6.frozen? ⟨w2.heap.size + 1, 2, none⟩ = false := HO6.out.frozen 2
    clear hown1 hown2 hgrow hoa o0 o1 o2 o3 HPc HOc HBc HGc
    go_wp2
    go_roundw
    case rel => exact ⟨k + 1, m + 1, A1, c1, ⟨u0, u1, u2, ⟨oz, oi, of + 1, ow⟩⟩, Ls ++ [⟨oz, oi, of, ow⟩], by omega, by go_num, rfl, by omega, hi_ ⟨HL6.out.1, ownsRow_setCell_below HL6.out.2 (by show w2.heap.size + 1 < w3.heap.size; exact hgp) _⟩, hi_ ⟨HSs.out.1.1, HSs.out.2⟩, hoz, by simpa using hs6, HP6.out.far (by show w2.heap.size ≠ w2.heap.size + 1; omega) _, HO6.out.set_ 2 _, HB6.out.setCell (by show W.heap.size ≤ w2.heap.size + 1; omega) _⟩
    case measure => simp [intOf]; omega
  · have hown0 := HGc.out.2
    have hgq : w2.heap.size < wc.heap.size := HPc.out.lt
    replace HSe := hi_ (HSe.out.trans (if_neg hsh))
    have hcase : (z == 1) = false ∨ ((z == 1) = true ∧ ¬ of < oz) := by
      by_cases hz : z = 1
      · exact .inr ⟨beq_iff_eq.2 hz, fun h => hsh ⟨hz, h⟩⟩
      · exact .inl (beq_eq_false_iff_ne.2 hz)
    clear hsh
    go_upto_region 19 with fail
    go_cut [66] from 50 to 66 (fun v wx => v = .bool false ∧ wx = wc)
    case first =>
      rcases hcase with hzb | ⟨hzb, hnl⟩
      all_goals
        go_wp2
        go_meet
        case rel => exact ⟨rfl, rfl⟩
    case rest =>
    obtain ⟨rfl, rfl⟩ := hcut
    clear hcase
    go_wp2_with fail
    refine (ptake_any c ⟨u0, u1, u2, ⟨oz, oi, of, ow⟩⟩ z w2.heap.size wc HPc.out ⟨hu0.1, by simp only; omega⟩ ⟨hu1.1, by simp only; omega⟩ ⟨hu2.1, by simp only; omega⟩).mono ?_
    rintro e w6 ⟨hgr, hm6⟩
    have hs6 : w3.heap.size ≤ w6.heap.size := Nat.le_trans hs3 hgr.size
    have HB6 := hi_ (HBc.out.grown hgr HBc.out.size fun j hj => (by cases hj; exact hw2))
    have hown6 := World.ownsRow.kept hown0 hgr (.inr (fun e => by have := (own_lt hown0 _ e).1; omega))
    have HO6 := hi_ (HOc.out.grown hgr (fun e => by injection e with e; omega))
    have hlq : ∀ g, (Value.slice A m cp).ownBlock = some g → g < wc.heap.size := fun g hg => (own_lt hown0 g hg).2
    have hgs := hgr.size
    clear o0 o1 o2 o3 hown0 hgr HOc HPc HBc
    rcases htk : takeC c ⟨u0, u1, u2, ⟨oz, oi, of, ow⟩⟩ z with _ | ⟨zz, nn, t⟩
    · rw [htk] at hm6
      obtain ⟨rfl, hpo6⟩ := hm6
      have hse := HSe.out
      rw [htk] at hse
      have HRd : Hid (allocRes p N c = ([], 10)) := hi_ (HRun.out none (HSn.out hse).symm)
      clear hse hpo6 hown6 HO6 HSt HSn HSe
      go_wp2
      go_ret2
      exact end_none HRd.out rfl (below_step HW.out (below_alloc HB6.out _))
    · rw [htk] at hm6
      obtain ⟨rfl, hpo6⟩ := hm6
      have hse := HSe.out
      rw [htk] at hse
      have HSs := hi_ (HSt.out _ _ hse)
      have hto := take_op htk
      obtain ⟨t0, t1, t2, top⟩ := t
      simp only at hto
      subst hto
      clear hse HSt HSn HSe htk
      refine Exists.elim (⟨_, rfl⟩ : ∃ V, V = w6.alloc (.cells #[.int .i64 zz, .int .i64 nn, .int .i64 0, .int .i64 z] 48)) fun V hV => ?_
      have HC6 : Hid (Blk V w6.heap.size 48 #[.int .i64 zz, .int .i64 nn, .int .i64 0, .int .i64 z]) := hi_ (by rw [hV]; exact Blk.new _ _ _)
      have HPV : Hid (Blk V w2.heap.size 87 (poolCells c ⟨t0, t1, t2, ⟨oz, oi, of, ow⟩⟩)) := hi_ (by rw [hV]; exact hpo6.alloc _)
      have HOV : Hid (Blk V (w2.heap.size + 1) 48 #[.int .i64 oz, .int .i64 oi, .int .i64 of, .int .i64 ow]) := hi_ (by rw [hV]; exact HO6.out.alloc _)
      have hownV : V.ownsRow w3.heap.size 48 4 (.slice A m cp) m (Ls.flatMap SlotD.cells) := by rw [hV]; exact hown6.alloc _
      have HBV : Hid (Below W.heap.size W V) := hi_ (by rw [hV]; exact below_alloc HB6.out _)
      have hsV : w6.heap.size + 1 ≤ V.heap.size := by rw [hV]; simp
      go_upto_region 25 with fail
      rw [← hV]
      clear hV hpo6 hown6 HO6 HB6
      have c0 : V.cell? ⟨w6.heap.size, 0, none⟩ = some (.int .i64 zz) := HC6.out.cell 0
      have c1' : V.cell? ⟨w6.heap.size, 1, none⟩ = some (.int .i64 nn) := HC6.out.cell 1
      have c2 : V.cell? ⟨w6.heap.size, 2, none⟩ = some (.int .i64 0) := HC6.out.cell 2
      have c3 : V.cell? ⟨w6.heap.size, 3, none⟩ = some (.int .i64 z) := HC6.out.cell 3
      go_wp2_with (first
        | (at_builtin; refine wpList_append_own_at _ rfl _ _ 36 rfl w3.heap.size 48 i0 _ 4 32 Tryz.underlying36 hi hz0 hz1 hz2 rfl (by decide) _ _ _ rfl (hownV.alloc _) ⟨V.heap.size, 0, none⟩ 1 1 [.int .i64 zz, .int .i64 nn, .int .i64 0, .int .i64 z] rfl rfl ?h01 ?h02 ?h03 ?h04 ?h05 ?_))
      case h01 => exact new_cells _ _ _
      case h02 => intro u hu; simp only [List.mem_cons, List.not_mem_nil, or_false] at hu; rcases hu with rfl | rfl | rfl | rfl <;> rfl
      case h03 => unfold maxLen; omega
      case h04 => omega
      case h05 => first | omega | (simp; omega)
      intro v1 w7 hown7 hgrow _ _
      obtain ⟨A1, cp1, rfl⟩ := co_slice hown7
      have hoa := hownV.alloc (.cells #[.int .i64 zz, .int .i64 nn, .int .i64 0, .int .i64 z] 48)
      have HP7 := hi_ (blk_grown (HPV.out.alloc _) hgrow hoa (by omega))
      have HO7 := hi_ (blk_grown (HOV.out.alloc _) hgrow hoa hgp)
      have HC7 := hi_ ((HC6.out.alloc _).grown hgrow (fun e => by have := hlq _ e.symm; omega))
      have HB7 : Hid (Below W.heap.size W w7) := hi_ ((below_alloc HBV.out _).grown hgrow (below_alloc HBV.out _).size fun j hj => Nat.le_trans HB3.out.size (own_lt hoa j hj).1)
      have hs7 : w3.heap.size ≤ w7.heap.size := by have := hgrow.size; simp at this; omega
      have HL7 : Hid (m + 1 = (Ls ++ [(⟨zz, nn, 0, z⟩ : SlotD)]).length ∧ w7.ownsRow w3.heap.size 48 4 (.slice A1 (m + 1) cp1) (m + 1) ((Ls ++ [(⟨zz, nn, 0, z⟩ : SlotD)]).flatMap SlotD.cells)) := hi_ ⟨by simp [HGc.out.1], by simpa [SlotD.cells] using hown7⟩
      clear hown7 hgrow hoa c0 c1' c2 c3 HPV HOV HC6 HBV HGc hownV hsV hlq
      by_cases hz1 : z = 1
      · subst hz1
        have c0 : w7.cell? ⟨w6.heap.size, 0, none⟩ = some (.int .i64 zz) := HC7.out.cell 0
        have c1' : w7.cell? ⟨w6.heap.size, 1, none⟩ = some (.int .i64 nn) := HC7.out.cell 1
        have c2 : w7.cell? ⟨w6.heap.size, 2, none⟩ = some (.int .i64 0) := HC7.out.cell 2
        have c3 : w7.cell? ⟨w6.heap.size, 3, none⟩ = some (.int .i64 1) := HC7.out.cell 3
        have o0 : w7.cell? ⟨w2.heap.size + 1, 0, none⟩ = some (.int .i64 oz) := HO7.out.cell 0
        have o1 : w7.cell? ⟨w2.heap.size + 1, 1, none⟩ = some (.int .i64 oi) := HO7.out.cell 1
        have o2 : w7.cell? ⟨w2.heap.size + 1, 2, none⟩ = some (.int .i64 of) := HO7.out.cell 2
        have o3 : w7.cell? ⟨w2.heap.size + 1, 3, none⟩ = some (.int .i64 ow) := HO7.out.cell 3
        have f2 : ∀ j, w7.frozen? ⟨w2.heap.size + 1, j, none⟩ = false := fun j => HO7.out.frozen j
        have hss := HSs.out
        simp only [if_true] at hss
        have HS3 := hi_ hss
        clear hss HSs
        go_wp2
        go_roundw
        case rel => exact ⟨k + 1, m + 1, A1, cp1, ⟨t0, t1, t2, ⟨zz, nn, 1, 1⟩⟩, Ls ++ [⟨zz, nn, 0, 1⟩], by omega, by go_num, rfl, by omega, hi_ ⟨HL7.out.1, ownsRow_setCell_below (own_set4 HL7.out.2 (by omega) _ _ _ _) (by show w2.heap.size + 1 < w3.heap.size; exact hgp) _⟩, hi_ ⟨HS3.out.1.1, HS3.out.2⟩, by simp only; omega, by simpa using hs7, (far4 HP7.out (by omega) _ _ _ _).far (by show w2.heap.size ≠ w2.heap.size + 1; omega) _, (put4b HO7.out _ _ _ _).set_ 2 _, (put4_below HB7.out (by omega) _ _ _ _).setCell (by show W.heap.size ≤ w2.heap.size + 1; omega) _⟩
        case measure => simp [intOf]; omega
      · have hzb : (z == 1) = false := beq_eq_false_iff_ne.2 hz1
        have hss := HSs.out
        simp only [if_neg hz1] at hss
        have HS3 := hi_ hss
        clear hss HSs hz1
        go_wp2
        go_roundw
        case rel => exact ⟨k + 1, m + 1, A1, cp1, ⟨t0, t1, t2, ⟨oz, oi, of, ow⟩⟩, Ls ++ [⟨zz, nn, 0, z⟩], by omega, by go_num, rfl, by omega, HL7, hi_ ⟨HS3.out.1.1, HS3.out.2⟩, hof, hs7, HP7.out, HO7.out, HB7.out⟩
        case measure => simp [intOf]; omega
theorem neq_slot (x y : SlotD) : ∃ b : Bool, (b = false ↔ x = y) ∧ ∀ w, Sem.run Tryz.prog (binOp .neq 48 (.agg #[.int .i64 x.size, .int .i64 x.index, .int .i64 x.off, .int .i64 x.width]) (.agg #[.int .i64 y.size, .int .i64 y.index, .int .i64 y.off, .int .i64 y.width])) w = .ok (.bool b) w := by
  refine ⟨!((x.size == y.size) && (x.index == y.index) && (x.off == y.off) && (x.width == y.width)), ?_, fun w => ?_⟩
  · obtain ⟨a0, a1, a2, a3⟩ := x
    obtain ⟨b0, b1, b2, b3⟩ := y
    simp [SlotD.mk.injEq, and_assoc]
  · have hS : Tryz.prog.underlying 48 = some (.struct (Tryz.prog.fieldsOf 48)) := by kernel_rfl
    have hp : Tryz.prog.stoodInHeld 48 = false := by kernel_rfl
    have u0 := Tryz.underlying3
    have a0 := Tryz.isAgg3
    have z0 := Tryz.sizeOf3
    rw [run_neq_struct, show (10000 : Nat) = 9999 + 1 from rfl, run_equalIn_agg w 9999 48 _ _ hS hp]
    simp only [Program.fieldsOf, Tryz.underlying48]
    go_simp
    repeat' split
    all_goals simp_all
theorem equal_slots (x y : L SlotD) (w : World) (h : LOk w 4 SlotD.cells x) (h2 : LOk w 4 SlotD.cells y) :
    Calls Tryz.prog 13 #[x.v, y.v] w fun e w' => Says e (x.l = y.l) ∧ Below w.heap.size w w' := by
  obtain ⟨l, A0, c0⟩ := x
  obtain ⟨m, A1, c1⟩ := y
  have HX := hi_ h
  have HY := hi_ h2
  have hmx := h.1
  have hmy := h2.1
  unfold maxLen at hmx hmy
  clear h h2
  simp only [L.v] at *
  by_cases hl : l.length = m.length
  case neg =>
    have hne : (((l.length : Nat) : Int) == ((m.length : Nat) : Int)) = false := by rw [beq_eq_false_iff_ne]; omega
    have hne2 : ¬ ((l.length : Nat) : Int) = ((m.length : Nat) : Int) := by omega
    have HL := hi_ hl
    clear hl
    go_enter Tryz.func13, Tryz.ntmps13
    go_wp2
    go_ret
    exact ⟨Says.no (fun e => HL.out (by rw [e])), Below.refl _ _⟩
  rw [← hl]
  have HL := hi_ hl
  clear hl hmy
  go_enter Tryz.func13, Tryz.ntmps13
  go_wp2
  go_loopw [5] (fun iv wr => ∃ k : Nat, k ≤ l.length ∧ iv = .int .i64 k ∧ Hid (l.take k = m.take k) ∧ Below w.heap.size w wr) (fun i _ => l.length - (intOf i).toNat)
  case atStart => exact ⟨0, Nat.zero_le _, rfl, hi_ rfl, Below.refl _ _⟩
  case round =>
    obtain ⟨k, hk, rfl, HK, HB⟩ := hrel
    by_cases hlt : k < l.length
    · have hlt2 : k < m.length := by have := HL.out; omega
      obtain ⟨g, of, hA, d0, d1, d2, d3⟩ := SlotD.at (HX.out.below HB (Nat.le_refl _)) hlt
      obtain ⟨g2, of2, hA2, e0, e1, e2, e3⟩ := SlotD.at (HY.out.below HB (Nat.le_refl _)) hlt2
      simp only at hA hA2
      subst hA hA2
      simp only at d0 d1 d2 d3 e0 e1 e2 e3
      have HS : Hid (l[k] = m[k] → l.take (k + 1) = m.take (k + 1)) := hi_ (take_step hlt hlt2 HK.out)
      have HN : Hid (¬ l[k] = m[k] → ¬ l = m) := hi_ (fun h e => h (by subst e; rfl))
      generalize l[k] = a at *
      generalize m[k] = b at *
      clear hlt2
      obtain ⟨bb, hb0, hbb⟩ := neq_slot a b
      have HBB := hi_ hb0
      clear hb0
      cases bb with
      | true =>
        have HN2 := hi_ (HN.out (by intro e; have := HBB.out.2 e; cases this))
        clear HN HS
        go_wp2
        go_quiet (fail)
        go_wp2
        go_ret
        exact ⟨Says.no HN2.out, below_drewN HB _⟩
      | false =>
        have HS2 := hi_ (HS.out (by exact HBB.out.1 rfl))
        clear HN HS
        go_wp2
        go_quiet (fail)
        go_wp2
        go_roundw
        case rel => exact ⟨k + 1, by omega, by go_num, HS2, below_drewN HB _⟩
        case measure => simp [intOf]; omega
    · have hk' : k = l.length := by omega
      subst hk'
      have HE : Hid (l = m) := hi_ (by have := HK.out; rw [List.take_length, HL.out, List.take_length] at this; exact this)
      go_wp2
      go_ret
      exact ⟨Says.yes HE.out, HB⟩
theorem equal_u32s (x y : L Int) (w : World) (h : LOk w 1 ucell x) (h2 : LOk w 1 ucell y) :
    Calls Tryz.prog 36 #[x.v, y.v] w fun e w' => Says e (x.l = y.l) ∧ Below w.heap.size w w' := by
  obtain ⟨l, A0, c0⟩ := x
  obtain ⟨m, A1, c1⟩ := y
  have HX := hi_ h
  have HY := hi_ h2
  have hmx := h.1
  have hmy := h2.1
  unfold maxLen at hmx hmy
  clear h h2
  simp only [L.v] at *
  by_cases hl : l.length = m.length
  case neg =>
    have hne : (((l.length : Nat) : Int) == ((m.length : Nat) : Int)) = false := by rw [beq_eq_false_iff_ne]; omega
    have hne2 : ¬ ((l.length : Nat) : Int) = ((m.length : Nat) : Int) := by omega
    have HL := hi_ hl
    clear hl
    go_enter Tryz.func36, Tryz.ntmps36
    go_wp2
    go_ret
    exact ⟨Says.no (fun e => HL.out (by rw [e])), Below.refl _ _⟩
  rw [← hl]
  have HL := hi_ hl
  clear hl hmy
  go_enter Tryz.func36, Tryz.ntmps36
  go_wp2
  go_loopw [5] (fun iv wr => ∃ k : Nat, k ≤ l.length ∧ iv = .int .i64 k ∧ Hid (l.take k = m.take k) ∧ Below w.heap.size w wr) (fun i _ => l.length - (intOf i).toNat)
  case atStart => exact ⟨0, Nat.zero_le _, rfl, hi_ rfl, Below.refl _ _⟩
  case round =>
    obtain ⟨k, hk, rfl, HK, HB⟩ := hrel
    by_cases hlt : k < l.length
    · have hlt2 : k < m.length := by have := HL.out; omega
      obtain ⟨g, of, hA, d0⟩ := ucell_at (HX.out.below HB (Nat.le_refl _)) hlt
      obtain ⟨g2, of2, hA2, e0⟩ := ucell_at (HY.out.below HB (Nat.le_refl _)) hlt2
      simp only at hA hA2
      subst hA hA2
      simp only at d0 e0
      have HS : Hid (l[k] = m[k] → l.take (k + 1) = m.take (k + 1)) := hi_ (take_step hlt hlt2 HK.out)
      have HN : Hid (¬ l[k] = m[k] → ¬ l = m) := hi_ (fun h e => h (by subst e; rfl))
      generalize l[k] = a at *
      generalize m[k] = b at *
      clear hlt2
      obtain ⟨bb, hbb⟩ : ∃ bb, (a != b) = bb := ⟨_, rfl⟩
      have HBB := hi_ (show bb = false ↔ a = b by rw [← hbb]; simp)
      cases bb with
      | true =>
        have HN2 := hi_ (HN.out (by intro e; have := HBB.out.2 e; cases this))
        clear HN HS
        go_wp2
        go_quiet (fail)
        go_wp2
        go_ret
        exact ⟨Says.no HN2.out, below_drewN HB _⟩
      | false =>
        have HS2 := hi_ (HS.out (by exact HBB.out.1 rfl))
        clear HN HS
        go_wp2
        go_quiet (fail)
        go_wp2
        go_roundw
        case rel => exact ⟨k + 1, by omega, by go_num, HS2, below_drewN HB _⟩
        case measure => simp [intOf]; omega
    · have hk' : k = l.length := by omega
      subst hk'
      have HE : Hid (l = m) := hi_ (by have := HK.out; rw [List.take_length, HL.out, List.take_length] at this; exact this)
      go_wp2
      go_ret
      exact ⟨Says.yes HE.out, HB⟩
theorem equal_bits (x y : L Bool) (w : World) (h : LOk w 1 bcell x) (h2 : LOk w 1 bcell y) :
    Calls Tryz.prog 30 #[x.v, y.v] w fun e w' => Says e (x.l = y.l) ∧ Below w.heap.size w w' := by
  obtain ⟨l, A0, c0⟩ := x
  obtain ⟨m, A1, c1⟩ := y
  have HX := hi_ h
  have HY := hi_ h2
  have hmx := h.1
  have hmy := h2.1
  unfold maxLen at hmx hmy
  clear h h2
  simp only [L.v] at *
  by_cases hl : l.length = m.length
  case neg =>
    have hne : (((l.length : Nat) : Int) == ((m.length : Nat) : Int)) = false := by rw [beq_eq_false_iff_ne]; omega
    have hne2 : ¬ ((l.length : Nat) : Int) = ((m.length : Nat) : Int) := by omega
    have HL := hi_ hl
    clear hl
    go_enter Tryz.func30, Tryz.ntmps30
    go_wp2
    go_ret
    exact ⟨Says.no (fun e => HL.out (by rw [e])), Below.refl _ _⟩
  rw [← hl]
  have HL := hi_ hl
  clear hl hmy
  go_enter Tryz.func30, Tryz.ntmps30
  go_wp2
  go_loopw [5] (fun iv wr => ∃ k : Nat, k ≤ l.length ∧ iv = .int .i64 k ∧ Hid (l.take k = m.take k) ∧ Below w.heap.size w wr) (fun i _ => l.length - (intOf i).toNat)
  case atStart => exact ⟨0, Nat.zero_le _, rfl, hi_ rfl, Below.refl _ _⟩
  case round =>
    obtain ⟨k, hk, rfl, HK, HB⟩ := hrel
    by_cases hlt : k < l.length
    · have hlt2 : k < m.length := by have := HL.out; omega
      obtain ⟨g, of, hA, d0⟩ := bcell_at (HX.out.below HB (Nat.le_refl _)) hlt
      obtain ⟨g2, of2, hA2, e0⟩ := bcell_at (HY.out.below HB (Nat.le_refl _)) hlt2
      simp only at hA hA2
      subst hA hA2
      simp only at d0 e0
      have HS : Hid (l[k] = m[k] → l.take (k + 1) = m.take (k + 1)) := hi_ (take_step hlt hlt2 HK.out)
      have HN : Hid (¬ l[k] = m[k] → ¬ l = m) := hi_ (fun h e => h (by subst e; rfl))
      generalize l[k] = a at *
      generalize m[k] = b at *
      clear hlt2
      by_cases hab : a = b
      · subst hab
        have HS2 := hi_ (HS.out rfl)
        clear HN HS
        cases a
        all_goals
          go_wp2
          go_quiet (fail)
          go_wp2
          go_roundw
          case rel => exact ⟨k + 1, by omega, by go_num, HS2, below_drewN HB _⟩
          case measure => simp [intOf]; omega
      · have HN2 := hi_ (HN.out hab)
        clear HN HS
        cases a <;> cases b
        · exact absurd rfl hab
        · clear hab
          go_wp2
          go_quiet (fail)
          go_wp2
          go_ret
          exact ⟨Says.no HN2.out, below_drewN HB _⟩
        · clear hab
          go_wp2
          go_quiet (fail)
          go_wp2
          go_ret
          exact ⟨Says.no HN2.out, below_drewN HB _⟩
        · exact absurd rfl hab
    · have hk' : k = l.length := by omega
      subst hk'
      have HE : Hid (l = m) := hi_ (by have := HK.out; rw [List.take_length, HL.out, List.take_length] at this; exact this)
      go_wp2
      go_ret
      exact ⟨Says.yes HE.out, HB⟩
def nilW {α : Type} : L α := ⟨[], none, 0⟩
theorem nilw_ok {α : Type} (w : World) (k : Nat) (cells : α → List Value) : LOk w k cells nilW := ⟨Nat.zero_le _, .inl rfl⟩
def metaW : List FieldD := [⟨⟨#[105, 110]⟩, 8⟩, ⟨⟨#[111, 117, 116]⟩, 8⟩, ⟨⟨#[100, 114, 111, 112]⟩, 1⟩, ⟨⟨#[109]⟩, 12⟩]
def progP (g : Nat) : ProgD := ⟨⟨#[112]⟩, ⟨[⟨⟨#[104]⟩, ⟨[⟨⟨#[97]⟩, 8⟩], some ⟨g, 0, none⟩, 1⟩⟩], some ⟨g + 1, 0, none⟩, 1⟩, ⟨metaW, some ⟨g + 1 + 1, 0, none⟩, 4⟩, nilW,
  ⟨[⟨⟨#[110, 111, 112]⟩, nilW, nilW⟩], some ⟨g + 1 + 1 + 1, 0, none⟩, 1⟩, nilW, ⟨[⟨⟨#[115]⟩, ⟨[0], some ⟨g + 1 + 1 + 1 + 1, 0, none⟩, 1⟩, false, 0, 0, nilW, -1⟩], some ⟨g + 1 + 1 + 1 + 1 + 1, 0, none⟩, 1⟩, nilW, ⟨[0], some ⟨g + 1 + 1 + 1 + 1 + 1 + 1, 0, none⟩, 1⟩⟩
theorem blk_at {w : World} {g : Nat} (h : w.heap.size = g) (t : TypeId) (cs : Array Value) : Blk (w.alloc (.cells cs t)) g t cs := h ▸ Blk.new w t cs
def fieldCs : Array Value := #[.string ⟨#[97]⟩, .int .i64 8]
def hdrCs (g : Nat) : Array Value := #[.string ⟨#[104]⟩, .slice (some ⟨g, 0, none⟩) 1 1]
def metaCs : Array Value := #[.string ⟨#[105, 110]⟩, .int .i64 8, .string ⟨#[111, 117, 116]⟩, .int .i64 8, .string ⟨#[100, 114, 111, 112]⟩, .int .i64 1, .string ⟨#[109]⟩, .int .i64 12]
def actCs : Array Value := #[.string ⟨#[110, 111, 112]⟩, .slice none 0 0, .slice none 0 0]
def stCs (g : Nat) : Array Value := #[.string ⟨#[115]⟩, .slice (some ⟨g + 1 + 1 + 1 + 1, 0, none⟩) 1 1, .bool false, .int .i64 0, .int .i64 0, .slice none 0 0, .int .i64 (-1)]
theorem prog_lies {w : World} {g : Nat} (b0 : Blk w g 135 fieldCs) (b1 : Blk w (g + 1) 96 (hdrCs g)) (b2 : Blk w (g + 1 + 1) 135 metaCs) (b3 : Blk w (g + 1 + 1 + 1) 124 actCs)
    (b4 : Blk w (g + 1 + 1 + 1 + 1) 3 #[.int .i64 0]) (b5 : Blk w (g + 1 + 1 + 1 + 1 + 1) 132 (stCs g)) (b6 : Blk w (g + 1 + 1 + 1 + 1 + 1 + 1) 3 #[.int .i64 0]) : ProgOk w (progP g) where
  name := by show (1 : Nat) ≤ _; unfold maxLen; omega
  headers := by
    refine ⟨by show (1 : Nat) ≤ maxLen; unfold maxLen; omega, .inr ⟨_, 0, rfl, b1.lt, fun i hi j hj => ?_⟩⟩
    have hi' : i < 1 := hi
    rw [b1.cell]
    match i, hi', j, hj with
    | 0, _, 0, _ => rfl
    | 0, _, 1, _ => rfl
  hdr := fun h hh => by
    simp only [progP, List.mem_cons, List.not_mem_nil, or_false] at hh
    subst hh
    refine ⟨by show (1 : Nat) ≤ _; unfold maxLen; omega, ?_, fun f hf => ?_⟩
    · exact by
          refine ⟨by show (1 : Nat) ≤ maxLen; unfold maxLen; omega, .inr ⟨_, 0, rfl, b0.lt, fun i hi j hj => ?_⟩⟩
          have hi' : i < 1 := hi
          rw [b0.cell]
          match i, hi', j, hj with
          | 0, _, 0, _ => rfl
          | 0, _, 1, _ => rfl
    · simp only [List.mem_cons, List.not_mem_nil, or_false] at hf
      subst hf
      show (1 : Nat) ≤ _; unfold maxLen; omega
  metadata := by
    refine ⟨by show (4 : Nat) ≤ maxLen; unfold maxLen; omega, .inr ⟨_, 0, rfl, b2.lt, fun i hi j hj => ?_⟩⟩
    have hi' : i < 4 := hi
    rw [b2.cell]
    match i, hi', j, hj with
    | 0, _, 0, _ => rfl
    | 0, _, 1, _ => rfl
    | 1, _, 0, _ => rfl
    | 1, _, 1, _ => rfl
    | 2, _, 0, _ => rfl
    | 2, _, 1, _ => rfl
    | 3, _, 0, _ => rfl
    | 3, _, 1, _ => rfl
  mnames := fun f hf => by
    simp only [progP, metaW, List.mem_cons, List.not_mem_nil, or_false] at hf
    rcases hf with rfl | rfl | rfl | rfl
    · show (2 : Nat) ≤ maxLen; unfold maxLen; omega
    · show (3 : Nat) ≤ maxLen; unfold maxLen; omega
    · show (4 : Nat) ≤ maxLen; unfold maxLen; omega
    · show (1 : Nat) ≤ maxLen; unfold maxLen; omega
  registers := nilw_ok _ _ _
  rnames := fun _ h => by cases h
  actions := by
    refine ⟨by show (1 : Nat) ≤ maxLen; unfold maxLen; omega, .inr ⟨_, 0, rfl, b3.lt, fun i hi j hj => ?_⟩⟩
    have hi' : i < 1 := hi
    rw [b3.cell]
    match i, hi', j, hj with
    | 0, _, 0, _ => rfl
    | 0, _, 1, _ => rfl
    | 0, _, 2, _ => rfl
  act := fun a ha => by
    simp only [progP, List.mem_cons, List.not_mem_nil, or_false] at ha
    subst ha
    exact ⟨by show (3 : Nat) ≤ _; unfold maxLen; omega, nilw_ok _ _ _, fun _ h => (by cases h), nilw_ok _ _ _, fun _ h => (by cases h)⟩
  tables := nilw_ok _ _ _
  tab := fun _ h => by cases h
  states := by
    refine ⟨by show (1 : Nat) ≤ maxLen; unfold maxLen; omega, .inr ⟨_, 0, rfl, b5.lt, fun i hi j hj => ?_⟩⟩
    have hi' : i < 1 := hi
    rw [b5.cell]
    match i, hi', j, hj with
    | 0, _, 0, _ => rfl
    | 0, _, 1, _ => rfl
    | 0, _, 2, _ => rfl
    | 0, _, 3, _ => rfl
    | 0, _, 4, _ => rfl
    | 0, _, 5, _ => rfl
    | 0, _, 6, _ => rfl
  state := fun s hs => by
    simp only [progP, List.mem_cons, List.not_mem_nil, or_false] at hs
    subst hs
    refine ⟨by show (1 : Nat) ≤ maxLen; unfold maxLen; omega, ?_, nilw_ok _ _ _⟩
    exact by
          refine ⟨by show (1 : Nat) ≤ maxLen; unfold maxLen; omega, .inr ⟨_, 0, rfl, b4.lt, fun i hi j hj => ?_⟩⟩
          have hi' : i < 1 := hi
          rw [b4.cell]
          match i, hi', j, hj with
          | 0, _, 0, _ => rfl
  control := nilw_ok _ _ _
  ctl := by show CtlsOk w []; rw [CtlsOk]; trivial
  deparser := by
    refine ⟨by show (1 : Nat) ≤ maxLen; unfold maxLen; omega, .inr ⟨_, 0, rfl, b6.lt, fun i hi j hj => ?_⟩⟩
    have hi' : i < 1 := hi
    rw [b6.cell]
    match i, hi', j, hj with
    | 0, _, 0, _ => rfl
theorem prog_acc (g : Nat) : AccSm (progP g) := ⟨by show (1 : Nat) ≤ 100; omega, fun k => by
  match k with
  | 0 => show (1 : Nat) ≤ 100; omega
  | k + 1 => show nF (progP g) (k + 1) ≤ 100; simp [nF, progP], by show (4 : Nat) ≤ 100; omega, Nat.zero_le _, Nat.le_refl _⟩
theorem prog_cap (g : Nat) : ProgCap (progP g) where
  fields := fun h hh => by
    simp only [progP, List.mem_cons, List.not_mem_nil, or_false] at hh
    subst hh
    exact Nat.le_refl _
  params := fun a ha => by
    simp only [progP, List.mem_cons, List.not_mem_nil, or_false] at ha
    subst ha
    exact Nat.le_refl _
  dep := Nat.le_refl _
  dflt := fun _ h => by cases h
  args := fun _ h => by cases h
  cases := fun s hs c hc => by
    simp only [progP, List.mem_cons, List.not_mem_nil, or_false] at hs
    subst hs
    cases hc
theorem prog_any (w : World) :
    Calls Tryz.prog 34 #[] w fun e w' => ∃ g, e = .returned (.agg (progCells (progP g))) ∧ ProgOk w' (progP g) ∧ Below w.heap.size w w' := by
  go_enter Tryz.func34, Tryz.ntmps34
  go_wp2
  refine bodyPost_ret (v := .agg (progCells (progP (w.heap.size + 1)))) ?_ rfl ?_
  · exact results_cell_row (fn := Tryz.f34) (p := 0) (ty := 31) rfl _ _ w.heap.size 31 (progCells (progP (w.heap.size + 1))) (0, 0) _ rfl ((((((((Blk.new _ _ _).alloc _).alloc _).alloc _).alloc _).alloc _).alloc _).alloc _) Tryz.underlying31 rfl (by kernel_rfl)
  · refine ⟨_, rfl, prog_lies ?_ ?_ ?_ ?_ ?_ ?_ ?_, ?_⟩
    · exact ((((((blk_at (by simp) _ _).alloc _).alloc _).alloc _).alloc _).alloc _).alloc _
    · exact (((((blk_at (by simp) _ _).alloc _).alloc _).alloc _).alloc _).alloc _
    · exact ((((blk_at (by simp) _ _).alloc _).alloc _).alloc _).alloc _
    · exact (((blk_at (by simp) _ _).alloc _).alloc _).alloc _
    · exact ((blk_at (by simp) _ _).alloc _).alloc _
    · exact (blk_at (by simp) _ _).alloc _
    · exact blk_at (by simp) _ _
    · exact below_alloc (below_alloc (below_alloc (below_alloc (below_alloc (below_alloc (below_alloc (below1 _ _) _) _) _) _) _) _) _
theorem chip_one (a b c : Int) (w : World) :
    Calls Tryz.prog 35 #[.int .i64 a, .int .i64 b, .int .i64 c] w fun e w' => e = .returned (.agg (chipCells ⟨4, 4, 4, 8, 8, a, b, c⟩)) ∧ Below w.heap.size w w' := by
  go_enter Tryz.func35, Tryz.ntmps35
  go_wp2
  refine bodyPost_ret (v := .agg (chipCells ⟨4, 4, 4, 8, 8, a, b, c⟩)) ?_ rfl ?_
  · exact results_cell_row (fn := Tryz.f35) (p := 6) (ty := 33) rfl _ _ w.heap.size 33 (chipCells ⟨4, 4, 4, 8, 8, a, b, c⟩) (0, 0) _ rfl (Blk.new _ _ _) Tryz.underlying33 rfl (by kernel_rfl)
  · exact ⟨rfl, below1 _ _⟩
def slotsP : List SlotD := [⟨8, 0, 0, 8⟩, ⟨8, 1, 0, 1⟩, ⟨8, 2, 0, 8⟩, ⟨8, 3, 0, 8⟩, ⟨8, 1, 1, 1⟩, ⟨16, 0, 0, 12⟩, ⟨8, 1, 2, 1⟩]
def envW (g : Nat) : EnvD := ⟨⟨[true], some ⟨g, 0, none⟩, 1⟩, ⟨[⟨[7], some ⟨g + 1, 0, none⟩, 1⟩], some ⟨g + 1 + 1, 0, none⟩, 1⟩, ⟨[1, 2, 1, 4095], some ⟨g + 1 + 1 + 1, 0, none⟩, 4⟩, ⟨[], none, 0⟩⟩
theorem alloc_one (g : Nat) : allocRes (progP g) 1 ⟨4, 4, 4, 8, 8, 8, 8, 8⟩ = (slotsP, 0) := by kernel_rfl
theorem alloc_two (g : Nat) : allocRes (progP g) 1 ⟨4, 4, 4, 8, 8, 8, 0, 0⟩ = ([], 10) := by kernel_rfl
theorem usage_one : usageS slotsP 8 = 4 ∧ usageS slotsP 16 = 1 ∧ usageS slotsP 32 = 0 := by decide +kernel
theorem load_one (g h : Nat) : loadM slotsP (valsM (progP g) (envW h).bare ++ [true].map bitI) = ⟨[7, 7, 1, 2], [4095], []⟩ := by kernel_rfl
def slotCs : Array Value := #[.int .i64 8, .int .i64 0, .int .i64 0, .int .i64 8, .int .i64 8, .int .i64 1, .int .i64 0, .int .i64 1, .int .i64 8, .int .i64 2, .int .i64 0, .int .i64 8, .int .i64 8, .int .i64 3, .int .i64 0, .int .i64 8, .int .i64 8, .int .i64 1, .int .i64 1, .int .i64 1, .int .i64 16, .int .i64 0, .int .i64 0, .int .i64 12, .int .i64 8, .int .i64 1, .int .i64 2, .int .i64 1]
theorem slots_lie {w : World} {g : Nat} (b : Blk w g 48 slotCs) : LOk w 4 SlotD.cells ⟨slotsP, some ⟨g, 0, none⟩, 7⟩ := by
  refine ⟨by show (7 : Nat) ≤ maxLen; unfold maxLen; omega, .inr ⟨_, 0, rfl, b.lt, fun i hi j hj => ?_⟩⟩
  have hi' : i < 7 := hi
  rw [b.cell]
  match i, hi', j, hj with
  | 0, _, 0, _ => rfl
  | 0, _, 1, _ => rfl
  | 0, _, 2, _ => rfl
  | 0, _, 3, _ => rfl
  | 1, _, 0, _ => rfl
  | 1, _, 1, _ => rfl
  | 1, _, 2, _ => rfl
  | 1, _, 3, _ => rfl
  | 2, _, 0, _ => rfl
  | 2, _, 1, _ => rfl
  | 2, _, 2, _ => rfl
  | 2, _, 3, _ => rfl
  | 3, _, 0, _ => rfl
  | 3, _, 1, _ => rfl
  | 3, _, 2, _ => rfl
  | 3, _, 3, _ => rfl
  | 4, _, 0, _ => rfl
  | 4, _, 1, _ => rfl
  | 4, _, 2, _ => rfl
  | 4, _, 3, _ => rfl
  | 5, _, 0, _ => rfl
  | 5, _, 1, _ => rfl
  | 5, _, 2, _ => rfl
  | 5, _, 3, _ => rfl
  | 6, _, 0, _ => rfl
  | 6, _, 1, _ => rfl
  | 6, _, 2, _ => rfl
  | 6, _, 3, _ => rfl
theorem u4_lie {w : World} {g : Nat} {a b c d : Int} (h : Blk w g 83 #[.int .u32 a, .int .u32 b, .int .u32 c, .int .u32 d]) : LOk w 1 ucell ⟨[a, b, c, d], some ⟨g, 0, none⟩, 4⟩ := by
  refine ⟨by show (4 : Nat) ≤ maxLen; unfold maxLen; omega, .inr ⟨_, 0, rfl, h.lt, fun i hi j hj => ?_⟩⟩
  have hi' : i < 4 := hi
  rw [h.cell]
  match i, hi', j, hj with
  | 0, _, 0, _ => rfl
  | 1, _, 0, _ => rfl
  | 2, _, 0, _ => rfl
  | 3, _, 0, _ => rfl
theorem u1_lie {w : World} {g : Nat} {a : Int} (h : Blk w g 83 #[.int .u32 a]) : LOk w 1 ucell ⟨[a], some ⟨g, 0, none⟩, 1⟩ := by
  refine ⟨by show (1 : Nat) ≤ maxLen; unfold maxLen; omega, .inr ⟨_, 0, rfl, h.lt, fun i hi j hj => ?_⟩⟩
  have hi' : i < 1 := hi
  rw [h.cell]
  match i, hi', j, hj with
  | 0, _, 0, _ => rfl
theorem b1_lie {w : World} {g : Nat} {a : Bool} (h : Blk w g 4 #[.bool a]) : LOk w 1 bcell ⟨[a], some ⟨g, 0, none⟩, 1⟩ := by
  refine ⟨by show (1 : Nat) ≤ maxLen; unfold maxLen; omega, .inr ⟨_, 0, rfl, h.lt, fun i hi j hj => ?_⟩⟩
  have hi' : i < 1 := hi
  rw [h.cell]
  match i, hi', j, hj with
  | 0, _, 0, _ => rfl
theorem l1_lie {w : World} {g k : Nat} (h : Blk w g 53 #[.slice (some ⟨k, 0, none⟩) 1 1]) : LOk w 1 lcell ⟨[⟨[7], some ⟨k, 0, none⟩, 1⟩], some ⟨g, 0, none⟩, 1⟩ := by
  refine ⟨by show (1 : Nat) ≤ maxLen; unfold maxLen; omega, .inr ⟨_, 0, rfl, h.lt, fun i hi j hj => ?_⟩⟩
  have hi' : i < 1 := hi
  rw [h.cell]
  match i, hi', j, hj with
  | 0, _, 0, _ => rfl
theorem env_lies {w : World} {g : Nat} (b0 : Blk w g 4 #[.bool true]) (b1 : Blk w (g + 1) 83 #[.int .u32 7]) (b2 : Blk w (g + 1 + 1) 53 #[.slice (some ⟨g + 1, 0, none⟩) 1 1])
    (b3 : Blk w (g + 1 + 1 + 1) 83 #[.int .u32 1, .int .u32 2, .int .u32 1, .int .u32 4095]) : EnvOk w (envW g) :=
  ⟨⟨b1_lie b0, fun h => by cases h⟩, ⟨l1_lie b2, fun h => by cases h⟩, fun x hx => by
    simp only [envW, List.mem_cons, List.not_mem_nil, or_false] at hx
    subst hx
    exact ⟨u1_lie b1, fun h => by cases h⟩, ⟨u4_lie b3, fun h => by cases h⟩, ⟨⟨Nat.zero_le _, .inl rfl⟩, fun _ => rfl⟩⟩
theorem alloc_p1 (g : Nat) (w : World) (o : ProgOk w (progP g)) : Calls Tryz.prog 11 #[.agg (progCells (progP g)), .int .i64 1, .agg (chipCells ⟨4, 4, 4, 8, 8, 8, 8, 8⟩)] w fun e w' =>
    ∃ A cp, e = .returned (.tuple #[.slice A 7 cp, .int .i64 0]) ∧ LOk w' 4 SlotD.cells ⟨slotsP, A, cp⟩ ∧ Below w.heap.size w w' := by
  refine (alloc_any (progP g) 1 ⟨4, 4, 4, 8, 8, 8, 8, 8⟩ w o (prog_acc g) (prog_cap g) (Nat.zero_le _)).mono ?_
  intro e w' h
  unfold AllocEnd at h
  rw [alloc_one] at h
  obtain ⟨A, cp, he, ho, hb⟩ := h
  obtain ⟨A', c', hv, _, hl, _⟩ := own_list (cells := SlotD.cells) (l := slotsP) (fun _ => rfl) ho
  injection hv with h1 _ h2
  subst h1 h2
  exact ⟨_, _, he, hl, hb⟩
theorem alloc_p2 (g : Nat) (w : World) (o : ProgOk w (progP g)) : Calls Tryz.prog 11 #[.agg (progCells (progP g)), .int .i64 1, .agg (chipCells ⟨4, 4, 4, 8, 8, 8, 0, 0⟩)] w fun e w' =>
    ∃ A cp, e = .returned (.tuple #[.slice A 0 cp, .int .i64 10]) ∧ Below w.heap.size w w' := by
  refine (alloc_any (progP g) 1 ⟨4, 4, 4, 8, 8, 8, 0, 0⟩ w o (prog_acc g) (prog_cap g) (Nat.zero_le _)).mono ?_
  intro e w' h
  unfold AllocEnd at h
  rw [alloc_two] at h
  obtain ⟨A, cp, he, _, hb⟩ := h
  exact ⟨A, cp, he, hb⟩
theorem usage_p (A : Option Addr) (cp : Nat) (w : World) (h : LOk w 4 SlotD.cells ⟨slotsP, A, cp⟩) : Calls Tryz.prog 24 #[.slice A 7 cp] w fun e w' => e = .returned (.tuple #[.int .i64 4, .int .i64 1, .int .i64 0]) ∧ Below w.heap.size w w' := by
  have h1 := pusage_any ⟨slotsP, A, cp⟩ w h (by show (7 : Nat) ≤ 1000; omega)
  simp only [usage_one.1, usage_one.2.1, usage_one.2.2] at h1
  exact h1
theorem load_p (g h : Nat) (A : Option Addr) (cp k : Nat) (w : World) (o : ProgOk w (progP g)) (hx : LOk w 4 SlotD.cells ⟨slotsP, A, cp⟩) (oe : EnvOk w (envW h)) (hb : LOk w 1 bcell ⟨[true], some ⟨k, 0, none⟩, 1⟩) :
    Calls Tryz.prog 22 #[.agg (progCells (progP g)), .slice A 7 cp, .agg (envCells (envW h)), .slice (some ⟨k, 0, none⟩) 1 1] w fun e w' =>
      ∃ A8 c8 A16 c16 A32 c32, e = .returned (.agg #[.slice A8 4 c8, .slice A16 1 c16, .slice A32 0 c32]) ∧ LOk w' 1 ucell ⟨[7, 7, 1, 2], A8, c8⟩ ∧ LOk w' 1 ucell ⟨[4095], A16, c16⟩ ∧ Below w.heap.size w w' := by
  refine (pload_any (progP g) ⟨slotsP, A, cp⟩ (envW h) ⟨[true], some ⟨k, 0, none⟩, 1⟩ w o (prog_acc g) hx (by show (7 : Nat) ≤ 1000; omega) oe hb).mono ?_
  rintro e w' ⟨y, rfl, hy, ⟨h8, h16, _⟩, hbl⟩
  rw [load_one] at hy
  obtain ⟨⟨l8, A8, c8⟩, ⟨l16, A16, c16⟩, ⟨l32, A32, c32⟩⟩ := y
  simp only [ConD.bare, ConM.mk.injEq] at hy
  obtain ⟨rfl, rfl, rfl⟩ := hy
  exact ⟨A8, c8, A16, c16, A32, c32, rfl, h8.1, h16.1, hbl⟩
theorem says_true {e : Ending} {p : Prop} (h : Says e p) (hp : p) : e = .returned (.bool true) := by
  obtain ⟨b, he, hb⟩ := h
  rw [he, hb.2 hp]
theorem eqs_p (A : Option Addr) (cp g : Nat) (w : World) (h : LOk w 4 SlotD.cells ⟨slotsP, A, cp⟩) (b : Blk w g 48 slotCs) : Calls Tryz.prog 13 #[.slice A 7 cp, .slice (some ⟨g, 0, none⟩) 7 7] w fun e w' => e = .returned (.bool true) ∧ Below w.heap.size w w' :=
  (equal_slots ⟨slotsP, A, cp⟩ ⟨slotsP, some ⟨g, 0, none⟩, 7⟩ w h (slots_lie b)).mono fun _ _ hh => ⟨says_true hh.1 rfl, hh.2⟩
theorem eq4_p (A : Option Addr) (cp g : Nat) (w : World) (h : LOk w 1 ucell ⟨[7, 7, 1, 2], A, cp⟩) (b : Blk w g 83 #[.int .u32 7, .int .u32 7, .int .u32 1, .int .u32 2]) : Calls Tryz.prog 36 #[.slice A 4 cp, .slice (some ⟨g, 0, none⟩) 4 4] w fun e w' => e = .returned (.bool true) ∧ Below w.heap.size w w' :=
  (equal_u32s ⟨[7, 7, 1, 2], A, cp⟩ ⟨[7, 7, 1, 2], some ⟨g, 0, none⟩, 4⟩ w h (u4_lie b)).mono fun _ _ hh => ⟨says_true hh.1 rfl, hh.2⟩
theorem eq1_p (A : Option Addr) (cp g : Nat) (w : World) (h : LOk w 1 ucell ⟨[4095], A, cp⟩) (b : Blk w g 83 #[.int .u32 4095]) : Calls Tryz.prog 36 #[.slice A 1 cp, .slice (some ⟨g, 0, none⟩) 1 1] w fun e w' => e = .returned (.bool true) ∧ Below w.heap.size w w' :=
  (equal_u32s ⟨[4095], A, cp⟩ ⟨[4095], some ⟨g, 0, none⟩, 1⟩ w h (u1_lie b)).mono fun _ _ hh => ⟨says_true hh.1 rfl, hh.2⟩
theorem works36_any (w : World) : Calls Tryz.prog 10 #[] w fun e w' => e = .returned (.bool true) ∧ Below w.heap.size w w' := by
  go_enter Tryz.func10, Tryz.ntmps10
  go_wp2_with fail
  refine (prog_any w).mono ?_
  rintro e w1 ⟨g, rfl, o1, hb1⟩
  go_wp2_with fail
  refine (chip_one 8 8 8 w1).mono ?_
  rintro e w2 ⟨rfl, hb2⟩
  go_wp2_with fail
  refine (alloc_p1 g w2 (o1.below hb2)).mono ?_
  rintro e w3 ⟨A, cp, rfl, hx3, hb3⟩
  have HB3 := hi_ (below_step (below_step hb1 hb2) hb3)
  have HX3 := hi_ hx3
  clear o1 hb1 hb2 hx3 hb3
  go_wp2_with fail
  refine (prog_any w3).mono ?_
  rintro e w4 ⟨g4, rfl, o4, hb4⟩
  go_wp2_with fail
  refine (chip_one 8 0 0 w4).mono ?_
  rintro e w5 ⟨rfl, hb5⟩
  go_wp2_with fail
  refine (alloc_p2 g4 w5 (o4.below hb5)).mono ?_
  rintro e w6 ⟨A6, cp6, rfl, hb6⟩
  have HB6 := hi_ (below_step HB3.out (below_step (below_step hb4 hb5) hb6))
  have HX6 := hi_ (HX3.out.below (below_step (below_step hb4 hb5) hb6) (Nat.le_refl _))
  clear o4 hb4 hb5 hb6 HB3 HX3
  go_wp2_with fail
  refine (usage_p A cp w6 HX6.out).mono ?_
  rintro e w7 ⟨rfl, hb7⟩
  have HB7 := hi_ (below_step HB6.out hb7)
  have HX7 := hi_ (HX6.out.below hb7 (Nat.le_refl _))
  clear hb7 HB6 HX6
  go_wp2_with fail
  refine (prog_any w7).mono ?_
  rintro e w8 ⟨g8, rfl, o8, hb8⟩
  have HB8 := hi_ (below_step HB7.out hb8)
  have HX8 := hi_ (HX7.out.below hb8 (Nat.le_refl _))
  have HO8 := hi_ o8
  clear o8 hb8 HB7 HX7
  go_wp2_with fail
  have hB5 : ∀ o1 o2 o3 o4 o5, Below w8.heap.size w8 (((((w8.alloc o1).alloc o2).alloc o3).alloc o4).alloc o5) := fun _ _ _ _ _ => below_alloc (below_alloc (below_alloc (below_alloc (below1 _ _) _) _) _) _
  refine (load_p g8 w8.heap.size A cp _ _ (HO8.out.below (hB5 _ _ _ _ _)) (HX8.out.below (hB5 _ _ _ _ _) (Nat.le_refl _)) ?e ?b).mono ?m
  case e =>
    refine env_lies ?_ ?_ ?_ ?_
    · exact ((((Blk.new _ _ _).alloc _).alloc _).alloc _).alloc _
    · exact (((blk_at (by simp) _ _).alloc _).alloc _).alloc _
    · exact ((blk_at (by simp) _ _).alloc _).alloc _
    · exact (blk_at (by simp) _ _).alloc _
  case b => exact b1_lie (blk_at (by simp) _ _)
  case m =>
  rintro e w9 ⟨A8, c8, A16, c16, A32, c32, rfl, h8, h16, hb9⟩
  have HB9 := hi_ (below_step HB8.out (below_step (hB5 _ _ _ _ _) hb9))
  have HX9 := hi_ (HX8.out.below (below_step (hB5 _ _ _ _ _) hb9) (Nat.le_refl _))
  have H8 := hi_ h8
  have H16 := hi_ h16
  clear hB5 HO8 HB8 HX8 h8 h16 hb9
  go_wp2_with fail
  have hB2 : ∀ o1 o2, Below w9.heap.size w9 ((w9.alloc o1).alloc o2) := fun _ _ => below_alloc (below1 _ _) _
  refine (eqs_p A cp (w9.heap.size + 1) _ (HX9.out.below (hB2 _ _) (Nat.le_refl _)) (blk_at (by simp) _ _)).mono ?_
  rintro e w10 ⟨rfl, hb10⟩
  have hk : Blk w10 w9.heap.size 64 #[.slice A8 4 c8, .slice A16 1 c16, .slice A32 0 c32] := ((Blk.new _ _ _).alloc _).below hb10 (by simp; omega)
  have HB10 := hi_ (below_step HB9.out (below_step (hB2 _ _) hb10))
  have H8b := hi_ (H8.out.below (below_step (hB2 _ _) hb10) (Nat.le_refl _))
  have H16b := hi_ (H16.out.below (below_step (hB2 _ _) hb10) (Nat.le_refl _))
  have s0 : w10.cell? ⟨w9.heap.size, 0, none⟩ = some (.slice A8 4 c8) := hk.cell 0
  have HK := hi_ hk
  clear hb10 hB2 HX9 HB9 H8 H16 hk
  go_wp2_with fail
  refine (eq4_p A8 c8 w10.heap.size _ (H8b.out.below (below1 _ _) (Nat.le_refl _)) (Blk.new _ _ _)).mono ?_
  rintro e w11 ⟨rfl, hb11⟩
  have HB11 := hi_ (below_step HB10.out (below_step (below1 _ _) hb11))
  have H16c := hi_ (H16b.out.below (below_step (below1 _ _) hb11) (Nat.le_refl _))
  have s1 : w11.cell? ⟨w9.heap.size, 1, none⟩ = some (.slice A16 1 c16) := (HK.out.below (below_step (below1 _ _) hb11) HK.out.lt).cell 1
  clear hb11 HB10 H8b H16b s0 HK
  go_wp2_with fail
  refine (eq1_p A16 c16 w11.heap.size _ (H16c.out.below (below1 _ _) (Nat.le_refl _)) (Blk.new _ _ _)).mono ?_
  rintro e w12 ⟨rfl, hb12⟩
  have HB12 := hi_ (below_step HB11.out (below_step (below1 _ _) hb12))
  clear hb12 HB11 H16c s1
  go_wp2
  go_ret
  exact ⟨rfl, HB12.out⟩
end Go.Proofs.YtbfjknidinkafaaGreat
