/- The walks of law17.fields and law17.body: what a yes of them tells. No condition but that the arguments lie in memory. The walk of law17.Small: what a yes of it tells. No condition but that the program lies in memory. The walks of law20.size, law20.Small and law36.small: what a yes of them tells. No condition but that the program lies in memory. Walks of the reference's environments: element, Has, Get (package patchbayref12). No condition but that the environment lies in memory. Walks of the reference's containers: count, of, put; of law17.SmallEnv; of law36.convert. No condition but that the arguments lie in memory. The walk of the reference's put (package patchbayref36). No condition but that the lists lie in memory of the call's own, and the slot fits. The walk of the reference's values (package patchbayref36). No condition but that program and environment lie in memory and the program's lists are short. The region of the reference's Load (package patchbayref36) that counts, and makes three lists and a struct, in whatever order. No condition but what the counts are. The walk of the reference's Load (package patchbayref36). No condition but that the arguments lie in memory, the program's lists are short and the slots few. The walk of the reference's EqualContainers at equal containers (package patchbayref36), and the law PhvLoads. No condition but that the arguments are well read. The law PhvLoads. No condition but that the arguments are well read. The law patchbaylaw36.PhvLoads holds: for every input the call returns true, and each argument reads afterwards as it read before. No condition. -/
import Derived.Test.YtbfjknidinkafaaGreatMov
import Derived.BigQuiet
import Derived.Test.YtbfjknidinkafaaGreatCkK
import Derived.Test.YtbfjknidinkafaaGreatCkS
import Derived.Test.YtbfjknidinkafaaGreatJc
import Derived.Test.YtbfjknidinkafaaGreatJe
import Derived.Test.YtbfjknidinkafaaGreatRcA
import Derived.Deep.RegionHeld3
import Derived.Laws.OwnMore
import Derived.Test.YtbfjknidinkafaaGreatRows
import Derived.WalkKit
import Derived.ProofKit
import Derived.OpenShut
import Derived.Test.YtbfjknidinkafaaGreatPost
namespace Go.Proofs.YtbfjknidinkafaaGreat
open Go.RowKit

/-- e is a Bool, and a yes tells p -/
def Yes (e : Ending) (p : Prop) : Prop := ∃ b : Bool, e = .returned (.bool b) ∧ (b = true → p)
theorem Yes.no {p : Prop} : Yes (.returned (.bool false)) p := ⟨false, rfl, fun h => by cases h⟩
theorem Yes.yes {p : Prop} (h : p) : Yes (.returned (.bool true)) p := ⟨true, rfl, fun _ => h⟩
set_option maxRecDepth 100000 in
set_option maxHeartbeats 4000000 in
theorem lfields_any (x : L FieldD) (w : World) (h : LOk w 2 FieldD.cells x) :
    Calls Tryz.prog 80 #[.slice x.A x.l.length x.c] w fun e w' => Yes e (x.l.length ≤ 16) ∧ w = w' := by
  obtain ⟨l, A, c⟩ := x
  have HX := Lib.hid h
  have hmx := h.1
  unfold maxLen at hmx
  clear h
  simp only at hmx ⊢
  by_cases h16 : (16 : Int) < (l.length : Int)
  case pos =>
    go_enter Tryz.func80, Tryz.ntmps80
    go_wp2
    go_ret
    exact ⟨Yes.no, rfl⟩
  have HB := Lib.hid (show l.length ≤ 16 by omega)
  go_enter Tryz.func80, Tryz.ntmps80
  go_wp2
  go_loopw [3] (fun iv wr => ∃ k : Nat, k ≤ l.length ∧ iv = .int .i64 k ∧ w = wr) (fun i _ => l.length - (intOf i).toNat)
  case atStart => exact ⟨0, Nat.zero_le _, rfl, rfl⟩
  case round =>
    obtain ⟨k, hk, rfl, rfl⟩ := hrel
    by_cases hlt : k < l.length
    · obtain ⟨g, of, hA, d0, d1⟩ := FieldD.at HX.out hlt
      simp only at hA
      subst hA
      simp only at d0 d1
      generalize l[k] = s at *
      obtain ⟨nm, z⟩ := s
      simp only at d0 d1
      by_cases h40 : (40 : Int) < (nm.size : Int)
      · go_wp2
        go_ret
        exact ⟨Yes.no, rfl⟩
      · go_wp2
        go_roundw
        case rel => exact ⟨k + 1, by omega, by go_num, trivial⟩
        case measure => simp [intOf]; omega
    · have hk' : k = l.length := by omega
      subst hk'
      go_wp2
      go_ret
      exact ⟨Yes.yes HB.out, rfl⟩
set_option maxRecDepth 100000 in
set_option maxHeartbeats 8000000 in
theorem lbody_any (x : ActD) (w : World) (h : ActOk w x) :
    Calls Tryz.prog 81 #[.agg #[.string x.name, .slice x.params.A x.params.l.length x.params.c, .slice x.body.A x.body.l.length x.body.c]] w fun e w' => Yes e True ∧ Below w.heap.size w w' := by
  obtain ⟨nm, pr, ⟨l, A, c⟩⟩ := x
  obtain ⟨W, hW⟩ : ∃ W, W = w.alloc (.cells #[.string nm, .slice pr.A pr.l.length pr.c, .slice A l.length c] 124) := ⟨_, rfl⟩
  have HX := Lib.hid (h.body.below (below1 w (.cells #[.string nm, .slice pr.A pr.l.length pr.c, .slice A l.length c] 124)) (Nat.le_refl _))
  rw [← hW] at HX
  have HPr := Lib.hid (lfields_any pr W (by rw [hW]; exact h.params.below (below1 _ _) (Nat.le_refl _)))
  have HK : Blk W w.heap.size 124 #[.string nm, .slice pr.A pr.l.length pr.c, .slice A l.length c] := by rw [hW]; exact Blk.new _ _ _
  have HW : Hid (Below w.heap.size w W) := Lib.hid (by rw [hW]; exact below1 _ _)
  have s0 : W.cell? ⟨w.heap.size, 0, none⟩ = some (.string nm) := HK.cell 0
  have s1 : W.cell? ⟨w.heap.size, 1, none⟩ = some (.slice pr.A pr.l.length pr.c) := HK.cell 1
  have s2 : W.cell? ⟨w.heap.size, 2, none⟩ = some (.slice A l.length c) := HK.cell 2
  have hmx := h.body.1
  unfold maxLen at hmx
  clear h HK
  simp only at hmx HX ⊢
  go_enter Tryz.func81, Tryz.ntmps81
  go_upto_region 1 with fail
  rw [← hW]
  clear hW
  by_cases h40 : (40 : Int) < (nm.size : Int)
  case pos =>
    go_wp2
    go_ret
    exact ⟨Yes.no, HW.out⟩
  go_wp2_with fail
  refine HPr.out.mono ?_
  rintro e w' ⟨⟨b, rfl, _⟩, rfl⟩
  clear s0 s1 HPr h40
  cases b with
  | false =>
    go_wp2
    go_ret
    exact ⟨Yes.no, HW.out⟩
  | true =>
  by_cases h16 : (16 : Int) < (l.length : Int)
  case pos =>
    go_wp2
    go_ret
    exact ⟨Yes.no, HW.out⟩
  go_wp2
  go_loopw [3] (fun iv wr => ∃ k : Nat, k ≤ l.length ∧ iv = .int .i64 k ∧ W = wr) (fun i _ => l.length - (intOf i).toNat)
  case atStart => exact ⟨0, Nat.zero_le _, rfl, rfl⟩
  case round =>
    obtain ⟨k, hk, rfl, rfl⟩ := hrel
    by_cases hlt : k < l.length
    · obtain ⟨g, of, hA, d0, d1, d2, d3, d4, d5, d6⟩ := StmtD.at HX.out hlt
      simp only at hA
      subst hA
      simp only at d0 d1 d2 d3 d4 d5 d6
      generalize l[k] = s at *
      obtain ⟨a0, a1, a2, a3, a4, a5, a6⟩ := s
      simp only at d0 d1 d2 d3 d4 d5 d6
      clear d0 d1 d2 d3 d4
      by_cases h5 : (40 : Int) < (a5.l.length : Int)
      · go_wp2
        go_ret
        exact ⟨Yes.no, HW.out⟩
      · by_cases h6 : (40 : Int) < (a6.l.length : Int)
        · go_wp2
          go_ret
          exact ⟨Yes.no, HW.out⟩
        · go_wp2
          go_roundw
          case rel => exact ⟨k + 1, by omega, by go_num, trivial⟩
          case measure => simp [intOf]; omega
    · have hk' : k = l.length := by omega
      subst hk'
      go_wp2
      go_ret
      exact ⟨Yes.yes trivial, HW.out⟩
end Go.Proofs.YtbfjknidinkafaaGreat
namespace Go.Proofs.YtbfjknidinkafaaGreat
open Go.RowKit

set_option maxRecDepth 100000 in
set_option maxHeartbeats 16000000 in
theorem lsmall_any (p : ProgD) (w : World) (o : ProgOk w p) :
    Calls Tryz.prog 32 #[.agg (progCells p)] w fun e w' => Yes e (p.headers.l.length ≤ 12 ∧ (∀ k (h : k < p.headers.l.length), p.headers.l[k].fields.l.length ≤ 16) ∧ p.metadata.l.length ≤ 16 ∧ p.registers.l.length ≤ 8) ∧ Below w.heap.size w w' := by
  obtain ⟨W, hW⟩ : ∃ W, W = w.alloc (.cells (progCells p) 31) := ⟨_, rfl⟩
  have HW : Hid (Below w.heap.size w W) := Lib.hid (by rw [hW]; exact below1 _ _)
  have HP : Hid (Blk W w.heap.size 31 (progCells p)) := Lib.hid (by rw [hW]; exact Blk.new _ _ _)
  have HQ := Lib.hid (fun w' (h : Below W.heap.size W w') (i : Nat) => (HP.out.below h HP.out.lt).cell i)
  have HO := Lib.hid (o.below HW.out)
  have HB0 := Lib.hid (Below.refl W.heap.size W)
  clear o HP
  go_enter Tryz.func32, Tryz.ntmps32
  go_upto_region 1 with fail
  rw [← hW]
  clear hW
  have s0 : W.cell? ⟨w.heap.size, 0, none⟩ = some (.string p.name) := HQ.out W HB0.out 0
  have s1 : W.cell? ⟨w.heap.size, 1, none⟩ = some (.slice p.headers.A p.headers.l.length p.headers.c) := HQ.out W HB0.out 1
  have s2 : W.cell? ⟨w.heap.size, 2, none⟩ = some (.slice p.metadata.A p.metadata.l.length p.metadata.c) := HQ.out W HB0.out 2
  have s3 : W.cell? ⟨w.heap.size, 3, none⟩ = some (.slice p.registers.A p.registers.l.length p.registers.c) := HQ.out W HB0.out 3
  have s4 : W.cell? ⟨w.heap.size, 4, none⟩ = some (.slice p.actions.A p.actions.l.length p.actions.c) := HQ.out W HB0.out 4
  have s5 : W.cell? ⟨w.heap.size, 5, none⟩ = some (.slice p.tables.A p.tables.l.length p.tables.c) := HQ.out W HB0.out 5
  have s6 : W.cell? ⟨w.heap.size, 6, none⟩ = some (.slice p.states.A p.states.l.length p.states.c) := HQ.out W HB0.out 6
  have s8 : W.cell? ⟨w.heap.size, 8, none⟩ = some (.slice p.deparser.A p.deparser.l.length p.deparser.c) := HQ.out W HB0.out 8
  by_cases c0 : (40 : Int) < (p.name.size : Int)
  case pos =>
    go_wp2
    go_ret
    exact ⟨Yes.no, below_step HW.out HB0.out⟩
  by_cases c1 : (12 : Int) < (p.headers.l.length : Int)
  case pos =>
    go_wp2
    go_ret
    exact ⟨Yes.no, below_step HW.out HB0.out⟩
  go_wp2_with fail
  refine (lfields_any p.metadata W HO.out.metadata).mono ?_
  rintro e w' ⟨⟨b, rfl, hb⟩, rfl⟩
  cases b with
  | false =>
    go_wp2
    go_ret
    exact ⟨Yes.no, below_step HW.out HB0.out⟩
  | true =>
  have HM := Lib.hid (hb rfl)
  clear hb
  by_cases c3 : (8 : Int) < (p.registers.l.length : Int)
  case pos =>
    go_wp2
    go_ret
    exact ⟨Yes.no, below_step HW.out HB0.out⟩
  by_cases c4 : (20 : Int) < (p.actions.l.length : Int)
  case pos =>
    go_wp2
    go_ret
    exact ⟨Yes.no, below_step HW.out HB0.out⟩
  by_cases c5 : (16 : Int) < (p.tables.l.length : Int)
  case pos =>
    go_wp2
    go_ret
    exact ⟨Yes.no, below_step HW.out HB0.out⟩
  by_cases c6 : (16 : Int) < (p.states.l.length : Int)
  case pos =>
    go_wp2
    go_ret
    exact ⟨Yes.no, below_step HW.out HB0.out⟩
  by_cases c8 : (16 : Int) < (p.deparser.l.length : Int)
  case pos =>
    go_wp2
    go_ret
    exact ⟨Yes.no, below_step HW.out HB0.out⟩
  have HL : Hid (p.headers.l.length ≤ 12 ∧ p.registers.l.length ≤ 8) := Lib.hid ⟨by omega, by omega⟩
  have bn0 : p.headers.l.length ≤ 20 := by omega
  have bn1 : p.registers.l.length ≤ 20 := by omega
  have bn2 : p.actions.l.length ≤ 20 := by omega
  have bn3 : p.tables.l.length ≤ 20 := by omega
  have bn4 : p.states.l.length ≤ 20 := by omega
  go_wp2
  clear s0 s1 s2 s3 s4 s5 s6 s8 c0 c1 c3 c4 c5 c6 c8
  go_loopw [3] (fun iv wr => ∃ k : Nat, k ≤ p.headers.l.length ∧ iv = .int .i64 k ∧ Hid (∀ i (h : i < p.headers.l.length), i < k → p.headers.l[i].fields.l.length ≤ 16) ∧ Below W.heap.size W wr) (fun i _ => p.headers.l.length - (intOf i).toNat)
  case atStart => exact ⟨0, Nat.zero_le _, rfl, Lib.hid (fun i h h2 => absurd h2 (Nat.not_lt_zero _)), HB0.out⟩
  case round =>
  obtain ⟨k, hk, rfl, HY, HB⟩ := hrel
  have s1 : wr.cell? ⟨w.heap.size, 1, none⟩ = some (.slice p.headers.A p.headers.l.length p.headers.c) := HQ.out wr HB 1
  by_cases hlt : k < p.headers.l.length
  case pos =>
    obtain ⟨g, of, hA, hall⟩ := HeaderD.atA HO.out.headers hlt
    obtain ⟨d0, d1⟩ := hall wr HB
    have hf := (HO.out.hdr _ (List.getElem_mem hlt)).fields.below HB (Nat.le_refl _)
    have HS := Lib.hid (fun (hn : p.headers.l[k].fields.l.length ≤ 16) i (h : i < p.headers.l.length) (h2 : i < k + 1) => if e : i = k then (by subst e; exact hn : p.headers.l[i].fields.l.length ≤ 16) else HY.out i h (by omega))
    rw [hA] at s1
    have hBe := Lib.hid HB
    have HLT := Lib.hid (show k + 1 ≤ p.headers.l.length from hlt)
    clear HY hall hA
    generalize p.headers.l[k] = s at *
    obtain ⟨nm, fl⟩ := s
    simp only at d0 d1 hf HS
    by_cases t0 : (40 : Int) < (nm.size : Int)
    case pos =>
      go_wp2
      go_ret
      exact ⟨Yes.no, below_step HW.out (by exact hBe.out)⟩
    go_wp2_with fail
    refine (lfields_any fl wr hf).mono ?_
    rintro e w' ⟨⟨b, rfl, hb⟩, rfl⟩
    cases b with
    | false =>
      go_wp2
      go_ret
      exact ⟨Yes.no, below_step HW.out hBe.out⟩
    | true =>
    have HBn := Lib.hid (hb rfl)
    clear hb
    go_wp2
    go_roundw
    case rel => exact ⟨k + 1, HLT.out, by go_num, Lib.hid (HS.out HBn.out), hBe.out⟩
    case measure => have := HLT.out; simp [intOf]; omega
  have hk' : k = p.headers.l.length := by omega
  subst hk'
  have HF := HY
  have HBk := Lib.hid HB
  clear hk HB HY
  have s3 : wr.cell? ⟨w.heap.size, 3, none⟩ = some (.slice p.registers.A p.registers.l.length p.registers.c) := HQ.out wr HBk.out 3
  go_wp2
  clear s3 s1 hlt
  go_loopw [4] (fun iv wr => ∃ k : Nat, k ≤ p.registers.l.length ∧ iv = .int .i64 k ∧ Hid (True) ∧ Below W.heap.size W wr) (fun i _ => p.registers.l.length - (intOf i).toNat)
  case atStart => exact ⟨0, Nat.zero_le _, rfl, Lib.hid (trivial), HBk.out⟩
  case round =>
  obtain ⟨k, hk, rfl, HY, HB⟩ := hrel
  have s3 : wr.cell? ⟨w.heap.size, 3, none⟩ = some (.slice p.registers.A p.registers.l.length p.registers.c) := HQ.out wr HB 3
  by_cases hlt : k < p.registers.l.length
  case pos =>
    obtain ⟨g, of, hA, hall⟩ := RegD.atA HO.out.registers hlt
    obtain ⟨d0, d1, d2⟩ := hall wr HB
    rw [hA] at s3
    have hBe := Lib.hid HB
    have HLT := Lib.hid (show k + 1 ≤ p.registers.l.length from hlt)
    clear HY hall hA
    generalize p.registers.l[k] = s at *
    obtain ⟨nm, z1, z2⟩ := s
    simp only at d0 d1 d2
    by_cases t0 : (40 : Int) < (nm.size : Int)
    case pos =>
      go_wp2
      go_ret
      exact ⟨Yes.no, below_step HW.out (by exact hBe.out)⟩
    go_wp2
    go_roundw
    case rel => exact ⟨k + 1, HLT.out, by go_num, Lib.hid trivial, by exact hBe.out⟩
    case measure => have := HLT.out; simp [intOf]; omega
  have hk' : k = p.registers.l.length := by omega
  subst hk'
  have HBk := Lib.hid HB
  clear hk HB HY
  have s4 : wr.cell? ⟨w.heap.size, 4, none⟩ = some (.slice p.actions.A p.actions.l.length p.actions.c) := HQ.out wr HBk.out 4
  go_wp2
  clear s4 s3 hlt
  go_loopw [5] (fun iv wr => ∃ k : Nat, k ≤ p.actions.l.length ∧ iv = .int .i64 k ∧ Hid (True) ∧ Below W.heap.size W wr) (fun i _ => p.actions.l.length - (intOf i).toNat)
  case atStart => exact ⟨0, Nat.zero_le _, rfl, Lib.hid (trivial), HBk.out⟩
  case round =>
  obtain ⟨k, hk, rfl, HY, HB⟩ := hrel
  have s4 : wr.cell? ⟨w.heap.size, 4, none⟩ = some (.slice p.actions.A p.actions.l.length p.actions.c) := HQ.out wr HB 4
  by_cases hlt : k < p.actions.l.length
  case pos =>
    obtain ⟨g, of, hA, hall⟩ := ActD.atA HO.out.actions hlt
    obtain ⟨d0, d1, d2⟩ := hall wr HB
    have hf := (HO.out.act _ (List.getElem_mem hlt)).below HB
    rw [hA] at s4
    have hBe := Lib.hid HB
    have HLT := Lib.hid (show k + 1 ≤ p.actions.l.length from hlt)
    clear HY hall hA
    generalize p.actions.l[k] = s at *
    obtain ⟨nm, pr, bd⟩ := s
    simp only at d0 d1 d2
    go_wp2_with fail
    refine (lbody_any ⟨nm, pr, bd⟩ wr hf).mono ?_
    rintro e w' ⟨⟨b, rfl, hb⟩, hb2⟩
    cases b with
    | false =>
      go_wp2
      go_ret
      exact ⟨Yes.no, below_step HW.out (below_step hBe.out hb2)⟩
    | true =>
    have HBn := Lib.hid (hb rfl)
    clear hb
    go_wp2
    go_roundw
    case rel => exact ⟨k + 1, HLT.out, by go_num, Lib.hid trivial, (below_step hBe.out hb2)⟩
    case measure => have := HLT.out; simp [intOf]; omega
  have hk' : k = p.actions.l.length := by omega
  subst hk'
  have HBk := Lib.hid HB
  clear hk HB HY
  have s5 : wr.cell? ⟨w.heap.size, 5, none⟩ = some (.slice p.tables.A p.tables.l.length p.tables.c) := HQ.out wr HBk.out 5
  go_wp2
  clear s5 s4 hlt
  go_loopw [6, 7] (fun iv _ wr => ∃ k : Nat, k ≤ p.tables.l.length ∧ iv = .int .i64 k ∧ Hid (True) ∧ Below W.heap.size W wr) (fun i _ _ => p.tables.l.length - (intOf i).toNat)
  case atStart => exact ⟨0, Nat.zero_le _, rfl, Lib.hid (trivial), HBk.out⟩
  case round =>
  obtain ⟨k, hk, rfl, HY, HB⟩ := hrel
  have s5 : wr.cell? ⟨w.heap.size, 5, none⟩ = some (.slice p.tables.A p.tables.l.length p.tables.c) := HQ.out wr HB 5
  by_cases hlt : k < p.tables.l.length
  case pos =>
    obtain ⟨g, of, hA, hall⟩ := TabD.atA HO.out.tables hlt
    obtain ⟨d0, d1, d2, d3, d4, d5⟩ := hall wr HB
    rw [hA] at s5
    have hBe := Lib.hid HB
    have HLT := Lib.hid (show k + 1 ≤ p.tables.l.length from hlt)
    clear HY hall hA
    generalize p.tables.l[k] = s at *
    obtain ⟨nm, ks, ac, da, ar, sz⟩ := s
    simp only at d0 d1 d2 d3 d4 d5
    have hca := @World.cell?_alloc_some
    by_cases t0 : (40 : Int) < (nm.size : Int)
    case pos =>
      go_wp2
      go_ret
      exact ⟨Yes.no, below_step HW.out (by exact below_alloc hBe.out _)⟩
    by_cases t1 : (10 : Int) < (ks.l.length : Int)
    case pos =>
      go_wp2
      go_ret
      exact ⟨Yes.no, below_step HW.out (by exact below_alloc hBe.out _)⟩
    by_cases t2 : (24 : Int) < (ac.l.length : Int)
    case pos =>
      go_wp2
      go_ret
      exact ⟨Yes.no, below_step HW.out (by exact below_alloc hBe.out _)⟩
    by_cases t3 : (10 : Int) < (ar.l.length : Int)
    case pos =>
      go_wp2
      go_ret
      exact ⟨Yes.no, below_step HW.out (by exact below_alloc hBe.out _)⟩
    go_wp2
    go_roundw
    case rel => exact ⟨k + 1, HLT.out, by go_num, Lib.hid trivial, by exact below_alloc hBe.out _⟩
    case measure => have := HLT.out; simp [intOf]; omega
  have hk' : k = p.tables.l.length := by omega
  subst hk'
  have HBk := Lib.hid HB
  clear hk HB HY
  have s6 : wr.cell? ⟨w.heap.size, 6, none⟩ = some (.slice p.states.A p.states.l.length p.states.c) := HQ.out wr HBk.out 6
  go_wp2
  clear s6 s5 hlt
  go_loopw [8] (fun iv wr => ∃ k : Nat, k ≤ p.states.l.length ∧ iv = .int .i64 k ∧ Hid (True) ∧ Below W.heap.size W wr) (fun i _ => p.states.l.length - (intOf i).toNat)
  case atStart => exact ⟨0, Nat.zero_le _, rfl, Lib.hid (trivial), HBk.out⟩
  case round =>
  obtain ⟨k, hk, rfl, HY, HB⟩ := hrel
  have s6 : wr.cell? ⟨w.heap.size, 6, none⟩ = some (.slice p.states.A p.states.l.length p.states.c) := HQ.out wr HB 6
  by_cases hlt : k < p.states.l.length
  case pos =>
    obtain ⟨g, of, hA, hall⟩ := StateD.atA HO.out.states hlt
    obtain ⟨d0, d1, d2, d3, d4, d5, d6⟩ := hall wr HB
    rw [hA] at s6
    have hBe := Lib.hid HB
    have HLT := Lib.hid (show k + 1 ≤ p.states.l.length from hlt)
    clear HY hall hA
    generalize p.states.l[k] = s at *
    obtain ⟨nm, ex, sl, oh, of2, cs, df⟩ := s
    simp only at d0 d1 d2 d3 d4 d5 d6
    by_cases t0 : (40 : Int) < (nm.size : Int)
    case pos =>
      go_wp2
      go_ret
      exact ⟨Yes.no, below_step HW.out (by exact hBe.out)⟩
    by_cases t1 : (8 : Int) < (ex.l.length : Int)
    case pos =>
      go_wp2
      go_ret
      exact ⟨Yes.no, below_step HW.out (by exact hBe.out)⟩
    by_cases t2 : (16 : Int) < (cs.l.length : Int)
    case pos =>
      go_wp2
      go_ret
      exact ⟨Yes.no, below_step HW.out (by exact hBe.out)⟩
    go_wp2
    go_roundw
    case rel => exact ⟨k + 1, HLT.out, by go_num, Lib.hid trivial, by exact hBe.out⟩
    case measure => have := HLT.out; simp [intOf]; omega
  have hk' : k = p.states.l.length := by omega
  subst hk'
  have HBk := Lib.hid HB
  clear hk HB HY
  go_wp2
  go_ret
  exact ⟨Yes.yes ⟨HL.out.1, fun k h => HF.out k h h, HM.out, HL.out.2⟩, below_step HW.out HBk.out⟩
end Go.Proofs.YtbfjknidinkafaaGreat
namespace Go.Proofs.YtbfjknidinkafaaGreat
open Go.RowKit

set_option maxRecDepth 100000 in
set_option maxHeartbeats 8000000 in
theorem csize_any : ∀ (d : Nat) (D : Int) (x : L CtlD) (M : Int) (w : World), D = d → d ≤ 12 → -1 ≤ M → M ≤ 60 → LOk w 5 CtlD.cells x → CtlsOk w x.l →
    Calls Tryz.prog 82 #[.slice x.A x.l.length x.c, .int .i64 M, .int .i64 D] w fun e w' => (∃ n : Int, e = .returned (.int .i64 n) ∧ n ≤ M + 1 ∧ (n ≤ M → ((presM x.l).length : Int) = n) ∧ 0 ≤ n) ∧ Below w.heap.size w w'
  | d, D, ⟨cl, cA, cc⟩, M, w, hD, hd, hM1, hM2, hc, hcs => by
    have IH : Hid (∀ d', d' + 1 = d → ∀ (D : Int) (x : L CtlD) (M : Int) (w : World), D = d' → d' ≤ 12 → -1 ≤ M → M ≤ 60 → LOk w 5 CtlD.cells x → CtlsOk w x.l →
      Calls Tryz.prog 82 #[.slice x.A x.l.length x.c, .int .i64 M, .int .i64 D] w fun e w' => (∃ n : Int, e = .returned (.int .i64 n) ∧ n ≤ M + 1 ∧ (n ≤ M → ((presM x.l).length : Int) = n) ∧ 0 ≤ n) ∧ Below w.heap.size w w') := Lib.hid (fun d' he => by
        subst he
        exact csize_any d')
    have HC := Lib.hid hc
    have HCS := Lib.hid hcs
    have hl := hc.1
    unfold maxLen at hl
    have HDd := Lib.hid hD
    have hD1 : 0 ≤ D := by omega
    have hD2 : D ≤ 12 := by omega
    simp only at hl HCS ⊢
    clear hc hcs hD
    go_enter Tryz.func82, Tryz.ntmps82
    go_wp2
    go_loopw [7, 8] (fun nv iv wr => ∃ (k : Nat) (n : Int), k ≤ cl.length ∧ iv = .int .i64 k ∧ nv = .int .i64 n ∧ n ≤ M + 1 ∧ 0 ≤ n ∧ Hid (n ≤ M → ((presM (cl.take k)).length : Int) = n) ∧ Below w.heap.size w wr) (fun _ i _ => cl.length - (intOf i).toNat)
    case atStart => exact ⟨0, 0, Nat.zero_le _, rfl, rfl, by omega, by omega, Lib.hid (fun _ => rfl), Below.refl _ _⟩
    case round =>
      obtain ⟨k, n, hk, rfl, rfl, hn, hn0, HG, HB⟩ := hrel
      by_cases hlt : k < cl.length
      case neg =>
        have HR : Hid (n ≤ M → ((presM cl).length : Int) = n) := Lib.hid (by have := HG.out; rwa [List.take_of_length_le (by omega)] at this)
        go_wp2
        go_ret
        exact ⟨⟨n, rfl, by omega, HR.out, hn0⟩, HB⟩
      by_cases hn1 : n ≤ M
      case neg =>
        go_wp2
        go_ret
        exact ⟨⟨n, rfl, by omega, fun h => by omega, hn0⟩, HB⟩
      obtain ⟨g0, of0, hA, hall⟩ := CtlD.atA (HC.out.below HB (Nat.le_refl _)) hlt
      simp only at hA
      subst hA
      have HX : Hid (CtlOk w cl[k]) := Lib.hid (ctls_mem HCS.out (List.getElem_mem hlt))
      have HP1 : Hid (presM (cl.take (k + 1)) = presM (cl.take k) ++ cl[k] :: (presM cl[k].th.l ++ presM cl[k].el.l)) := Lib.hid (by rw [take_snoc cl k hlt, presM_snoc])
      generalize cl[k] = x at *
      have HXt : Hid (LOk w 5 CtlD.cells x.th ∧ CtlsOk w x.th.l) := Lib.hid ⟨(ctl_parts HX.out).2.1, (ctl_parts HX.out).2.2.2.1⟩
      have HXe : Hid (LOk w 5 CtlD.cells x.el ∧ CtlsOk w x.el.l) := Lib.hid ⟨(ctl_parts HX.out).2.2.1, (ctl_parts HX.out).2.2.2.2⟩
      clear HX
      obtain ⟨_, _, d2, d3, d4⟩ := hall wr (Below.refl _ _)
      have HN : Hid (∀ a b : Int, ((presM x.th.l).length : Int) = a → ((presM x.el.l).length : Int) = b → ((presM (cl.take (k + 1))).length : Int) = n + 1 + a + b) := Lib.hid (fun a b ha hb => by
        have h1 := HG.out hn1
        rw [HP1.out, List.length_append, List.length_cons, List.length_append]
        omega)
      clear HP1 HG
      have hb4 : Hid (∀ w', Below wr.heap.size wr w' → w'.cell? ⟨g0, of0 + k * 5 + 4, none⟩ = some (.slice x.el.A x.el.l.length x.el.c)) :=
            Lib.hid (fun w' h => (hall w' h).2.2.2.2)
      clear hall
      by_cases h40 : 40 < x.cond.l.length
      · have h40' : (40 : Int) < (x.cond.l.length : Int) := by omega
        clear h40
        go_wp2
        go_ret
        exact ⟨⟨M + 1, by first | rfl | (rw [IntWalk.i64_in (M + 1) (by omega)]), by omega, fun h => absurd h (by omega), by omega⟩, HB⟩
      have h40' : ¬ (40 : Int) < (x.cond.l.length : Int) := by omega
      clear h40
      by_cases hd0 : D = 0
      · have hDb : (D == 0) = true := beq_iff_eq.2 hd0
        go_wp2
        go_ret
        exact ⟨⟨M + 1, by first | rfl | (rw [IntWalk.i64_in (M + 1) (by omega)]), by omega, fun h => absurd h (by omega), by omega⟩, HB⟩
      have hDb : (D == 0) = false := beq_eq_false_iff_ne.2 hd0
      have HIH := Lib.hid (fun x M w => IH.out (d - 1) (by have := HDd.out; omega) (D - 1) x M w (by have := HDd.out; omega) (by omega))
      generalize x.cond = xcd at *
      generalize x.th = xt at *
      generalize x.el = xe at *
      obtain ⟨tl, tA, tc⟩ := xt
      obtain ⟨el, eA, ec⟩ := xe
      simp only at d3 d4 HXt HXe HN hb4
      have HBw := Lib.hid HB
      have hw1 : IntKind.i64.wrap (n + 1) = n + 1 := IntWalk.i64_in (n + 1) (by omega)
      have HCt : Hid (∀ w' M, Below wr.heap.size wr w' → -1 ≤ M → M ≤ 60 → Calls Tryz.prog 82 #[.slice tA tl.length tc, .int .i64 M, .int .i64 (D - 1)] w' fun e w2 => (∃ n : Int, e = .returned (.int .i64 n) ∧ n ≤ M + 1 ∧ (n ≤ M → ((presM tl).length : Int) = n) ∧ 0 ≤ n) ∧ Below w'.heap.size w' w2) :=
        Lib.hid (fun w' M h h1 h2 => HIH.out ⟨tl, tA, tc⟩ M w' h1 h2 (HXt.out.1.below (below_step HBw.out h) (Nat.le_refl _)) (CtlsOk.below (below_step HBw.out h) HXt.out.2))
      have HCe : Hid (∀ w' M, Below wr.heap.size wr w' → -1 ≤ M → M ≤ 60 → Calls Tryz.prog 82 #[.slice eA el.length ec, .int .i64 M, .int .i64 (D - 1)] w' fun e w2 => (∃ n : Int, e = .returned (.int .i64 n) ∧ n ≤ M + 1 ∧ (n ≤ M → ((presM el).length : Int) = n) ∧ 0 ≤ n) ∧ Below w'.heap.size w' w2) :=
        Lib.hid (fun w' M h h1 h2 => HIH.out ⟨el, eA, ec⟩ M w' h1 h2 (HXe.out.1.below (below_step HBw.out h) (Nat.le_refl _)) (CtlsOk.below (below_step HBw.out h) HXe.out.2))
      clear HB HXt HXe HIH
      have H0 := Lib.hid (Below.refl wr.heap.size wr)
      go_wp2_with fail
      refine (HCt.out wr (M - (n + 1)) H0.out (by omega) (by omega)).mono ?_
      rintro e w1 ⟨⟨a, rfl, ha1, ha2, ha0⟩, hb1⟩
      have hA1 : a ≤ M - n := by omega
      have HA2 : Hid (a ≤ M - (n + 1) → ((presM tl).length : Int) = a) := Lib.hid (fun h => ha2 h)
      clear ha1 ha2 d2 d3 d4 HCt
      have d4 := hb4.out w1 hb1
      have HB1 := Lib.hid hb1
      clear hb1
      by_cases hle : n + 1 + a ≤ M
      case neg =>
        have hwq : IntKind.i64.wrap (n + 1 + a) = n + 1 + a := IntWalk.i64_in (n + 1 + a) (by omega)
        go_wp2
        go_roundw
        case rel => exact ⟨k + 1, n + 1 + a, by omega, by go_num, by go_num, by omega, by omega, Lib.hid (fun h => by omega), below_step HBw.out HB1.out⟩
        case measure => simp [intOf]; omega
      go_wp2_with fail
      refine (HCe.out w1 (M - (n + 1 + a)) HB1.out (by omega) (by omega)).mono ?_
      rintro e w2 ⟨⟨b, rfl, hb1, hb2, hb0⟩, hbb⟩
      have hB1 : b ≤ M - (n + 1 + a) + 1 := by omega
      have HB2 : Hid (b ≤ M - (n + 1 + a) → ((presM el).length : Int) = b) := Lib.hid (fun h => hb2 h)
      have HBB := Lib.hid hbb
      clear hb1 hb2 hbb
      go_wp2
      go_roundw
      case rel => exact ⟨k + 1, n + 1 + a + b, by omega, by go_num, by go_num, by omega, by omega, Lib.hid (fun h => HN.out a b (HA2.out (by omega)) (HB2.out (by omega))), below_step HBw.out (below_step HB1.out HBB.out)⟩
      case measure => simp [intOf]; omega
termination_by d => d
theorem csmall_any (x : L CtlD) (w : World) (h : LOk w 5 CtlD.cells x) (h2 : CtlsOk w x.l) :
    Calls Tryz.prog 33 #[.slice x.A x.l.length x.c, .int .i64 40] w fun e w' => Yes e ((presM x.l).length ≤ 40) ∧ Below w.heap.size w w' := by
  have HS := Lib.hid (csize_any 12 12 x 40 w rfl (by decide) (by decide) (by decide) h h2)
  clear h h2
  go_enter Tryz.func33, Tryz.ntmps33
  go_wp2_with fail
  refine HS.out.mono ?_
  rintro e w1 ⟨⟨n, rfl, hn, hp, h0⟩, hb⟩
  have HP := Lib.hid hp
  clear hp
  go_wp2
  go_ret
  exact ⟨⟨decide (n ≤ 40), rfl, fun h => by have := HP.out (of_decide_eq_true h); have := of_decide_eq_true h; omega⟩, hb⟩
/-- the bounds that law36.small tells -/
structure Sm36 (p : ProgD) : Prop where
  headers : p.headers.l.length ≤ 12
  fields : ∀ k (h : k < p.headers.l.length), p.headers.l[k].fields.l.length ≤ 16
  metadata : p.metadata.l.length ≤ 16
  registers : p.registers.l.length ≤ 8
  nodes : (presM p.control.l).length ≤ 40
theorem Sm36.acc {p : ProgD} (h : Sm36 p) (hc : p.headers.l.length ≤ p.headers.c) : AccSm p :=
  ⟨Nat.le_trans h.headers (by decide), fun k => by
    by_cases hk : k < p.headers.l.length
    · rw [nF_at hk]; exact Nat.le_trans (h.fields k hk) (by decide)
    · rw [nF, List.getElem?_eq_none (by omega)]; exact Nat.zero_le _, Nat.le_trans h.metadata (by decide), Nat.le_trans h.registers (by decide), hc⟩
set_option maxRecDepth 100000 in
set_option maxHeartbeats 4000000 in
theorem small36_any (p : ProgD) (w : World) (o : ProgOk w p) :
    Calls Tryz.prog 9 #[.agg (progCells p)] w fun e w' => Yes e (Sm36 p) ∧ Below w.heap.size w w' := by
  obtain ⟨W, hW, hw, HB, hp⟩ := box1 w (progCells p) 31
  have HW := Lib.hid hw
  have HS1 := Lib.hid (fun u (hb : Below W.heap.size W u) => lsmall_any p u (o.below (below_step hw hb)))
  have HS2 := Lib.hid (fun u (hb : Below W.heap.size W u) => csmall_any p.control u (o.control.below (below_step hw hb) (Nat.le_refl _)) (CtlsOk.below (below_step hw hb) o.ctl))
  clear o hw
  go_enter Tryz.func9, Tryz.ntmps9
  go_upto_region 1 with fail
  rw [← hW]
  clear hW
  have hp3 := hp W HB
  go_wp2_with fail
  refine (HS1.out _ HB).mono ?_
  rintro e w1 ⟨⟨b, rfl, hb⟩, hb1⟩
  replace HB := below_step HB hb1
  clear hp3
  have hp3 := hp w1 HB
  cases b with
  | false =>
    go_wp2
    go_ret
    exact ⟨Yes.no, below_step HW.out HB⟩
  | true =>
  have HY := Lib.hid (hb rfl)
  clear hb
  go_wp2_with fail
  refine (HS2.out _ HB).mono ?_
  rintro e w2 ⟨⟨c, rfl, hc⟩, hb2⟩
  replace HB := below_step HB hb2
  cases c with
  | false =>
    go_wp2
    go_ret
    exact ⟨Yes.no, below_step HW.out HB⟩
  | true =>
  have HZ := Lib.hid (hc rfl)
  clear hc
  go_wp2
  go_ret
  exact ⟨Yes.yes ⟨HY.out.1, HY.out.2.1, HY.out.2.2.1, HY.out.2.2.2, HZ.out⟩, below_step HW.out HB⟩
end Go.Proofs.YtbfjknidinkafaaGreat
namespace Go.Proofs.YtbfjknidinkafaaGreat
open Go.RowKit

set_option maxRecDepth 100000 in
set_option maxHeartbeats 400000 in
theorem rhas_any (e : EnvD) (k : Nat) (w : World) (o : EnvOk w e) :
    Calls Tryz.prog 114 #[.agg (envCells e), .int .i64 k] w fun r w' => r = .returned (.bool (atB e.valid k)) ∧ Below w.heap.size w w' := by
  obtain ⟨W, hW, hw, HB, hp⟩ := box1 w (envCells e) 56
  have HW := Lib.hid hw
  have HO := Lib.hid (o.below hw)
  have s0 : W.cell? ⟨w.heap.size, 0, none⟩ = some (.slice e.valid.A e.valid.l.length e.valid.c) := hp W HB 0 (by show (0 : Nat) < 4; decide)
  have h0 : (0 : Int) ≤ (k : Int) := by omega
  clear o hw
  by_cases hk : k < e.valid.l.length
  · have hk' : (k : Int) < (e.valid.l.length : Int) := by omega
    obtain ⟨g, of, hA, d0⟩ := bcell_atA HO.out.valid.1 hk
    have d1 := d0 W (Below.refl _ _)
    have HR : Hid (atB e.valid k = e.valid.l[k]) := Lib.hid (by rw [atB, if_neg (by omega)]; simp [hk])
    rw [hA] at s0
    generalize e.valid.l[k] = b at *
    clear d0 hp hA
    go_enter Tryz.func114, Tryz.ntmps114
    go_upto_region 1 with fail
    rw [← hW]
    clear hW
    go_wp2
    go_ret
    exact ⟨by rw [HR.out]; rfl, below_step HW.out HB⟩
  · have hk' : ¬ (k : Int) < (e.valid.l.length : Int) := by omega
    have HR : Hid (atB e.valid k = false) := Lib.hid (by rw [atB, if_neg (by omega)]; simp; rw [List.getElem?_eq_none (by omega)]; rfl)
    clear hp
    go_enter Tryz.func114, Tryz.ntmps114
    go_upto_region 1 with fail
    rw [← hW]
    clear hW
    go_wp2
    go_ret
    exact ⟨by rw [HR.out]; rfl, below_step HW.out HB⟩
set_option maxRecDepth 100000 in
set_option maxHeartbeats 400000 in
theorem relem_meta (e : EnvD) (f : Nat) (w : World) :
    Calls Tryz.prog 113 #[.agg (envCells e), .agg #[.int .i64 (-1), .int .i64 f]] w fun r w' => r = .returned (.bool (decide (f < e.metaV.l.length))) ∧ Below w.heap.size w w' := by
  obtain ⟨W, hW, hw, HB, hp⟩ := box2 w (envCells e) 56 #[.int .i64 (-1), .int .i64 f] 98
  have HW := Lib.hid hw
  have h0 : (0 : Int) ≤ (f : Int) := by omega
  have hp3 := hp W HB
  clear hw hp
  by_cases hf : f < e.metaV.l.length
  · have hf' : (f : Int) < (e.metaV.l.length : Int) := by omega
    have HR : Hid (decide (f < e.metaV.l.length) = true) := Lib.hid (decide_eq_true hf)
    rw [HR.out]
    go_enter Tryz.func113, Tryz.ntmps113
    go_upto_region 1 with fail
    rw [← hW]
    clear hW
    go_wp2
    go_ret
    exact ⟨rfl, below_step HW.out HB⟩
  · have hf' : ¬ (f : Int) < (e.metaV.l.length : Int) := by omega
    have HR : Hid (decide (f < e.metaV.l.length) = false) := Lib.hid (decide_eq_false hf)
    rw [HR.out]
    go_enter Tryz.func113, Tryz.ntmps113
    go_upto_region 1 with fail
    rw [← hW]
    clear hW
    go_wp2
    go_ret
    exact ⟨rfl, below_step HW.out HB⟩
set_option maxRecDepth 100000 in
set_option maxHeartbeats 400000 in
theorem relem_fld (e : EnvD) (k f : Nat) (w : World) (o : EnvOk w e) :
    Calls Tryz.prog 113 #[.agg (envCells e), .agg #[.int .i64 k, .int .i64 f]] w fun r w' => r = .returned (.bool (decide (f < (atU e.fields k).l.length))) ∧ Below w.heap.size w w' := by
  obtain ⟨W, hW, hw, HB, hp⟩ := box2 w (envCells e) 56 #[.int .i64 k, .int .i64 f] 98
  have HW := Lib.hid hw
  have HO := Lib.hid (o.below hw)
  have b0 : decide ((0 : Int) ≤ (k : Int)) = true := decide_eq_true (by omega)
  have b1 : decide ((0 : Int) ≤ (f : Int)) = true := decide_eq_true (by omega)
  have hm : ((k : Int) == -1) = false := beq_eq_false_iff_ne.2 (by omega)
  clear o hw
  by_cases hk : k < e.fields.l.length
  · have b2 : decide ((k : Int) < (e.fields.l.length : Int)) = true := decide_eq_true (by omega)
    have hk' : (k : Int) < (e.fields.l.length : Int) := by omega
    obtain ⟨g, of, hA, d0⟩ := lcell_atA HO.out.fields.1 hk
    have d1 := d0 W (Below.refl _ _)
    have HR : Hid (atU e.fields k = e.fields.l[k]) := Lib.hid (by rw [atU, if_neg (by omega)]; simp [hk])
    rw [HR.out]
    simp only [envCells, hA] at hp hW ⊢
    generalize e.fields.l[k] = x at *
    obtain ⟨l, xA, xc⟩ := x
    simp only at d1 ⊢
    have hp3 := hp W HB
    clear d0 hp hA
    by_cases hf : f < l.length
    · have b3 : decide ((f : Int) < (l.length : Int)) = true := decide_eq_true (by omega)
      have HR : Hid (decide (f < l.length) = true) := Lib.hid (decide_eq_true hf)
      rw [HR.out]
      go_enter Tryz.func113, Tryz.ntmps113
      go_upto_region 1 with fail
      rw [← hW]
      clear hW
      go_upto_region 3 with fail
      go_quiet (fail)
      go_wp2
      go_ret
      exact ⟨rfl, below_step HW.out (below_drewN HB _)⟩
    · have b3 : decide ((f : Int) < (l.length : Int)) = false := decide_eq_false (by omega)
      have HR : Hid (decide (f < l.length) = false) := Lib.hid (decide_eq_false hf)
      rw [HR.out]
      go_enter Tryz.func113, Tryz.ntmps113
      go_upto_region 1 with fail
      rw [← hW]
      clear hW
      go_upto_region 3 with fail
      go_quiet (fail)
      go_wp2
      go_ret
      exact ⟨rfl, below_step HW.out (below_drewN HB _)⟩
  · have b2 : decide ((k : Int) < (e.fields.l.length : Int)) = false := decide_eq_false (by omega)
    have HR : Hid (decide (f < (atU e.fields k).l.length) = false) := Lib.hid (by
      rw [atU, if_neg (by omega)]; simp; rw [List.getElem?_eq_none (by omega)]; exact Nat.zero_le _)
    have hp3 := hp W HB
    clear hp
    rw [HR.out]
    go_enter Tryz.func113, Tryz.ntmps113
    go_upto_region 1 with fail
    rw [← hW]
    clear hW
    go_upto_region 3 with fail
    go_quiet (fail)
    go_wp2
    go_ret
    exact ⟨rfl, below_step HW.out (below_drewN HB _)⟩
set_option maxRecDepth 100000 in
set_option maxHeartbeats 400000 in
theorem rget_meta (e : EnvD) (f : Nat) (w : World) (o : EnvOk w e) :
    Calls Tryz.prog 104 #[.agg (envCells e), .agg #[.int .i64 (-1), .int .i64 f]] w fun r w' => r = .returned (.int .u32 (getE e.bare (-1) f)) ∧ Below w.heap.size w w' := by
  obtain ⟨W, hW, hw, HB, hp⟩ := box2 w (envCells e) 56 #[.int .i64 (-1), .int .i64 f] 98
  have HW := Lib.hid hw
  have HO := Lib.hid (o.below hw)
  have HE := Lib.hid (fun u => relem_meta e f u)
  have HG := Lib.hid (getE_eq e (-1) f)
  have HBd := Lib.hid (elemB.eq_1 e (-1) f)
  have hp3 := hp W HB
  clear o hw
  by_cases hf : f < e.metaV.l.length
  · have hf' : (f : Int) < (e.metaV.l.length : Int) := by omega
    obtain ⟨g, of, hA, d0⟩ := ucell_atA HO.out.metaV.1 hf
    have HA := Lib.hid hA
    clear hA
    have HR : Hid (getE e.bare (-1) f = e.metaV.l[f]) := Lib.hid (by rw [HG.out, HBd.out]; simp [elemL, hf])
    rw [show decide (f < e.metaV.l.length) = true from decide_eq_true hf] at HE
    rw [HR.out]
    generalize e.metaV.l[f] = y at *
    go_enter Tryz.func104, Tryz.ntmps104
    go_upto_region 1 with fail
    rw [← hW]
    clear hW
    go_wp2_with fail
    refine (HE.out _).mono ?_
    rintro r w1 ⟨rfl, hb⟩
    have HB1 := below_step HB hb
    have s2 : w1.cell? ⟨w.heap.size, 2, none⟩ = some (.slice e.metaV.A e.metaV.l.length e.metaV.c) := (hp w1 HB1).1 2 (by show (2 : Nat) < 4; decide)
    have t0 := (hp w1 HB1).2
    have d1 := d0 w1 HB1
    rw [HA.out] at s2
    clear hp3 d0 hp
    go_wp2
    go_ret
    exact ⟨rfl, below_step HW.out HB1⟩
  · have HR : Hid (getE e.bare (-1) f = 0) := Lib.hid (by rw [HG.out, HBd.out, if_neg (by simp [elemL]; omega)])
    rw [show decide (f < e.metaV.l.length) = false from decide_eq_false hf] at HE
    go_enter Tryz.func104, Tryz.ntmps104
    go_upto_region 1 with fail
    rw [← hW]
    clear hW
    go_wp2_with fail
    refine (HE.out _).mono ?_
    rintro r w1 ⟨rfl, hb⟩
    have HB1 := below_step HB hb
    go_wp2
    go_ret
    exact ⟨by rw [HR.out]; rfl, below_step HW.out HB1⟩
set_option maxRecDepth 100000 in
set_option maxHeartbeats 400000 in
theorem rget_fld (e : EnvD) (k f : Nat) (w : World) (o : EnvOk w e) :
    Calls Tryz.prog 104 #[.agg (envCells e), .agg #[.int .i64 k, .int .i64 f]] w fun r w' => r = .returned (.int .u32 (getE e.bare k f)) ∧ Below w.heap.size w w' := by
  obtain ⟨W, hW, hw, HB, hp⟩ := box2 w (envCells e) 56 #[.int .i64 k, .int .i64 f] 98
  have HW := Lib.hid hw
  have HO := Lib.hid (o.below hw)
  have HE := Lib.hid (fun u (hb : Below W.heap.size W u) => relem_fld e k f u (o.below (below_step hw hb)))
  have HH := Lib.hid (fun u (hb : Below W.heap.size W u) => rhas_any e k u (o.below (below_step hw hb)))
  have HG := Lib.hid (getE_eq e k f)
  have HBd := Lib.hid (elemB.eq_1 e k f)
  have hkm : ¬ (k : Int) = -1 := by omega
  have hm : ((k : Int) == -1) = false := beq_eq_false_iff_ne.2 hkm
  have HEl : Hid (elemL e k = atU e.fields k) := Lib.hid (by rw [elemL, if_neg hkm])
  have hp3 := hp W HB
  clear o hw
  by_cases hf : f < (atU e.fields k).l.length
  case neg =>
    have HR : Hid (getE e.bare k f = 0) := Lib.hid (by rw [HG.out, HBd.out, HEl.out, if_neg (by simp; omega)])
    rw [show decide (f < (atU e.fields k).l.length) = false from decide_eq_false hf] at HE
    go_enter Tryz.func104, Tryz.ntmps104
    go_upto_region 1 with fail
    rw [← hW]
    clear hW
    go_wp2_with fail
    refine (HE.out _ HB).mono ?_
    rintro r w1 ⟨rfl, hb⟩
    have HB1 := below_step HB hb
    go_wp2
    go_ret
    exact ⟨by rw [HR.out]; rfl, below_step HW.out HB1⟩
  rw [show decide (f < (atU e.fields k).l.length) = true from decide_eq_true hf] at HE
  cases hb : atB e.valid k with
  | false =>
    have HR : Hid (getE e.bare k f = 0) := Lib.hid (by rw [HG.out, HBd.out, hb, if_neg (by simp)])
    rw [hb] at HH
    go_enter Tryz.func104, Tryz.ntmps104
    go_upto_region 1 with fail
    rw [← hW]
    clear hW
    go_wp2_with fail
    refine (HE.out _ HB).mono ?_
    rintro r w1 ⟨rfl, hb⟩
    have HB1 := below_step HB hb
    clear hp3
    have hp3 := hp w1 HB1
    go_wp2_with fail
    refine (HH.out _ HB1).mono ?_
    rintro r w2 ⟨rfl, hb2⟩
    go_wp2
    go_ret
    exact ⟨by rw [HR.out]; rfl, below_step HW.out (below_step HB1 hb2)⟩
  | true =>
  rw [hb] at HH
  have hk : k < e.fields.l.length := by
    rcases Nat.lt_or_ge k e.fields.l.length with h | h
    · exact h
    · exfalso
      rw [atU, if_neg (by omega)] at hf
      simp [List.getElem?_eq_none h] at hf
  have HA2 : Hid (atU e.fields k = e.fields.l[k]) := Lib.hid (by rw [atU, if_neg (by omega)]; simp [hk])
  have HR : Hid (getE e.bare k f = (atU e.fields k).l[f]) := Lib.hid (by
    rw [HG.out, HBd.out, HEl.out, hb, if_pos (by simpa using hf), List.getD_eq_getElem?_getD]
    simp [hf])
  rw [HR.out]
  obtain ⟨g, of, hA, d0⟩ := lcell_atA HO.out.fields.1 hk
  obtain ⟨g2, of2, hA2, d2⟩ := ucell_atA (HO.out.each _ (List.getElem_mem hk)).1 (show f < e.fields.l[k].l.length by rw [← HA2.out]; exact hf)
  have HV : Hid ((atU e.fields k).l[f] = e.fields.l[k].l[f]'(by rw [← HA2.out]; exact hf)) := Lib.hid (by simp only [HA2.out])
  rw [HV.out]
  have hf2 : f < e.fields.l[k].l.length := by rw [← HA2.out]; exact hf
  have hf' : (f : Int) < (e.fields.l[k].l.length : Int) := by omega
  have hk' : (k : Int) < (e.fields.l.length : Int) := by omega
  rw [hA2] at d0
  have HA := Lib.hid hA
  clear hA hA2
  have HD0 := Lib.hid d0
  clear HV HR HG HBd HEl d0
  generalize e.fields.l[k].l[f] = y at *
  generalize e.fields.l[k].l.length = n at *
  generalize e.fields.l[k].c = xc at *
  go_enter Tryz.func104, Tryz.ntmps104
  go_upto_region 1 with fail
  rw [← hW]
  clear hW
  go_wp2_with fail
  refine (HE.out _ HB).mono ?_
  rintro r w1 ⟨rfl, hb⟩
  have HB1 := below_step HB hb
  clear hp3
  have hp3 := hp w1 HB1
  go_wp2_with fail
  refine (HH.out _ HB1).mono ?_
  rintro r w2 ⟨rfl, hb2⟩
  have HB2 := below_step HB1 hb2
  clear hp3
  have s1 : w2.cell? ⟨w.heap.size, 1, none⟩ = some (.slice e.fields.A e.fields.l.length e.fields.c) := (hp w2 HB2).1 1 (by show (1 : Nat) < 4; decide)
  have t0 := (hp w2 HB2).2
  have d1 := HD0.out w2 HB2
  have d3 := d2 w2 HB2
  rw [HA.out] at s1
  clear hp d2
  go_upto_region 7 with fail
  go_quiet (fail)
  go_wp2
  go_ret
  exact ⟨rfl, below_step HW.out (below_drewN HB2 _)⟩
end Go.Proofs.YtbfjknidinkafaaGreat
namespace Go.Proofs.YtbfjknidinkafaaGreat
open Go.RowKit

set_option maxRecDepth 100000 in
set_option maxHeartbeats 2000000 in
theorem rcnt36_any (x : L SlotD) (z : Int) (w : World) (h : LOk w 4 SlotD.cells x) :
    Calls Tryz.prog 63 #[.slice x.A x.l.length x.c, .int .i64 z] w fun e w' => e = .returned (.int .i64 (countM x.l z)) ∧ Below w.heap.size w w' := by
  obtain ⟨l, A, c⟩ := x
  have HX := Lib.hid h
  have hmx := h.1
  unfold maxLen at hmx
  clear h
  simp only at hmx ⊢
  have HB0 := Lib.hid (Below.refl w.heap.size w)
  go_enter Tryz.func63, Tryz.ntmps63
  go_wp2
  go_loopw [5, 6] (fun nv iv wr => ∃ k : Nat, k ≤ l.length ∧ iv = .int .i64 k ∧ nv = .int .i64 (countM (l.take k) z) ∧ Below w.heap.size w wr) (fun _ i _ => l.length - (intOf i).toNat)
  case atStart => exact ⟨0, Nat.zero_le _, rfl, rfl, HB0.out⟩
  case round =>
  obtain ⟨k, hk, rfl, rfl, HB⟩ := hrel
  by_cases hlt : k < l.length
  case neg =>
    have HR : Hid (countM (l.take k) z = countM l z) := Lib.hid (by rw [List.take_of_length_le (by omega)])
    go_wp2
    go_ret
    exact ⟨by rw [← HR.out]; rfl, HB⟩
  obtain ⟨g, of, hA, hall⟩ := SlotD.atA HX.out hlt
  simp only at hA
  subst hA
  have HS : Hid (countM (l.take (k + 1)) z = if validS l[k] = true ∧ l[k].size = z then max (countM (l.take k) z) (l[k].index.toNat + 1) else countM (l.take k) z) := Lib.hid (by rw [take_one l k hlt, count_snoc])
  have hcl := count_le (l.take k) z
  obtain ⟨d0, d1, d2, d3⟩ := hall wr HB
  have HAl := Lib.hid hall
  clear hall
  generalize l[k] = s at *
  obtain ⟨zz, i, f, d⟩ := s
  simp only at d0 d1 d2 d3 HS HAl
  generalize countM (l.take k) z = n at *
  have HBr := Lib.hid HB
  clear HB
  go_wp2_with fail
  refine (rvalidSlot_any zz i f d wr).mono ?_
  rintro e w1 ⟨rfl, hb1⟩
  have HB1 := Lib.hid (below_step HBr.out hb1)
  clear d0 d1 d2 d3 hb1
  obtain ⟨d0, d1, d2, d3⟩ := HAl.out w1 HB1.out
  cases hv : validS ⟨zz, i, f, d⟩ with
  | false =>
    have HS2 : Hid (countM (l.take (k + 1)) z = n) := Lib.hid (by rw [HS.out, hv]; simp)
    clear HS hv
    go_wp2
    go_roundw
    case rel => exact ⟨k + 1, by omega, by go_num, by rw [HS2.out], HB1.out⟩
    case measure => simp [intOf]; omega
  | true =>
    have hbs := validS_iff.1 hv
    simp only at hbs
    obtain ⟨m, rfl⟩ : ∃ m : Nat, i = m := ⟨i.toNat, by omega⟩
    have hm64 : m < 64 := by omega
    by_cases hz : zz = z
    · have hzb : (zz == z) = true := beq_iff_eq.2 hz
      have HS2 : Hid (((countM (l.take (k + 1)) z : Nat) : Int) = max (n : Int) ((m : Int) + 1)) := Lib.hid (by rw [HS.out, hv]; simp [hz]; omega)
      clear HS hv hbs hz
      go_wp2
      go_roundw
      case rel => exact ⟨k + 1, by omega, by go_num, by rw [HS2.out]; first | done | rfl, HB1.out⟩
      case measure => simp [intOf]; omega
    · have hzb : (zz == z) = false := beq_eq_false_iff_ne.2 hz
      have HS2 : Hid (countM (l.take (k + 1)) z = n) := Lib.hid (by rw [HS.out]; simp [hz])
      clear HS hv hbs hz
      go_wp2
      go_roundw
      case rel => exact ⟨k + 1, by omega, by go_num, by rw [HS2.out], HB1.out⟩
      case measure => simp [intOf]; omega
/-- three lists of the call's own, apart -/
structure RCon (w : World) (B : Nat) (x : ConD) : Prop where
  o8 : OwnL w B 83 ucell x.c8
  o16 : OwnL w B 83 ucell x.c16
  o32 : OwnL w B 83 ucell x.c32
  a1 : ∀ b, x.c8.v.ownBlock = some b → x.c16.v.ownBlock ≠ some b
  a2 : ∀ b, x.c8.v.ownBlock = some b → x.c32.v.ownBlock ≠ some b
  a3 : ∀ b, x.c16.v.ownBlock = some b → x.c32.v.ownBlock ≠ some b
theorem RCon.below {w w' : World} {B : Nat} {x : ConD} (o : RCon w B x) (hb : Below w.heap.size w w') : RCon w' B x :=
  ⟨o.o8.below hb, o.o16.below hb, o.o32.below hb, o.a1, o.a2, o.a3⟩
theorem RCon.list {w : World} {B : Nat} {x : ConD} (o : RCon w B x) (z : Int) : OwnL w B 83 ucell (conL x z) := by
  unfold conL
  split
  · exact o.o8
  · split
    · exact o.o16
    · exact o.o32
@[reducible] def rconCells (x : ConD) : Array Value := #[.slice x.c8.A x.c8.l.length x.c8.c, .slice x.c16.A x.c16.l.length x.c16.c, .slice x.c32.A x.c32.l.length x.c32.c]
theorem RCon.put {w : World} {B : Nat} {x : ConD} (o : RCon w B x) (z : Int) {gl : Nat} (hA : (conL x z).A = some ⟨gl, 0, none⟩) (i : Nat) (n : Int) :
    RCon (w.setCell ⟨gl, i, none⟩ (.int .u32 n)) B (conS x z ⟨(conL x z).l.set i n, (conL x z).A, (conL x z).c⟩) := by
  obtain ⟨o8, o16, o32, a1, a2, a3⟩ := o
  obtain ⟨⟨l8, A8, c8⟩, ⟨l16, A16, c16⟩, ⟨l32, A32, c32⟩⟩ := x
  unfold conL at hA ⊢
  unfold conS
  by_cases h8 : z = 8
  · simp only [h8, if_true] at hA ⊢
    subst hA
    exact ⟨OwnL.put (fun n => .int .u32 n) (fun _ => rfl) o8 i n, o16.far _ (a1 gl rfl), o32.far _ (a2 gl rfl), a1, a2, a3⟩
  · by_cases h16 : z = 16
    · simp only [h16, if_neg (show ¬ (16 : Int) = 8 by decide), if_true] at hA ⊢
      subst hA
      exact ⟨o8.far _ (fun e => a1 gl e rfl), OwnL.put (fun n => .int .u32 n) (fun _ => rfl) o16 i n, o32.far _ (a3 gl rfl), a1, a2, a3⟩
    · simp only [h8, h16, if_false] at hA ⊢
      subst hA
      exact ⟨o8.far _ (fun e => a2 gl e rfl), o16.far _ (fun e => a3 gl e rfl), OwnL.put (fun n => .int .u32 n) (fun _ => rfl) o32 i n, a1, a2, a3⟩
theorem conS_cells (x : ConD) (z : Int) (l' : List Int) (h : l'.length = (conL x z).l.length) : rconCells (conS x z ⟨l', (conL x z).A, (conL x z).c⟩) = rconCells x := by
  by_cases h8 : z = 8
  · subst h8
    simp only [conL, conS, rconCells, if_true] at h ⊢
    rw [h]
  · by_cases h16 : z = 16
    · subst h16
      simp only [conL, conS, rconCells, if_neg (show ¬ (16 : Int) = 8 by decide), if_true] at h ⊢
      rw [h]
    · simp only [conL, conS, rconCells, h8, h16, if_false] at h ⊢
      rw [h]
set_option maxRecDepth 100000 in
set_option maxHeartbeats 2000000 in
theorem rof_any (x : ConD) (z : Int) (w : World) : Calls Tryz.prog 57 #[.agg (rconCells x), .int .i64 z] w fun r w' => r = .returned (.slice (conL x z).A (conL x z).l.length (conL x z).c) ∧ Below w.heap.size w w' := by
  obtain ⟨W, hW, hw, HB, hp⟩ := box1 w (rconCells x) 62
  have HW := Lib.hid hw
  have hp3 := hp W HB
  clear hw hp
  by_cases h8 : z = 8
  · subst h8
    have HR : Hid (conL x 8 = x.c8) := Lib.hid rfl
    go_enter Tryz.func57, Tryz.ntmps57
    go_upto_region 1 with fail
    rw [← hW]
    clear hW
    go_wp2
    go_ret
    exact ⟨by rw [HR.out]; rfl, below_step HW.out HB⟩
  by_cases h16 : z = 16
  · subst h16
    have HR : Hid (conL x 16 = x.c16) := Lib.hid rfl
    go_enter Tryz.func57, Tryz.ntmps57
    go_upto_region 1 with fail
    rw [← hW]
    clear hW
    go_wp2
    go_ret
    exact ⟨by rw [HR.out]; rfl, below_step HW.out HB⟩
  have b8 : (z == 8) = false := beq_eq_false_iff_ne.2 h8
  have b16 : (z == 16) = false := beq_eq_false_iff_ne.2 h16
  have HR : Hid (conL x z = x.c32) := Lib.hid (by simp [conL, h8, h16])
  clear h8 h16
  go_enter Tryz.func57, Tryz.ntmps57
  go_upto_region 1 with fail
  rw [← hW]
  clear hW
  go_wp2
  go_ret
  exact ⟨by rw [HR.out]; rfl, below_step HW.out HB⟩
set_option maxRecDepth 100000 in
set_option maxHeartbeats 2000000 in
theorem convert_any (x : ConD) (w : World) : Calls Tryz.prog 21 #[.agg (rconCells x)] w fun r w' => r = .returned (.agg (rconCells x)) ∧ Below w.heap.size w w' := by
  obtain ⟨⟨l8, A8, c8⟩, ⟨l16, A16, c16⟩, ⟨l32, A32, c32⟩⟩ := x
  simp only [rconCells]
  go_enter Tryz.func21, Tryz.ntmps21
  go_wp2
  refine bodyPost_ret (v := .agg #[.slice A8 l8.length c8, .slice A16 l16.length c16, .slice A32 l32.length c32]) ?_ rfl ?_
  · refine results_cell_row (fn := Tryz.f21) (p := 2) (ty := 62) rfl _ _ (w.heap.size + 1) 62 #[.slice A8 l8.length c8, .slice A16 l16.length c16, .slice A32 l32.length c32] (0, 0) _ rfl ?_ Tryz.underlying62 rfl (by kernel_rfl)
    have hn : Blk ((w.alloc (.cells #[.slice A8 l8.length c8, .slice A16 l16.length c16, .slice A32 l32.length c32] 64)).alloc (.cells #[.slice A8 l8.length c8, .slice A16 l16.length c16, .slice A32 l32.length c32] 62)) (w.heap.size + 1) 62 #[.slice A8 l8.length c8, .slice A16 l16.length c16, .slice A32 l32.length c32] := by
      simpa using Blk.new (w.alloc (.cells #[.slice A8 l8.length c8, .slice A16 l16.length c16, .slice A32 l32.length c32] 64)) 62 #[.slice A8 l8.length c8, .slice A16 l16.length c16, .slice A32 l32.length c32]
    exact hn
  · exact ⟨rfl, below2 _ _ _⟩
set_option maxRecDepth 100000 in
set_option maxHeartbeats 2000000 in
theorem smallEnv_any (e : EnvD) (w : World) (o : EnvOk w e) :
    Calls Tryz.prog 19 #[.agg (envCells e)] w fun r w' => Yes r True ∧ Below w.heap.size w w' := by
  obtain ⟨W, hW, hw, HB, hp⟩ := box1 w (envCells e) 56
  have HW := Lib.hid hw
  have HO := Lib.hid (o.fields.1.below hw (Nat.le_refl _))
  have hmx := o.fields.1.1
  unfold maxLen at hmx
  have hp3 := hp W HB
  clear o hw hp
  obtain ⟨⟨vl, vA, vc⟩, ⟨fl, fA, fc⟩, ⟨ml, mA, mc⟩, ⟨pl, pA, pc⟩⟩ := e
  simp only [envCells] at hp3 hW hmx HO ⊢
  go_enter Tryz.func19, Tryz.ntmps19
  go_upto_region 1 with fail
  rw [← hW]
  clear hW
  by_cases h0 : (20 : Int) < (vl.length : Int)
  case pos =>
    go_wp2
    go_ret
    exact ⟨Yes.no, below_step HW.out HB⟩
  by_cases h1 : (20 : Int) < (fl.length : Int)
  case pos =>
    go_wp2
    go_ret
    exact ⟨Yes.no, below_step HW.out HB⟩
  by_cases h2 : (30 : Int) < (ml.length : Int)
  case pos =>
    go_wp2
    go_ret
    exact ⟨Yes.no, below_step HW.out HB⟩
  by_cases h3 : (300 : Int) < (pl.length : Int)
  case pos =>
    go_wp2
    go_ret
    exact ⟨Yes.no, below_step HW.out HB⟩
  go_wp2
  have s1 : W.cell? ⟨w.heap.size, 1, none⟩ = some (.slice fA fl.length fc) := hp3 1 (by show (1 : Nat) < 4; decide)
  clear hp3
  go_loopw [3] (fun iv wr => ∃ k : Nat, k ≤ fl.length ∧ iv = .int .i64 k ∧ W = wr) (fun i _ => fl.length - (intOf i).toNat)
  case atStart => exact ⟨0, Nat.zero_le _, rfl, rfl⟩
  case round =>
  obtain ⟨k, hk, rfl, rfl⟩ := hrel
  by_cases hlt : k < fl.length
  · obtain ⟨g, of, hA, d0⟩ := lcell_at HO.out hlt
    simp only at hA d0
    subst hA
    generalize fl[k] = x at *
    obtain ⟨xl, xA, xc⟩ := x
    simp only at d0
    by_cases h4 : (30 : Int) < (xl.length : Int)
    · go_wp2
      go_ret
      exact ⟨Yes.no, below_step HW.out HB⟩
    · go_wp2
      go_roundw
      case rel => exact ⟨k + 1, by omega, by go_num, trivial⟩
      case measure => simp [intOf]; omega
  · go_wp2
    go_ret
    exact ⟨Yes.yes trivial, below_step HW.out HB⟩
end Go.Proofs.YtbfjknidinkafaaGreat
namespace Go.Proofs.YtbfjknidinkafaaGreat
open Go.RowKit

set_option maxRecDepth 100000 in
set_option maxHeartbeats 4000000 in
theorem rput_any (x : ConD) (s : SlotD) (v : Int) (B : Nat) (w : World) (o : RCon w B x) (hv : validS s = true) (hi : s.index < ((ofC x.bare s.size).length : Int)) :
    Calls Tryz.prog 66 #[.agg (rconCells x), .agg #[.int .i64 s.size, .int .i64 s.index, .int .i64 s.off, .int .i64 s.width], .int .u32 v] w fun r w' =>
      r = .returned (.tuple #[]) ∧ (∃ x', x'.bare = putC x.bare s v ∧ RCon w' B x' ∧ rconCells x' = rconCells x) ∧ w.grownBy w' ((conL x s.size).v.ownBlock) := by
  have hbs := validS_iff.1 hv
  obtain ⟨k, hk⟩ : ∃ k : Nat, s.index = k := ⟨s.index.toNat, by omega⟩
  have hkl : k < (conL x s.size).l.length := by rw [conL_l]; omega
  obtain ⟨gl, hA, hBl, hglt⟩ := (o.list s.size).at (fun e => by rw [e] at hkl; cases hkl)
  obtain ⟨V, hV, hw, HB, hp⟩ := box2 w (rconCells x) 62 #[.int .i64 s.size, .int .i64 s.index, .int .i64 s.off, .int .i64 s.width] 48
  have HW := Lib.hid hw
  have HO : Hid (RCon V B x) := Lib.hid (o.below HW.out)
  have HOf := Lib.hid (fun u => rof_any x s.size u)
  obtain ⟨y, hy⟩ : ∃ y, (conL x s.size).l[k]? = some y := ⟨_, List.getElem?_eq_getElem hkl⟩
  have HE : Hid (∀ u, Below V.heap.size V u → u.cell? ⟨gl, k, none⟩ = some (.int .u32 y)) := Lib.hid (by
    obtain ⟨g', o', e', d'⟩ := ucell_atA ((HO.out.list s.size).ok (fun _ => rfl)).1 hkl
    rw [hA] at e'
    injection e' with e'
    injection e' with e1 e2
    subst e1 e2
    intro u hb
    have d2 := d' u hb
    rw [Nat.zero_add] at d2
    rw [d2]
    rw [List.getElem?_eq_getElem hkl] at hy
    injection hy with hy
    rw [hy])
  have HFr : Hid (∀ u, Below V.heap.size V u → u.frozen? ⟨gl, k, none⟩ = false) := Lib.hid (fun u hb => by
    have h := (HO.out.below hb).list s.size
    generalize conL x s.size = yl at h hA
    obtain ⟨l, A, c⟩ := yl
    simp only at hA
    subst hA
    exact h.frozen k)
  have HPut : Hid (∀ u n, RCon u B x → n = putI y s v → ∃ x', x'.bare = putC x.bare s v ∧ RCon (u.setCell ⟨gl, k, none⟩ (.int .u32 n)) B x' ∧ rconCells x' = rconCells x) := Lib.hid (fun u n ou hn => by
    refine ⟨_, ?_, ou.put s.size hA k n, conS_cells x s.size _ (by simp)⟩
    rw [conS_bare, putC, ← conL_l, hk, Int.toNat_natCast, List.getD_eq_getElem?_getD, hy, hn]; rfl)
  have HGl : Hid ((conL x s.size).v.ownBlock = some gl) := Lib.hid (by rw [L.v, hA]; rfl)
  rw [hA] at HOf
  have hklen : (k : Int) < ((conL x s.size).l.length : Int) := by omega
  have HPI : Hid (putI y s v = bits .or .u32 (bits .andNot .u32 y (maskS s)) (bits .and .u32 (IntKind.u32.wrap (v * 2 ^ s.off.toNat)) (maskS s))) := Lib.hid rfl
  have HMs : Hid (maskS s = IntKind.u32.wrap ((maskM s.width : Int) * 2 ^ s.off.toNat)) := Lib.hid rfl
  have ho0 : 0 ≤ s.off := hbs.2.2.2.1
  have ho1 : s.off ≤ 32 := by omega
  clear o hi hkl hBl hy hbs hA hglt hv hw
  obtain ⟨z, i, f, d⟩ := s
  simp only at hk ho0 ho1 hklen HOf HE HPut HPI hV HFr HGl HMs hp ⊢
  subst hk
  generalize (conL x z).l.length = len at *
  generalize (conL x z).c = cc at *
  generalize hmk : maskS ⟨z, (k : Int), f, d⟩ = mk at *
  clear hmk
  go_enter Tryz.func66, Tryz.ntmps66
  go_upto_region 1 with fail
  rw [← hV]
  clear hV
  have hp3 := hp V HB
  go_wp2_with fail
  refine (HOf.out V).mono ?_
  rintro r w1 ⟨rfl, hb1⟩
  have HB1 := Lib.hid (below_step HB hb1)
  clear hp3 hb1 HB
  have hp3 := hp w1 HB1.out
  have hmk := HMs.out.symm
  have HH := Lib.hid (below_drew HB1.out)
  go_upto_region 2 with fail
  go_region_held3 (fun w' => Below V.heap.size V w') (first | exact HB1.out | exact HH.out | (exact below_step (by assumption) (by assumption)) | assumption)
      (first
      | (go_at_call 105; refine (rmask_any d _).mono ?_; rintro e w5 ⟨rfl, rfl⟩))
  refine Exists.elim (⟨_, rfl⟩ : ∃ U, U = w1.drew) fun U hU => ?_
  have HBU : Hid (Below V.heap.size V U) := Lib.hid (by rw [hU]; exact HH.out)
  rw [← hU]
  clear hU hp3 hmk
  have hp3 := hp U HBU.out
  have e0 := HE.out U HBU.out
  have f0 := HFr.out U HBU.out
  clear hp
  go_upto_region 3 with fail
  go_region
  go_wp2
  go_end0
  refine ⟨rfl, ?_, ?_⟩
  · obtain ⟨x', h1, h2, h3⟩ := HPut.out U _ (HO.out.below HBU.out) HPI.out.symm
    exact ⟨x', h1, h2.below (below_drew (Below.refl _ _)), h3⟩
  · rw [HGl.out]
    have h := set_grown (i := k) (gl := gl) HW.out HBU.out (.int .u32 (bits .or .u32 (bits .andNot .u32 y mk) (bits .and .u32 (IntKind.u32.wrap (v * 2 ^ f.toNat)) mk)))
    exact ⟨h.os, h.tape, h.output, h.size, h.block⟩
end Go.Proofs.YtbfjknidinkafaaGreat
namespace Go.Proofs.YtbfjknidinkafaaGreat
open Go.RowKit

set_option maxRecDepth 100000 in
set_option maxHeartbeats 16000000 in
theorem rvalues_any (p : ProgD) (e : EnvD) (w : World) (o : ProgOk w p) (hs : AccSm p) (oe : EnvOk w e) :
    Calls Tryz.prog 64 #[.agg (progCells p), .agg (envCells e)] w fun r w' => ∃ A cp, r = .returned (.slice A (cellsN p) cp) ∧ w'.ownsRow w.heap.size 83 1 (.slice A (cellsN p) cp) (cellsN p) ((valsM p e.bare).flatMap ucell) ∧ Below w.heap.size w w' := by
  obtain ⟨W, hW, hw, HB, hpq⟩ := box2 w (progCells p) 31 (envCells e) 56
  have HW := Lib.hid hw
  have HG := Lib.hid (fun u (hb : Below W.heap.size W u) (h f : Nat) => rget_fld e h f u (oe.below (below_step hw hb)))
  have HGm := Lib.hid (fun u (hb : Below W.heap.size W u) (f : Nat) => rget_meta e f u (oe.below (below_step hw hb)))
  have HVl := Lib.hid (oe.below hw).valid
  have HF : Hid (∀ k (h : k < p.headers.l.length), nF p k = p.headers.l[k].fields.l.length) := Lib.hid (fun k h => nF_at h)
  have HFS := Lib.hid hs.fields
  have HPL := Lib.hid (preF_le hs)
  have hH := hs.headers
  have hM := hs.metadata
  have HCS := Lib.hid (cells_split p (getE e.bare) (fun h => bitI (e.bare.valid.getD h false)))
  have HCL := Lib.hid (cells_len p (getE e.bare) (fun h => bitI (e.bare.valid.getD h false)))
  obtain ⟨i0, hi, hz0, hz1, hz2⟩ := info_parts info_u32
  obtain ⟨hx, HX⟩ : ∃ x, Hid (x = p.headers) := ⟨_, Lib.hid rfl⟩
  have hx2 := HX.out
  have HLO : Hid (LOk W 2 HeaderD.cells hx) := Lib.hid (by rw [hx2]; exact o.headers.below hw (Nat.le_refl _))
  have HF : Hid (∀ k (h : k < hx.l.length), nF p k = hx.l[k].fields.l.length) := Lib.hid (by rw [hx2]; exact fun k h => nF_at h)
  have hmx : hx.l.length ≤ 9223372036854775807 := HLO.out.1
  simp only [progCells, ← hx2] at hpq hW hH HCS ⊢
  have hsW : w.heap.size ≤ W.heap.size := hw.size
  clear o hs hw oe hx2
  obtain ⟨l, A0, c0⟩ := hx
  obtain ⟨ev, ef, em, ep⟩ := e
  obtain ⟨vl, vA, vc⟩ := ev
  simp only [envCells] at hpq hW HG HGm HVl HCS ⊢
  have HB1 := Lib.hid HB
  go_enter Tryz.func64, Tryz.ntmps64
  go_upto_region 1 with fail
  rw [← hW]
  clear hW
  have hp3 := hpq W HB
  go_wp2
  clear hp3 HB
  go_loopw [5, 6, 7] (fun out iv _ wr => ∃ (k n : Nat) (A : Option Addr) (cp : Nat), k ≤ l.length ∧ iv = .int .i64 k ∧ out = .slice A n cp ∧ n ≤ 100 * k ∧ Hid (n = preF p k ∧ wr.ownsRow W.heap.size 83 1 (.slice A n cp) n ((partOf p (getE (EnvD.bare ⟨⟨vl, vA, vc⟩, ef, em, ep⟩)) k).flatMap ucell)) ∧ Below W.heap.size W wr) (fun _ i _ _ => l.length - (intOf i).toNat)
  case atStart => exact ⟨0, 0, none, 0, Nat.zero_le _, rfl, rfl, Nat.zero_le _, Lib.hid ⟨rfl, World.ownsRow_nil _ _ _ _⟩, HB1.out⟩
  case round =>
  obtain ⟨k, n, A, cp, hk, rfl, rfl, hn, HO, HB⟩ := hrel
  by_cases hlt : k < l.length
  · obtain ⟨g0, of0, hA, hall⟩ := HeaderD.atA HLO.out hlt
    simp only at hA
    subst hA
    obtain ⟨d0, d1⟩ := hall wr HB
    have HNk := Lib.hid (HF.out k hlt)
    have HAl := Lib.hid hall
    have HFk := HFS.out k
    rw [HNk.out] at HFk
    generalize l[k] = x at *
    obtain ⟨xn, ⟨xl, xA, xc⟩⟩ := x
    simp only at d0 d1 HNk HFk HAl
    clear hall
    have hp3 := hpq wr HB
    have HBb := Lib.hid HB
    have HOb := HO
    clear HB HO
    go_wp2
    clear hp3 d0 d1
    go_loopw [5, 7] (fun out fv wq => ∃ (f m : Nat) (A' : Option Addr) (cp' : Nat), f ≤ xl.length ∧ fv = .int .i64 f ∧ out = .slice A' m cp' ∧ m ≤ 20000 ∧ Hid (m = n + f) ∧ Hid (wq.ownsRow W.heap.size 83 1 (.slice A' m cp') m ((partOf p (getE (EnvD.bare ⟨⟨vl, vA, vc⟩, ef, em, ep⟩)) k ++ (List.range f).map fun (j : Nat) => getE (EnvD.bare ⟨⟨vl, vA, vc⟩, ef, em, ep⟩) k j).flatMap ucell)) ∧ Below W.heap.size W wq) (fun _ fv _ => xl.length - (intOf fv).toNat)
    case atStart => exact ⟨0, n, A, cp, Nat.zero_le _, rfl, rfl, by omega, Lib.hid rfl, Lib.hid (by simpa using HOb.out.2), HBb.out⟩
    case round =>
      obtain ⟨f, m, A', cp', hf, rfl, rfl, hm, HM, HO, HB⟩ := hrel
      obtain ⟨d0, d1⟩ := HAl.out wr HB
      by_cases hfl : f < xl.length
      · have hp3 := hpq wr HB
        have HS : Hid ((List.range (f + 1)).map (fun (j : Nat) => getE (EnvD.bare ⟨⟨vl, vA, vc⟩, ef, em, ep⟩) k j) = (List.range f).map (fun (j : Nat) => getE (EnvD.bare ⟨⟨vl, vA, vc⟩, ef, em, ep⟩) k j) ++ [getE (EnvD.bare ⟨⟨vl, vA, vc⟩, ef, em, ep⟩) k f]) := Lib.hid (range_one _ _)
        go_wp2_with fail
        refine (HG.out _ HB k f).mono ?_
        rintro r w5 ⟨rfl, hbN⟩
        have hown := own_below HO.out hbN
        replace HB := below_step HB hbN
        clear hbN hp3 HO d0 d1
        generalize getE (EnvD.bare ⟨⟨vl, vA, vc⟩, ef, em, ep⟩) k f = v at *
        have HBc := Lib.hid HB
        go_wp2_with (first
          | (at_builtin; refine wpList_append_own_at _ rfl _ _ 53 rfl W.heap.size 83 i0 _ 1 4 Tryz.underlying53 hi hz0 hz1 hz2 rfl (by decide) _ _ _ rfl (hown.alloc _) ⟨w5.heap.size, 0, none⟩ 1 1 [.int .u32 v] rfl rfl ?g01 ?g02 ?g03 ?g04 ?g05 ?_))
        case g01 => exact new_cells _ _ _
        case g02 => intro u hu; simp only [List.mem_cons, List.not_mem_nil, or_false] at hu; subst hu; rfl
        case g03 => unfold maxLen; omega
        case g04 => omega
        case g05 => have := HBc.out.size; first | omega | (simp; omega)
        intro v1 w6 hown2 hgrow _ _
        obtain ⟨A1, c1, rfl⟩ := row_slice1 hown2
        have HB6 : Hid (Below W.heap.size W w6) := Lib.hid ((below_alloc HBc.out _).grown hgrow (below_alloc HBc.out _).size fun j hj => (own_lt (hown.alloc (.cells #[.int .u32 v] 83)) j hj).1)
        have HO2 : Hid (w6.ownsRow W.heap.size 83 1 (.slice A1 (m + 1) c1) (m + 1) ((partOf p (getE (EnvD.bare ⟨⟨vl, vA, vc⟩, ef, em, ep⟩)) k ++ (List.range (f + 1)).map fun (j : Nat) => getE (EnvD.bare ⟨⟨vl, vA, vc⟩, ef, em, ep⟩) k j).flatMap ucell)) := Lib.hid (by rw [HS.out]; simpa [List.flatMap_append, ucell, List.append_assoc] using hown2)
        clear hown hown2 hgrow HB HBc HS
        go_wp2
        go_roundw
        case rel => exact ⟨f + 1, m + 1, A1, c1, by omega, by go_num, rfl, by have := HM.out; omega, Lib.hid (by have := HM.out; omega), HO2, HB6.out⟩
        case measure => simp [intOf]; omega
      · have e : f = xl.length := by omega
        have HO2 : Hid (m = preF p (k + 1) ∧ wr.ownsRow W.heap.size 83 1 (.slice A' m cp') m ((partOf p (getE (EnvD.bare ⟨⟨vl, vA, vc⟩, ef, em, ep⟩)) (k + 1)).flatMap ucell)) := Lib.hid ⟨by rw [preF, HNk.out, HM.out, ← HOb.out.1, e], by rw [part_succ, HNk.out, ← e]; exact HO.out⟩
        have hm2 : m ≤ 100 * (k + 1) := by have := HM.out; omega
        have hp3 := hpq wr HB
        have HBz := Lib.hid HB
        clear HO HM HOb HBb HB
        go_wp2
        go_roundw
        case rel => exact ⟨k + 1, m, A', cp', by omega, by go_num, rfl, hm2, HO2, HBz.out⟩
        case measure => simp [intOf]; omega
  have e : k = l.length := by omega
  have HO1 : Hid (n = preF p l.length ∧ wr.ownsRow W.heap.size 83 1 (.slice A n cp) n ((partOf p (getE (EnvD.bare ⟨⟨vl, vA, vc⟩, ef, em, ep⟩)) l.length).flatMap ucell)) := Lib.hid (by rw [← e]; exact HO.out)
  have HB2 := Lib.hid HB
  have hn2 : n ≤ 10000 := by omega
  have hp3 := hpq wr HB
  clear HO e
  go_wp2
  clear hp3 HB
  go_loopw [5, 8] (fun out iv wq => ∃ (h m : Nat) (A' : Option Addr) (cp' : Nat), h ≤ l.length ∧ iv = .int .i64 h ∧ out = .slice A' m cp' ∧ m ≤ 20000 ∧ Hid (m = n + h) ∧ Hid (wq.ownsRow W.heap.size 83 1 (.slice A' m cp') m ((partOf p (getE (EnvD.bare ⟨⟨vl, vA, vc⟩, ef, em, ep⟩)) l.length ++ (List.range h).map (fun (h : Nat) => bitI (vl.getD h false))).flatMap ucell)) ∧ Below W.heap.size W wq) (fun _ iv _ => l.length - (intOf iv).toNat)
  case atStart => exact ⟨0, n, A, cp, Nat.zero_le _, rfl, rfl, by omega, Lib.hid rfl, Lib.hid (by simpa using HO1.out.2), HB2.out⟩
  case round =>
  obtain ⟨h, m, A', cp', hh, rfl, rfl, hm, HM, HO, HB⟩ := hrel
  by_cases hlt : h < l.length
  · have HS : Hid ((List.range (h + 1)).map (fun (h : Nat) => bitI (vl.getD h false)) = (List.range h).map (fun (h : Nat) => bitI (vl.getD h false)) ++ [bitI (vl.getD h false)]) := Lib.hid (range_one _ _)
    have hp3 := hpq wr HB
    have hown := HO.out
    have HBc := Lib.hid HB
    have hh' : (h : Int) < (l.length : Int) := by omega
    by_cases hv : h < vl.length
    · obtain ⟨g0, of0, hA, d0⟩ := bcell_atA HVl.out.1 hv
      simp only at hA d0
      subst hA
      have d1 := d0 wr HB
      have hb : vl.getD h false = vl[h] := by simp [List.getD_eq_getElem?_getD, hv]
      rw [hb] at HS
      have hv' : (h : Int) < (vl.length : Int) := by omega
      have HSs := Lib.hid HS.out
      clear HS hb d0
      generalize vl[h] = b at *
      go_wp2_with fail
      refine (rbit_any b _).mono ?_
      rintro r w' ⟨rfl, rfl⟩
      have HVb : Hid ((if b = true then (1 : Int) else 0) = bitI b) := Lib.hid rfl
      generalize (if b = true then (1 : Int) else 0) = v at *
      go_wp2_with (first
        | (at_builtin; refine wpList_append_own_at _ rfl _ _ 53 rfl W.heap.size 83 i0 _ 1 4 Tryz.underlying53 hi hz0 hz1 hz2 rfl (by decide) _ _ _ rfl (hown.alloc _) ⟨wr.heap.size, 0, none⟩ 1 1 [.int .u32 v] rfl rfl ?p01 ?p02 ?p03 ?p04 ?p05 ?_))
      case p01 => exact new_cells _ _ _
      case p02 => intro u hu; simp only [List.mem_cons, List.not_mem_nil, or_false] at hu; subst hu; rfl
      case p03 => unfold maxLen; omega
      case p04 => omega
      case p05 => have := HBc.out.size; first | omega | (simp; omega)
      intro v1 w6 hown2 hgrow _ _
      obtain ⟨A1, c1, rfl⟩ := row_slice1 hown2
      have HB6 : Hid (Below W.heap.size W w6) := Lib.hid ((below_alloc HBc.out _).grown hgrow (below_alloc HBc.out _).size fun j hj => (own_lt (hown.alloc (.cells #[.int .u32 v] 83)) j hj).1)
      have HO2 : Hid (w6.ownsRow W.heap.size 83 1 (.slice A1 (m + 1) c1) (m + 1) ((partOf p (getE (EnvD.bare ⟨⟨vl, some ⟨g0, of0, none⟩, vc⟩, ef, em, ep⟩)) l.length ++ (List.range (h + 1)).map (fun (h : Nat) => bitI (vl.getD h false))).flatMap ucell)) := Lib.hid (by rw [HSs.out, ← HVb.out]; simpa [List.flatMap_append, ucell, List.append_assoc] using hown2)
      clear hown hown2 hgrow HB HBc HSs hp3 d1
      go_wp2
      go_roundw
      case rel => exact ⟨h + 1, m + 1, A1, c1, by omega, by go_num, rfl, by have := HM.out; omega, Lib.hid (by have := HM.out; omega), HO2, HB6.out⟩
      case measure => simp [intOf]; omega
    · have hb : bitI (vl.getD h false) = 0 := by rw [List.getD_eq_getElem?_getD, List.getElem?_eq_none (by omega)]; rfl
      rw [hb] at HS
      have hv' : ¬ (h : Int) < (vl.length : Int) := by omega
      have HSs := Lib.hid HS.out
      clear HS hb
      go_wp2_with fail
      refine (rbit_any false _).mono ?_
      rintro r w' ⟨rfl, rfl⟩
      go_wp2_with (first
        | (at_builtin; refine wpList_append_own_at _ rfl _ _ 53 rfl W.heap.size 83 i0 _ 1 4 Tryz.underlying53 hi hz0 hz1 hz2 rfl (by decide) _ _ _ rfl (hown.alloc _) ⟨wr.heap.size, 0, none⟩ 1 1 [.int .u32 0] rfl rfl ?q01 ?q02 ?q03 ?q04 ?q05 ?_))
      case q01 => exact new_cells _ _ _
      case q02 => intro u hu; simp only [List.mem_cons, List.not_mem_nil, or_false] at hu; subst hu; rfl
      case q03 => unfold maxLen; omega
      case q04 => omega
      case q05 => have := HBc.out.size; first | omega | (simp; omega)
      intro v1 w6 hown2 hgrow _ _
      obtain ⟨A1, c1, rfl⟩ := row_slice1 hown2
      have HB6 : Hid (Below W.heap.size W w6) := Lib.hid ((below_alloc HBc.out _).grown hgrow (below_alloc HBc.out _).size fun j hj => (own_lt (hown.alloc (.cells #[.int .u32 0] 83)) j hj).1)
      have HO2 : Hid (w6.ownsRow W.heap.size 83 1 (.slice A1 (m + 1) c1) (m + 1) ((partOf p (getE (EnvD.bare ⟨⟨vl, vA, vc⟩, ef, em, ep⟩)) l.length ++ (List.range (h + 1)).map (fun (h : Nat) => bitI (vl.getD h false))).flatMap ucell)) := Lib.hid (by rw [HSs.out]; simpa [List.flatMap_append, ucell, List.append_assoc] using hown2)
      clear hown hown2 hgrow HB HBc HSs hp3
      go_wp2
      go_roundw
      case rel => exact ⟨h + 1, m + 1, A1, c1, by omega, by go_num, rfl, by have := HM.out; omega, Lib.hid (by have := HM.out; omega), HO2, HB6.out⟩
      case measure => simp [intOf]; omega
  have e : h = l.length := by omega
  have HO3 : Hid (m = n + l.length ∧ wr.ownsRow W.heap.size 83 1 (.slice A' m cp') m ((partOf p (getE (EnvD.bare ⟨⟨vl, vA, vc⟩, ef, em, ep⟩)) l.length ++ (List.range l.length).map (fun (h : Nat) => bitI (vl.getD h false))).flatMap ucell)) := Lib.hid ⟨by have h1 := HM.out; rw [e] at h1; exact h1, by have h1 := HO.out; rw [e] at h1; exact h1⟩
  have HB3 := Lib.hid HB
  have hm2 : m ≤ 10100 := by have := HO3.out.1; omega
  have hp3 := hpq wr HB
  clear HO HM e
  go_wp2
  clear hp3 HB
  go_loopw [5, 9] (fun out iv wq => ∃ (f q : Nat) (A2 : Option Addr) (cp2 : Nat), f ≤ p.metadata.l.length ∧ iv = .int .i64 f ∧ out = .slice A2 q cp2 ∧ q ≤ 20000 ∧ Hid (q = m + f) ∧ Hid (wq.ownsRow W.heap.size 83 1 (.slice A2 q cp2) q (((partOf p (getE (EnvD.bare ⟨⟨vl, vA, vc⟩, ef, em, ep⟩)) l.length ++ (List.range l.length).map (fun (h : Nat) => bitI (vl.getD h false))) ++ (List.range f).map fun (j : Nat) => getE (EnvD.bare ⟨⟨vl, vA, vc⟩, ef, em, ep⟩) (-1) j).flatMap ucell)) ∧ Below W.heap.size W wq) (fun _ iv _ => p.metadata.l.length - (intOf iv).toNat)
  case atStart => exact ⟨0, m, A', cp', Nat.zero_le _, rfl, rfl, by omega, Lib.hid rfl, Lib.hid (by simpa using HO3.out.2), HB3.out⟩
  case round =>
  obtain ⟨f, q, A2, cp2, hf, rfl, rfl, hq, HM, HO, HB⟩ := hrel
  by_cases hlt : f < p.metadata.l.length
  · have HS : Hid ((List.range (f + 1)).map (fun (j : Nat) => getE (EnvD.bare ⟨⟨vl, vA, vc⟩, ef, em, ep⟩) (-1) j) = (List.range f).map (fun (j : Nat) => getE (EnvD.bare ⟨⟨vl, vA, vc⟩, ef, em, ep⟩) (-1) j) ++ [getE (EnvD.bare ⟨⟨vl, vA, vc⟩, ef, em, ep⟩) (-1) f]) := Lib.hid (range_one _ _)
    have hf' : (f : Int) < (p.metadata.l.length : Int) := by omega
    have hp3 := hpq wr HB
    go_wp2_with fail
    refine (HGm.out _ HB f).mono ?_
    rintro r w5 ⟨rfl, hbN⟩
    have hown := own_below HO.out hbN
    replace HB := below_step HB hbN
    clear hbN hp3 HO
    generalize getE (EnvD.bare ⟨⟨vl, vA, vc⟩, ef, em, ep⟩) (-1) f = v at *
    have HBc := Lib.hid HB
    go_wp2_with (first
      | (at_builtin; refine wpList_append_own_at _ rfl _ _ 53 rfl W.heap.size 83 i0 _ 1 4 Tryz.underlying53 hi hz0 hz1 hz2 rfl (by decide) _ _ _ rfl (hown.alloc _) ⟨w5.heap.size, 0, none⟩ 1 1 [.int .u32 v] rfl rfl ?r01 ?r02 ?r03 ?r04 ?r05 ?_))
    case r01 => exact new_cells _ _ _
    case r02 => intro u hu; simp only [List.mem_cons, List.not_mem_nil, or_false] at hu; subst hu; rfl
    case r03 => unfold maxLen; omega
    case r04 => omega
    case r05 => have := HBc.out.size; first | omega | (simp; omega)
    intro v1 w6 hown2 hgrow _ _
    obtain ⟨A1, c1, rfl⟩ := row_slice1 hown2
    have HB6 : Hid (Below W.heap.size W w6) := Lib.hid ((below_alloc HBc.out _).grown hgrow (below_alloc HBc.out _).size fun j hj => (own_lt (hown.alloc (.cells #[.int .u32 v] 83)) j hj).1)
    have HO2 : Hid (w6.ownsRow W.heap.size 83 1 (.slice A1 (q + 1) c1) (q + 1) (((partOf p (getE (EnvD.bare ⟨⟨vl, vA, vc⟩, ef, em, ep⟩)) l.length ++ (List.range l.length).map (fun (h : Nat) => bitI (vl.getD h false))) ++ (List.range (f + 1)).map fun (j : Nat) => getE (EnvD.bare ⟨⟨vl, vA, vc⟩, ef, em, ep⟩) (-1) j).flatMap ucell)) := Lib.hid (by rw [HS.out]; simpa [List.flatMap_append, ucell, List.append_assoc] using hown2)
    clear hown hown2 hgrow HB HBc HS
    go_wp2
    go_roundw
    case rel => exact ⟨f + 1, q + 1, A1, c1, by omega, by go_num, rfl, by have := HM.out; omega, Lib.hid (by have := HM.out; omega), HO2, HB6.out⟩
    case measure => simp [intOf]; omega
  have e : f = p.metadata.l.length := by omega
  have HQ : Hid (q = cellsN p) := Lib.hid (by have h1 := HX.out; have h2 := HM.out; have h3 := HO3.out.1; have h4 := HO1.out.1; unfold cellsN fN; rw [← h1]; simp only; omega)
  have HOf : Hid (wr.ownsRow W.heap.size 83 1 (.slice A2 q cp2) q ((valsM p (EnvD.bare ⟨⟨vl, vA, vc⟩, ef, em, ep⟩)).flatMap ucell)) := Lib.hid (by
    rw [valsM, HCS.out, ← e]; exact HO.out)
  clear HO
  go_wp2
  go_ret
  have h1 := HQ.out
  have h2 := HOf.out
  subst h1
  exact ⟨A2, cp2, rfl, ⟨h2.1, by
    rcases h2.2 with h0 | ⟨g, cap, cur, e, hbg, hr⟩
    · exact .inl h0
    · exact .inr ⟨g, cap, cur, e, Nat.le_trans hsW hbg, hr⟩⟩, below_step HW.out HB⟩
end Go.Proofs.YtbfjknidinkafaaGreat
namespace Go.Proofs.YtbfjknidinkafaaGreat
open Go.RowKit

theorem made_zero (n : Nat) : (madeCells (Value.int .u32 0).cells (n * 1)).toList = (List.replicate n (0 : Int)).flatMap ucell := by
  have h1 : (Value.int .u32 0).cells = #[.int .u32 0] := rfl
  rw [h1, Nat.mul_one]
  simp only [madeCells, Array.toList_map, Array.toList_range]
  induction n with
  | zero => rfl
  | succ n ih =>
    rw [List.range_succ, List.map_append, List.replicate_succ', List.flatMap_append, ih]
    simp [ucell, Nat.mod_one]
/-- a list of zeros, made since W -/
structure Mk (W w : World) (g n : Nat) : Prop where
  own : OwnL w W.heap.size 83 ucell ⟨List.replicate n 0, some ⟨g, 0, none⟩, n⟩
  lt : g < w.heap.size
theorem Mk.below {W w w' : World} {g n : Nat} (h : Mk W w g n) (hb : Below w.heap.size w w') : Mk W w' g n := ⟨h.own.below hb, Nat.lt_of_lt_of_le h.lt hb.size⟩
theorem Mk.grown {W w w' : World} {g n : Nat} (h : Mk W w g n) (hg : w.grownBy w' none) : Mk W w' g n := ⟨h.own.grown hg (fun _ _ => by simp), Nat.lt_of_lt_of_le h.lt hg.size⟩
theorem Mk.alloc {W w : World} {g n : Nat} (h : Mk W w g n) (o : Obj) : Mk W (w.alloc o) g n := h.below (below1 w o)
theorem Mk.make {W w w1 : World} {n : Nat} (h : w1.ownsRow W.heap.size 83 1 (.slice (some ⟨w.heap.size, 0, none⟩) n n) n (madeCells (Value.int .u32 0).cells (n * 1)).toList) : Mk W w1 w.heap.size n := by
  rw [made_zero] at h
  have h2 : OwnL w1 W.heap.size 83 ucell ⟨List.replicate n 0, some ⟨w.heap.size, 0, none⟩, n⟩ := by
    unfold OwnL
    simp only [L.v, List.length_replicate]
    exact h
  exact ⟨h2, (h2.lt _ rfl).2⟩

/-- what the calls of the region answer -/
structure LoadCalls (W : World) (sl : Value) (n1 n2 n3 : Nat) : Prop where
  c1 : ∀ u, Below W.heap.size W u → Calls Tryz.prog 63 #[sl, .int .i64 8] u fun e u' => e = .returned (.int .i64 (n1 : Nat)) ∧ Below u.heap.size u u'
  c2 : ∀ u, Below W.heap.size W u → Calls Tryz.prog 63 #[sl, .int .i64 16] u fun e u' => e = .returned (.int .i64 (n2 : Nat)) ∧ Below u.heap.size u u'
  c3 : ∀ u, Below W.heap.size W u → Calls Tryz.prog 63 #[sl, .int .i64 32] u fun e u' => e = .returned (.int .i64 (n3 : Nat)) ∧ Below u.heap.size u u'
  b1 : n1 ≤ 64
  b2 : n2 ≤ 64
  b3 : n3 ≤ 64

def opsL : Array Oper := #[{ dst := some 13, op := Op.move (Operand.tmp 1), type := 36, pos := "ref.go:154", after := #[], guard := none },
  { dst := some 14, op := Op.call { callee := Callee.value (Operand.func 63), args := #[Operand.tmp 13, Operand.const (Value.int IntKind.i64 8)], argTypes := #[36, 3] }, type := 3, pos := "ref.go:154", after := #[{ on := 0, ground := Ground.data }], guard := none },
  { dst := some 15, op := Op.makeSlice 53 (Operand.tmp 14) (Operand.tmp 14), type := 53, pos := "ref.go:154", after := #[{ on := 1, ground := Ground.data }, { on := 1, ground := Ground.data }], guard := none },
  { dst := some 16, op := Op.move (Operand.tmp 1), type := 36, pos := "ref.go:154", after := #[], guard := none },
  { dst := some 17, op := Op.call { callee := Callee.value (Operand.func 63), args := #[Operand.tmp 16, Operand.const (Value.int IntKind.i64 16)], argTypes := #[36, 3] }, type := 3, pos := "ref.go:154", after := #[{ on := 3, ground := Ground.data }, { on := 1, ground := Ground.chain }], guard := none },
  { dst := some 18, op := Op.makeSlice 53 (Operand.tmp 17) (Operand.tmp 17), type := 53, pos := "ref.go:154", after := #[{ on := 4, ground := Ground.data }, { on := 4, ground := Ground.data }], guard := none },
  { dst := some 19, op := Op.move (Operand.tmp 1), type := 36, pos := "ref.go:154", after := #[], guard := none },
  { dst := some 20, op := Op.call { callee := Callee.value (Operand.func 63), args := #[Operand.tmp 19, Operand.const (Value.int IntKind.i64 32)], argTypes := #[36, 3] }, type := 3, pos := "ref.go:154", after := #[{ on := 6, ground := Ground.data }, { on := 4, ground := Ground.chain }], guard := none },
  { dst := some 21, op := Op.makeSlice 53 (Operand.tmp 20) (Operand.tmp 20), type := 53, pos := "ref.go:154", after := #[{ on := 7, ground := Ground.data }, { on := 7, ground := Ground.data }], guard := none },
  { dst := some 22, op := Op.build 62 #[(0, Operand.tmp 15), (1, Operand.tmp 18), (2, Operand.tmp 21)], type := 62, pos := "ref.go:154", after := #[{ on := 2, ground := Ground.data }, { on := 5, ground := Ground.data }, { on := 8, ground := Ground.data }], guard := none },
  { dst := some 9, op := Op.alloc 62, type := 0, pos := "ref.go:154", after := #[], guard := none },
  { dst := none, op := Op.store 62 (Operand.tmp 9) (Operand.tmp 22), type := 0, pos := "ref.go:154", after := #[{ on := 10, ground := Ground.data }, { on := 9, ground := Ground.data }, { on := 7, ground := Ground.chain }, { on := 0, ground := Ground.phase }, { on := 1, ground := Ground.phase }, { on := 2, ground := Ground.phase }, { on := 3, ground := Ground.phase }, { on := 4, ground := Ground.phase }, { on := 5, ground := Ground.phase }, { on := 6, ground := Ground.phase }, { on := 7, ground := Ground.phase }, { on := 8, ground := Ground.phase }, { on := 9, ground := Ground.phase }, { on := 10, ground := Ground.phase }], guard := none }]
/-- what the region ends with -/
def LoadFin (W : World) (n1 n2 n3 : Nat) (sl v0 v2 v3 v4 v5 v6 v7 v8 : Value) (Q : Exit → Act → World → Prop) : Prop :=
  ∀ (w : World) (g1 g2 g3 ga : Nat), Below W.heap.size W w → Mk W w g1 n1 → Mk W w g2 n2 → Mk W w g3 n3 → g1 ≠ g2 → g1 ≠ g3 → g2 ≠ g3 →
    Blk w ga 62 #[.slice (some ⟨g1, 0, none⟩) n1 n1, .slice (some ⟨g2, 0, none⟩) n2 n2, .slice (some ⟨g3, 0, none⟩) n3 n3] ∧ W.heap.size ≤ ga → ga ≠ g1 → ga ≠ g2 → ga ≠ g3 →
    Q .normal { tmps := #[v0, sl, v2, v3, v4, v5, v6, v7, v8, .pointer (some ⟨ga, 0, none⟩), undef, undef, undef, sl, .int .i64 (n1 : Nat), .slice (some ⟨g1, 0, none⟩) n1 n1, sl, .int .i64 (n2 : Nat), .slice (some ⟨g2, 0, none⟩) n2 n2, sl, .int .i64 (n3 : Nat), .slice (some ⟨g3, 0, none⟩) n3 n3, .agg #[.slice (some ⟨g1, 0, none⟩) n1 n1, .slice (some ⟨g2, 0, none⟩) n2 n2, .slice (some ⟨g3, 0, none⟩) n3 n3], undef, undef, undef, undef, undef, undef, undef, undef, undef, undef, undef, undef, undef, undef, undef, undef, undef, undef, undef, undef, undef, undef, undef, undef, undef, undef, undef, undef, undef, undef, undef, undef, undef, undef, undef, undef, undef, undef, undef, undef, undef, undef, undef, undef, undef], defers := [] } w
section
variable {W : World} {n1 n2 n3 : Nat} {sl v0 v2 v3 v4 v5 v6 v7 v8 : Value} {Q : Exit → Act → World → Prop}

theorem Mk.set3 {w : World} {g n ga : Nat} (h : Mk W w g n) (hne : ga ≠ g) (x y z : Value) : Mk W (((w.setCell ⟨ga, 0, none⟩ x).setCell ⟨ga, 1, none⟩ y).setCell ⟨ga, 2, none⟩ z) g n := by
  have e : (⟨List.replicate n 0, some ⟨g, 0, none⟩, n⟩ : L Int).v.ownBlock ≠ some ga := by
    simp only [Value.ownBlock]
    simpa using fun e => hne e.symm
  exact ⟨((h.own.far (p := ⟨ga, 0, none⟩) x e).far (p := ⟨ga, 1, none⟩) y e).far (p := ⟨ga, 2, none⟩) z e, by simpa using h.lt⟩
set_option maxRecDepth 100000 in
set_option maxHeartbeats 2000000 in
theorem ld_end (hQ : LoadFin W n1 n2 n3 sl v0 v2 v3 v4 v5 v6 v7 v8 Q)  (w : World) (g1 g2 g3 ga : Nat) (hB : Below W.heap.size W w) (o1 : Mk W w g1 n1) (o2 : Mk W w g2 n2) (o3 : Mk W w g3 n3) (e12 : g1 ≠ g2) (e13 : g1 ≠ g3) (e23 : g2 ≠ g3) (ha : Blk w ga 62 #[.slice none 0 0, .slice none 0 0, .slice none 0 0] ∧ W.heap.size ≤ ga) (f1 : ga ≠ g1) (f2 : ga ≠ g2) (f3 : ga ≠ g3) :
    wpAnyH Tryz.prog .any opsL Q (fun w' => Below W.heap.size W w') 1 #[true, true, true, true, true, true, true, true, true, true, true, false] { tmps := #[v0, sl, v2, v3, v4, v5, v6, v7, v8, .pointer (some ⟨ga, 0, none⟩), undef, undef, undef, sl, .int .i64 (n1 : Nat), .slice (some ⟨g1, 0, none⟩) n1 n1, sl, .int .i64 (n2 : Nat), .slice (some ⟨g2, 0, none⟩) n2 n2, sl, .int .i64 (n3 : Nat), .slice (some ⟨g3, 0, none⟩) n3 n3, .agg #[.slice (some ⟨g1, 0, none⟩) n1 n1, .slice (some ⟨g2, 0, none⟩) n2 n2, .slice (some ⟨g3, 0, none⟩) n3 n3], undef, undef, undef, undef, undef, undef, undef, undef, undef, undef, undef, undef, undef, undef, undef, undef, undef, undef, undef, undef, undef, undef, undef, undef, undef, undef, undef, undef, undef, undef, undef, undef, undef, undef, undef, undef, undef, undef, undef, undef, undef, undef, undef, undef, undef], defers := [] } w := by
  refine wpAnyH_ready (rs := [11]) (by kernel_rfl) (by simp) ?_
  refine AllReadyH.cons (o := { dst := none, op := Op.store 62 (Operand.tmp 9) (Operand.tmp 22), type := 0, pos := "ref.go:154", after := #[{ on := 10, ground := Ground.data }, { on := 9, ground := Ground.data }, { on := 7, ground := Ground.chain }, { on := 0, ground := Ground.phase }, { on := 1, ground := Ground.phase }, { on := 2, ground := Ground.phase }, { on := 3, ground := Ground.phase }, { on := 4, ground := Ground.phase }, { on := 5, ground := Ground.phase }, { on := 6, ground := Ground.phase }, { on := 7, ground := Ground.phase }, { on := 8, ground := Ground.phase }, { on := 9, ground := Ground.phase }, { on := 10, ground := Ground.phase }], guard := none }) rfl (fun K hK => ?_) AllReadyH.nil
  have a0 : w.cell? ⟨ga, 0, none⟩ = some (.slice none 0 0) := ha.1.cell 0
  have a1 : w.cell? ⟨ga, 1, none⟩ = some (.slice none 0 0) := ha.1.cell 1
  have a2 : w.cell? ⟨ga, 2, none⟩ = some (.slice none 0 0) := ha.1.cell 2
  have af : ∀ j, w.frozen? ⟨ga, j, none⟩ = false := fun j => ha.1.frozen j
  go_simp
  have hBs : Below W.heap.size W (((w.setCell ⟨ga, 0, none⟩ (.slice (some ⟨g1, 0, none⟩) n1 n1)).setCell ⟨ga, 1, none⟩ (.slice (some ⟨g2, 0, none⟩) n2 n2)).setCell ⟨ga, 2, none⟩ (.slice (some ⟨g3, 0, none⟩) n3 n3)) := ((hB.setCell (by exact ha.2) _).setCell (by exact ha.2) _).setCell (by exact ha.2) _
  refine hK.out _ _ hBs (fun _ => ?_)
  clear hK K
  try simp only [List.setIfInBounds_toArray, List.set_cons_zero, List.set_cons_succ]
  refine wpAnyH_done (by kernel_rfl) ?_ _
  exact hQ _ g1 g2 g3 ga hBs (o1.set3 f1 _ _ _) (o2.set3 f2 _ _ _) (o3.set3 f3 _ _ _) e12 e13 e23 ⟨((ha.1.set_ 0 _).set_ 1 _).set_ 2 _, ha.2⟩ f1 f2 f3
set_option maxRecDepth 100000 in
set_option maxHeartbeats 4000000 in
theorem ld_1111111 (hQ : LoadFin W n1 n2 n3 sl v0 v2 v3 v4 v5 v6 v7 v8 Q) (hP : ∀ c (d : Option Tmp) v a w, Q (.panic c) (a.put d v) w → Q (.panic c) a w)  (w : World) (g1 g2 g3 ga : Nat) (hB : Below W.heap.size W w) (o1 : Mk W w g1 n1) (o2 : Mk W w g2 n2) (o3 : Mk W w g3 n3) (e12 : g1 ≠ g2) (e13 : g1 ≠ g3) (e23 : g2 ≠ g3) (ha : Blk w ga 62 #[.slice none 0 0, .slice none 0 0, .slice none 0 0] ∧ W.heap.size ≤ ga) (f1 : ga ≠ g1) (f2 : ga ≠ g2) (f3 : ga ≠ g3) :
    wpAnyH Tryz.prog .any opsL Q (fun w' => Below W.heap.size W w') 2 #[true, true, true, true, true, true, true, true, true, false, true, false] { tmps := #[v0, sl, v2, v3, v4, v5, v6, v7, v8, .pointer (some ⟨ga, 0, none⟩), undef, undef, undef, sl, .int .i64 (n1 : Nat), .slice (some ⟨g1, 0, none⟩) n1 n1, sl, .int .i64 (n2 : Nat), .slice (some ⟨g2, 0, none⟩) n2 n2, sl, .int .i64 (n3 : Nat), .slice (some ⟨g3, 0, none⟩) n3 n3, undef, undef, undef, undef, undef, undef, undef, undef, undef, undef, undef, undef, undef, undef, undef, undef, undef, undef, undef, undef, undef, undef, undef, undef, undef, undef, undef, undef, undef, undef, undef, undef, undef, undef, undef, undef, undef, undef, undef, undef, undef, undef, undef, undef, undef, undef], defers := [] } w := by
  refine wpAnyH_take (i := 9) (oi := { dst := some 22, op := Op.build 62 #[(0, Operand.tmp 15), (1, Operand.tmp 18), (2, Operand.tmp 21)], type := 62, pos := "ref.go:154", after := #[{ on := 2, ground := Ground.data }, { on := 5, ground := Ground.data }, { on := 8, ground := Ground.data }], guard := none }) (v := ?t1v) rfl (by kernel_rfl) (by kernel_rfl) (by kernel_rfl) (fun c a w h => hP c _ _ a w h) (Or.inl ⟨by rfl, ?t1y⟩) (by assumption) ?t1r
  case t1y => (intro w hSw; (try dsimp only at hSw); go_simp; try (with_reducible rfl))
  try simp only [Act.put, List.setIfInBounds_toArray, List.set_cons_zero, List.set_cons_succ]
  exact ld_end hQ w g1 g2 g3 ga hB o1 o2 o3 e12 e13 e23 ha f1 f2 f3
set_option maxRecDepth 100000 in
set_option maxHeartbeats 4000000 in
theorem ld_1111110 (hQ : LoadFin W n1 n2 n3 sl v0 v2 v3 v4 v5 v6 v7 v8 Q) (hP : ∀ c (d : Option Tmp) v a w, Q (.panic c) (a.put d v) w → Q (.panic c) a w)  (w : World) (g1 g2 g3 : Nat) (hB : Below W.heap.size W w) (o1 : Mk W w g1 n1) (o2 : Mk W w g2 n2) (o3 : Mk W w g3 n3) (e12 : g1 ≠ g2) (e13 : g1 ≠ g3) (e23 : g2 ≠ g3) :
    wpAnyH Tryz.prog .any opsL Q (fun w' => Below W.heap.size W w') 3 #[true, true, true, true, true, true, true, true, true, false, false, false] { tmps := #[v0, sl, v2, v3, v4, v5, v6, v7, v8, undef, undef, undef, undef, sl, .int .i64 (n1 : Nat), .slice (some ⟨g1, 0, none⟩) n1 n1, sl, .int .i64 (n2 : Nat), .slice (some ⟨g2, 0, none⟩) n2 n2, sl, .int .i64 (n3 : Nat), .slice (some ⟨g3, 0, none⟩) n3 n3, undef, undef, undef, undef, undef, undef, undef, undef, undef, undef, undef, undef, undef, undef, undef, undef, undef, undef, undef, undef, undef, undef, undef, undef, undef, undef, undef, undef, undef, undef, undef, undef, undef, undef, undef, undef, undef, undef, undef, undef, undef, undef, undef, undef, undef, undef], defers := [] } w := by
  refine wpAnyH_take (i := 9) (oi := { dst := some 22, op := Op.build 62 #[(0, Operand.tmp 15), (1, Operand.tmp 18), (2, Operand.tmp 21)], type := 62, pos := "ref.go:154", after := #[{ on := 2, ground := Ground.data }, { on := 5, ground := Ground.data }, { on := 8, ground := Ground.data }], guard := none }) (v := ?t1v) rfl (by kernel_rfl) (by kernel_rfl) (by kernel_rfl) (fun c a w h => hP c _ _ a w h) (Or.inl ⟨by rfl, ?t1y⟩) (by assumption) ?t1r
  case t1y => (intro w hSw; (try dsimp only at hSw); go_simp; try (with_reducible rfl))
  try simp only [Act.put, List.setIfInBounds_toArray, List.set_cons_zero, List.set_cons_succ]
  refine wpAnyH_ready (rs := [10]) (by kernel_rfl) (by simp) ?_
  refine AllReadyH.cons (o := { dst := some 9, op := Op.alloc 62, type := 0, pos := "ref.go:154", after := #[], guard := none }) rfl (fun K hK => ?_) AllReadyH.nil
  · skip
    go_simp
    have hB1 : Below W.heap.size W (w.alloc (.cells #[.slice none 0 0, .slice none 0 0, .slice none 0 0] 62)) := below_step hB (below1 _ _)
    refine hK.out _ _ hB1 (fun _ => ?_)
    clear hK K
    try simp only [List.setIfInBounds_toArray, List.set_cons_zero, List.set_cons_succ]
    exact ld_end hQ _ g1 g2 g3 w.heap.size hB1 (o1.alloc _) (o2.alloc _) (o3.alloc _) e12 e13 e23 ⟨Blk.new _ _ _, hB.size⟩ (Nat.ne_of_gt o1.lt) (Nat.ne_of_gt o2.lt) (Nat.ne_of_gt o3.lt)
set_option maxRecDepth 100000 in
set_option maxHeartbeats 4000000 in
theorem ld_1111101 (hQ : LoadFin W n1 n2 n3 sl v0 v2 v3 v4 v5 v6 v7 v8 Q) (hP : ∀ c (d : Option Tmp) v a w, Q (.panic c) (a.put d v) w → Q (.panic c) a w) (HC : LoadCalls W sl n1 n2 n3) (w : World) (g1 g2 ga : Nat) (hB : Below W.heap.size W w) (o1 : Mk W w g1 n1) (o2 : Mk W w g2 n2) (e12 : g1 ≠ g2) (ha : Blk w ga 62 #[.slice none 0 0, .slice none 0 0, .slice none 0 0] ∧ W.heap.size ≤ ga) (f1 : ga ≠ g1) (f2 : ga ≠ g2) :
    wpAnyH Tryz.prog .any opsL Q (fun w' => Below W.heap.size W w') 3 #[true, true, true, true, true, true, true, true, false, false, true, false] { tmps := #[v0, sl, v2, v3, v4, v5, v6, v7, v8, .pointer (some ⟨ga, 0, none⟩), undef, undef, undef, sl, .int .i64 (n1 : Nat), .slice (some ⟨g1, 0, none⟩) n1 n1, sl, .int .i64 (n2 : Nat), .slice (some ⟨g2, 0, none⟩) n2 n2, sl, .int .i64 (n3 : Nat), undef, undef, undef, undef, undef, undef, undef, undef, undef, undef, undef, undef, undef, undef, undef, undef, undef, undef, undef, undef, undef, undef, undef, undef, undef, undef, undef, undef, undef, undef, undef, undef, undef, undef, undef, undef, undef, undef, undef, undef, undef, undef, undef, undef, undef, undef, undef], defers := [] } w := by
  refine wpAnyH_ready (rs := [8]) (by kernel_rfl) (by simp) ?_
  refine AllReadyH.cons (o := { dst := some 21, op := Op.makeSlice 53 (Operand.tmp 20) (Operand.tmp 20), type := 53, pos := "ref.go:154", after := #[{ on := 7, ground := Ground.data }, { on := 7, ground := Ground.data }], guard := none }) rfl (fun K hK => ?_) AllReadyH.nil
  · skip
    obtain ⟨i0, hi, hz0, hz1, hz2⟩ := info_parts info_u32
    obtain ⟨w1, hrun, hown, hgr⟩ := run_make_full (P := Tryz.prog) (w := w) W.heap.size 53 83 i0 _ 1 Tryz.underlying53 hi hz0 hz1 .i64 .i64 n3 (by rw [hz2]; have := HC.b3; omega) (by unfold maxLen; have := HC.b3; omega) hB.size
    have hB1 : Below W.heap.size W w1 := hB.grown hgr hB.size (fun _ h => by cases h)
    have hK2 := hK.out
    clear hK
    go_simp
    refine hK2 _ _ hB1 (fun _ => ?_)
    clear hK2 K
    try simp only [List.setIfInBounds_toArray, List.set_cons_zero, List.set_cons_succ]
    exact ld_1111111 hQ hP w1 g1 g2 w.heap.size ga hB1 (o1.grown hgr) (o2.grown hgr) (Mk.make hown) e12 (Nat.ne_of_lt o1.lt) (Nat.ne_of_lt o2.lt) ⟨ha.1.grown hgr (by simp), ha.2⟩ f1 f2 (Nat.ne_of_lt ha.1.lt)
set_option maxRecDepth 100000 in
set_option maxHeartbeats 4000000 in
theorem ld_1110111 (hQ : LoadFin W n1 n2 n3 sl v0 v2 v3 v4 v5 v6 v7 v8 Q) (hP : ∀ c (d : Option Tmp) v a w, Q (.panic c) (a.put d v) w → Q (.panic c) a w) (HC : LoadCalls W sl n1 n2 n3) (w : World) (g1 g3 ga : Nat) (hB : Below W.heap.size W w) (o1 : Mk W w g1 n1) (o3 : Mk W w g3 n3) (e13 : g1 ≠ g3) (ha : Blk w ga 62 #[.slice none 0 0, .slice none 0 0, .slice none 0 0] ∧ W.heap.size ≤ ga) (f1 : ga ≠ g1) (f3 : ga ≠ g3) :
    wpAnyH Tryz.prog .any opsL Q (fun w' => Below W.heap.size W w') 3 #[true, true, true, true, true, false, true, true, true, false, true, false] { tmps := #[v0, sl, v2, v3, v4, v5, v6, v7, v8, .pointer (some ⟨ga, 0, none⟩), undef, undef, undef, sl, .int .i64 (n1 : Nat), .slice (some ⟨g1, 0, none⟩) n1 n1, sl, .int .i64 (n2 : Nat), undef, sl, .int .i64 (n3 : Nat), .slice (some ⟨g3, 0, none⟩) n3 n3, undef, undef, undef, undef, undef, undef, undef, undef, undef, undef, undef, undef, undef, undef, undef, undef, undef, undef, undef, undef, undef, undef, undef, undef, undef, undef, undef, undef, undef, undef, undef, undef, undef, undef, undef, undef, undef, undef, undef, undef, undef, undef, undef, undef, undef, undef], defers := [] } w := by
  refine wpAnyH_ready (rs := [5]) (by kernel_rfl) (by simp) ?_
  refine AllReadyH.cons (o := { dst := some 18, op := Op.makeSlice 53 (Operand.tmp 17) (Operand.tmp 17), type := 53, pos := "ref.go:154", after := #[{ on := 4, ground := Ground.data }, { on := 4, ground := Ground.data }], guard := none }) rfl (fun K hK => ?_) AllReadyH.nil
  · skip
    obtain ⟨i0, hi, hz0, hz1, hz2⟩ := info_parts info_u32
    obtain ⟨w1, hrun, hown, hgr⟩ := run_make_full (P := Tryz.prog) (w := w) W.heap.size 53 83 i0 _ 1 Tryz.underlying53 hi hz0 hz1 .i64 .i64 n2 (by rw [hz2]; have := HC.b2; omega) (by unfold maxLen; have := HC.b2; omega) hB.size
    have hB1 : Below W.heap.size W w1 := hB.grown hgr hB.size (fun _ h => by cases h)
    have hK2 := hK.out
    clear hK
    go_simp
    refine hK2 _ _ hB1 (fun _ => ?_)
    clear hK2 K
    try simp only [List.setIfInBounds_toArray, List.set_cons_zero, List.set_cons_succ]
    exact ld_1111111 hQ hP w1 g1 w.heap.size g3 ga hB1 (o1.grown hgr) (Mk.make hown) (o3.grown hgr) (Nat.ne_of_lt o1.lt) e13 (Nat.ne_of_gt o3.lt) ⟨ha.1.grown hgr (by simp), ha.2⟩ f1 (Nat.ne_of_lt ha.1.lt) f3
set_option maxRecDepth 100000 in
set_option maxHeartbeats 4000000 in
theorem ld_1011111 (hQ : LoadFin W n1 n2 n3 sl v0 v2 v3 v4 v5 v6 v7 v8 Q) (hP : ∀ c (d : Option Tmp) v a w, Q (.panic c) (a.put d v) w → Q (.panic c) a w) (HC : LoadCalls W sl n1 n2 n3) (w : World) (g2 g3 ga : Nat) (hB : Below W.heap.size W w) (o2 : Mk W w g2 n2) (o3 : Mk W w g3 n3) (e23 : g2 ≠ g3) (ha : Blk w ga 62 #[.slice none 0 0, .slice none 0 0, .slice none 0 0] ∧ W.heap.size ≤ ga) (f2 : ga ≠ g2) (f3 : ga ≠ g3) :
    wpAnyH Tryz.prog .any opsL Q (fun w' => Below W.heap.size W w') 3 #[true, true, false, true, true, true, true, true, true, false, true, false] { tmps := #[v0, sl, v2, v3, v4, v5, v6, v7, v8, .pointer (some ⟨ga, 0, none⟩), undef, undef, undef, sl, .int .i64 (n1 : Nat), undef, sl, .int .i64 (n2 : Nat), .slice (some ⟨g2, 0, none⟩) n2 n2, sl, .int .i64 (n3 : Nat), .slice (some ⟨g3, 0, none⟩) n3 n3, undef, undef, undef, undef, undef, undef, undef, undef, undef, undef, undef, undef, undef, undef, undef, undef, undef, undef, undef, undef, undef, undef, undef, undef, undef, undef, undef, undef, undef, undef, undef, undef, undef, undef, undef, undef, undef, undef, undef, undef, undef, undef, undef, undef, undef, undef], defers := [] } w := by
  refine wpAnyH_ready (rs := [2]) (by kernel_rfl) (by simp) ?_
  refine AllReadyH.cons (o := { dst := some 15, op := Op.makeSlice 53 (Operand.tmp 14) (Operand.tmp 14), type := 53, pos := "ref.go:154", after := #[{ on := 1, ground := Ground.data }, { on := 1, ground := Ground.data }], guard := none }) rfl (fun K hK => ?_) AllReadyH.nil
  · skip
    obtain ⟨i0, hi, hz0, hz1, hz2⟩ := info_parts info_u32
    obtain ⟨w1, hrun, hown, hgr⟩ := run_make_full (P := Tryz.prog) (w := w) W.heap.size 53 83 i0 _ 1 Tryz.underlying53 hi hz0 hz1 .i64 .i64 n1 (by rw [hz2]; have := HC.b1; omega) (by unfold maxLen; have := HC.b1; omega) hB.size
    have hB1 : Below W.heap.size W w1 := hB.grown hgr hB.size (fun _ h => by cases h)
    have hK2 := hK.out
    clear hK
    go_simp
    refine hK2 _ _ hB1 (fun _ => ?_)
    clear hK2 K
    try simp only [List.setIfInBounds_toArray, List.set_cons_zero, List.set_cons_succ]
    exact ld_1111111 hQ hP w1 w.heap.size g2 g3 ga hB1 (Mk.make hown) (o2.grown hgr) (o3.grown hgr) (Nat.ne_of_gt o2.lt) (Nat.ne_of_gt o3.lt) e23 ⟨ha.1.grown hgr (by simp), ha.2⟩ (Nat.ne_of_lt ha.1.lt) f2 f3
set_option maxRecDepth 100000 in
set_option maxHeartbeats 4000000 in
theorem ld_1111100 (hQ : LoadFin W n1 n2 n3 sl v0 v2 v3 v4 v5 v6 v7 v8 Q) (hP : ∀ c (d : Option Tmp) v a w, Q (.panic c) (a.put d v) w → Q (.panic c) a w) (HC : LoadCalls W sl n1 n2 n3) (w : World) (g1 g2 : Nat) (hB : Below W.heap.size W w) (o1 : Mk W w g1 n1) (o2 : Mk W w g2 n2) (e12 : g1 ≠ g2) :
    wpAnyH Tryz.prog .any opsL Q (fun w' => Below W.heap.size W w') 4 #[true, true, true, true, true, true, true, true, false, false, false, false] { tmps := #[v0, sl, v2, v3, v4, v5, v6, v7, v8, undef, undef, undef, undef, sl, .int .i64 (n1 : Nat), .slice (some ⟨g1, 0, none⟩) n1 n1, sl, .int .i64 (n2 : Nat), .slice (some ⟨g2, 0, none⟩) n2 n2, sl, .int .i64 (n3 : Nat), undef, undef, undef, undef, undef, undef, undef, undef, undef, undef, undef, undef, undef, undef, undef, undef, undef, undef, undef, undef, undef, undef, undef, undef, undef, undef, undef, undef, undef, undef, undef, undef, undef, undef, undef, undef, undef, undef, undef, undef, undef, undef, undef, undef, undef, undef, undef], defers := [] } w := by
  refine wpAnyH_ready (rs := [8, 10]) (by kernel_rfl) (by simp) ?_
  refine AllReadyH.cons (o := { dst := some 21, op := Op.makeSlice 53 (Operand.tmp 20) (Operand.tmp 20), type := 53, pos := "ref.go:154", after := #[{ on := 7, ground := Ground.data }, { on := 7, ground := Ground.data }], guard := none }) rfl (fun K hK => ?_) (AllReadyH.cons (o := { dst := some 9, op := Op.alloc 62, type := 0, pos := "ref.go:154", after := #[], guard := none }) rfl (fun K hK => ?_) AllReadyH.nil)
  · skip
    obtain ⟨i0, hi, hz0, hz1, hz2⟩ := info_parts info_u32
    obtain ⟨w1, hrun, hown, hgr⟩ := run_make_full (P := Tryz.prog) (w := w) W.heap.size 53 83 i0 _ 1 Tryz.underlying53 hi hz0 hz1 .i64 .i64 n3 (by rw [hz2]; have := HC.b3; omega) (by unfold maxLen; have := HC.b3; omega) hB.size
    have hB1 : Below W.heap.size W w1 := hB.grown hgr hB.size (fun _ h => by cases h)
    have hK2 := hK.out
    clear hK
    go_simp
    refine hK2 _ _ hB1 (fun _ => ?_)
    clear hK2 K
    try simp only [List.setIfInBounds_toArray, List.set_cons_zero, List.set_cons_succ]
    exact ld_1111110 hQ hP w1 g1 g2 w.heap.size hB1 (o1.grown hgr) (o2.grown hgr) (Mk.make hown) e12 (Nat.ne_of_lt o1.lt) (Nat.ne_of_lt o2.lt)
  · skip
    go_simp
    have hB1 : Below W.heap.size W (w.alloc (.cells #[.slice none 0 0, .slice none 0 0, .slice none 0 0] 62)) := below_step hB (below1 _ _)
    refine hK.out _ _ hB1 (fun _ => ?_)
    clear hK K
    try simp only [List.setIfInBounds_toArray, List.set_cons_zero, List.set_cons_succ]
    exact ld_1111101 hQ hP HC _ g1 g2 w.heap.size hB1 (o1.alloc _) (o2.alloc _) e12 ⟨Blk.new _ _ _, hB.size⟩ (Nat.ne_of_gt o1.lt) (Nat.ne_of_gt o2.lt)
set_option maxRecDepth 100000 in
set_option maxHeartbeats 4000000 in
theorem ld_1111001 (hQ : LoadFin W n1 n2 n3 sl v0 v2 v3 v4 v5 v6 v7 v8 Q) (hP : ∀ c (d : Option Tmp) v a w, Q (.panic c) (a.put d v) w → Q (.panic c) a w) (HC : LoadCalls W sl n1 n2 n3) (w : World) (g1 g2 ga : Nat) (hB : Below W.heap.size W w) (o1 : Mk W w g1 n1) (o2 : Mk W w g2 n2) (e12 : g1 ≠ g2) (ha : Blk w ga 62 #[.slice none 0 0, .slice none 0 0, .slice none 0 0] ∧ W.heap.size ≤ ga) (f1 : ga ≠ g1) (f2 : ga ≠ g2) :
    wpAnyH Tryz.prog .any opsL Q (fun w' => Below W.heap.size W w') 4 #[true, true, true, true, true, true, true, false, false, false, true, false] { tmps := #[v0, sl, v2, v3, v4, v5, v6, v7, v8, .pointer (some ⟨ga, 0, none⟩), undef, undef, undef, sl, .int .i64 (n1 : Nat), .slice (some ⟨g1, 0, none⟩) n1 n1, sl, .int .i64 (n2 : Nat), .slice (some ⟨g2, 0, none⟩) n2 n2, sl, undef, undef, undef, undef, undef, undef, undef, undef, undef, undef, undef, undef, undef, undef, undef, undef, undef, undef, undef, undef, undef, undef, undef, undef, undef, undef, undef, undef, undef, undef, undef, undef, undef, undef, undef, undef, undef, undef, undef, undef, undef, undef, undef, undef, undef, undef, undef, undef], defers := [] } w := by
  refine wpAnyH_ready (rs := [7]) (by kernel_rfl) (by simp) ?_
  refine AllReadyH.cons (o := { dst := some 20, op := Op.call { callee := Callee.value (Operand.func 63), args := #[Operand.tmp 19, Operand.const (Value.int IntKind.i64 32)], argTypes := #[36, 3] }, type := 3, pos := "ref.go:154", after := #[{ on := 6, ground := Ground.data }, { on := 4, ground := Ground.chain }], guard := none }) rfl (fun K hK => ?_) AllReadyH.nil
  · skip
    go_simp
    go_at_call 63
    refine (HC.c3 _ hB).mono ?_
    rintro e w1 ⟨rfl, hb1⟩
    have hB1 := below_step hB hb1
    refine hK.out _ _ hB1 (fun _ => ?_)
    clear hK K
    try simp only [List.setIfInBounds_toArray, List.set_cons_zero, List.set_cons_succ]
    exact ld_1111101 hQ hP HC w1 g1 g2 ga hB1 (o1.below hb1) (o2.below hb1) e12 ⟨ha.1.below hb1 ha.1.lt, ha.2⟩ f1 f2
set_option maxRecDepth 100000 in
set_option maxHeartbeats 4000000 in
theorem ld_1110110 (hQ : LoadFin W n1 n2 n3 sl v0 v2 v3 v4 v5 v6 v7 v8 Q) (hP : ∀ c (d : Option Tmp) v a w, Q (.panic c) (a.put d v) w → Q (.panic c) a w) (HC : LoadCalls W sl n1 n2 n3) (w : World) (g1 g3 : Nat) (hB : Below W.heap.size W w) (o1 : Mk W w g1 n1) (o3 : Mk W w g3 n3) (e13 : g1 ≠ g3) :
    wpAnyH Tryz.prog .any opsL Q (fun w' => Below W.heap.size W w') 4 #[true, true, true, true, true, false, true, true, true, false, false, false] { tmps := #[v0, sl, v2, v3, v4, v5, v6, v7, v8, undef, undef, undef, undef, sl, .int .i64 (n1 : Nat), .slice (some ⟨g1, 0, none⟩) n1 n1, sl, .int .i64 (n2 : Nat), undef, sl, .int .i64 (n3 : Nat), .slice (some ⟨g3, 0, none⟩) n3 n3, undef, undef, undef, undef, undef, undef, undef, undef, undef, undef, undef, undef, undef, undef, undef, undef, undef, undef, undef, undef, undef, undef, undef, undef, undef, undef, undef, undef, undef, undef, undef, undef, undef, undef, undef, undef, undef, undef, undef, undef, undef, undef, undef, undef, undef, undef], defers := [] } w := by
  refine wpAnyH_ready (rs := [5, 10]) (by kernel_rfl) (by simp) ?_
  refine AllReadyH.cons (o := { dst := some 18, op := Op.makeSlice 53 (Operand.tmp 17) (Operand.tmp 17), type := 53, pos := "ref.go:154", after := #[{ on := 4, ground := Ground.data }, { on := 4, ground := Ground.data }], guard := none }) rfl (fun K hK => ?_) (AllReadyH.cons (o := { dst := some 9, op := Op.alloc 62, type := 0, pos := "ref.go:154", after := #[], guard := none }) rfl (fun K hK => ?_) AllReadyH.nil)
  · skip
    obtain ⟨i0, hi, hz0, hz1, hz2⟩ := info_parts info_u32
    obtain ⟨w1, hrun, hown, hgr⟩ := run_make_full (P := Tryz.prog) (w := w) W.heap.size 53 83 i0 _ 1 Tryz.underlying53 hi hz0 hz1 .i64 .i64 n2 (by rw [hz2]; have := HC.b2; omega) (by unfold maxLen; have := HC.b2; omega) hB.size
    have hB1 : Below W.heap.size W w1 := hB.grown hgr hB.size (fun _ h => by cases h)
    have hK2 := hK.out
    clear hK
    go_simp
    refine hK2 _ _ hB1 (fun _ => ?_)
    clear hK2 K
    try simp only [List.setIfInBounds_toArray, List.set_cons_zero, List.set_cons_succ]
    exact ld_1111110 hQ hP w1 g1 w.heap.size g3 hB1 (o1.grown hgr) (Mk.make hown) (o3.grown hgr) (Nat.ne_of_lt o1.lt) e13 (Nat.ne_of_gt o3.lt)
  · skip
    go_simp
    have hB1 : Below W.heap.size W (w.alloc (.cells #[.slice none 0 0, .slice none 0 0, .slice none 0 0] 62)) := below_step hB (below1 _ _)
    refine hK.out _ _ hB1 (fun _ => ?_)
    clear hK K
    try simp only [List.setIfInBounds_toArray, List.set_cons_zero, List.set_cons_succ]
    exact ld_1110111 hQ hP HC _ g1 g3 w.heap.size hB1 (o1.alloc _) (o3.alloc _) e13 ⟨Blk.new _ _ _, hB.size⟩ (Nat.ne_of_gt o1.lt) (Nat.ne_of_gt o3.lt)
set_option maxRecDepth 100000 in
set_option maxHeartbeats 4000000 in
theorem ld_1110101 (hQ : LoadFin W n1 n2 n3 sl v0 v2 v3 v4 v5 v6 v7 v8 Q) (hP : ∀ c (d : Option Tmp) v a w, Q (.panic c) (a.put d v) w → Q (.panic c) a w) (HC : LoadCalls W sl n1 n2 n3) (w : World) (g1 ga : Nat) (hB : Below W.heap.size W w) (o1 : Mk W w g1 n1) (ha : Blk w ga 62 #[.slice none 0 0, .slice none 0 0, .slice none 0 0] ∧ W.heap.size ≤ ga) (f1 : ga ≠ g1) :
    wpAnyH Tryz.prog .any opsL Q (fun w' => Below W.heap.size W w') 4 #[true, true, true, true, true, false, true, true, false, false, true, false] { tmps := #[v0, sl, v2, v3, v4, v5, v6, v7, v8, .pointer (some ⟨ga, 0, none⟩), undef, undef, undef, sl, .int .i64 (n1 : Nat), .slice (some ⟨g1, 0, none⟩) n1 n1, sl, .int .i64 (n2 : Nat), undef, sl, .int .i64 (n3 : Nat), undef, undef, undef, undef, undef, undef, undef, undef, undef, undef, undef, undef, undef, undef, undef, undef, undef, undef, undef, undef, undef, undef, undef, undef, undef, undef, undef, undef, undef, undef, undef, undef, undef, undef, undef, undef, undef, undef, undef, undef, undef, undef, undef, undef, undef, undef, undef], defers := [] } w := by
  refine wpAnyH_ready (rs := [5, 8]) (by kernel_rfl) (by simp) ?_
  refine AllReadyH.cons (o := { dst := some 18, op := Op.makeSlice 53 (Operand.tmp 17) (Operand.tmp 17), type := 53, pos := "ref.go:154", after := #[{ on := 4, ground := Ground.data }, { on := 4, ground := Ground.data }], guard := none }) rfl (fun K hK => ?_) (AllReadyH.cons (o := { dst := some 21, op := Op.makeSlice 53 (Operand.tmp 20) (Operand.tmp 20), type := 53, pos := "ref.go:154", after := #[{ on := 7, ground := Ground.data }, { on := 7, ground := Ground.data }], guard := none }) rfl (fun K hK => ?_) AllReadyH.nil)
  · skip
    obtain ⟨i0, hi, hz0, hz1, hz2⟩ := info_parts info_u32
    obtain ⟨w1, hrun, hown, hgr⟩ := run_make_full (P := Tryz.prog) (w := w) W.heap.size 53 83 i0 _ 1 Tryz.underlying53 hi hz0 hz1 .i64 .i64 n2 (by rw [hz2]; have := HC.b2; omega) (by unfold maxLen; have := HC.b2; omega) hB.size
    have hB1 : Below W.heap.size W w1 := hB.grown hgr hB.size (fun _ h => by cases h)
    have hK2 := hK.out
    clear hK
    go_simp
    refine hK2 _ _ hB1 (fun _ => ?_)
    clear hK2 K
    try simp only [List.setIfInBounds_toArray, List.set_cons_zero, List.set_cons_succ]
    exact ld_1111101 hQ hP HC w1 g1 w.heap.size ga hB1 (o1.grown hgr) (Mk.make hown) (Nat.ne_of_lt o1.lt) ⟨ha.1.grown hgr (by simp), ha.2⟩ f1 (Nat.ne_of_lt ha.1.lt)
  · skip
    obtain ⟨i0, hi, hz0, hz1, hz2⟩ := info_parts info_u32
    obtain ⟨w1, hrun, hown, hgr⟩ := run_make_full (P := Tryz.prog) (w := w) W.heap.size 53 83 i0 _ 1 Tryz.underlying53 hi hz0 hz1 .i64 .i64 n3 (by rw [hz2]; have := HC.b3; omega) (by unfold maxLen; have := HC.b3; omega) hB.size
    have hB1 : Below W.heap.size W w1 := hB.grown hgr hB.size (fun _ h => by cases h)
    have hK2 := hK.out
    clear hK
    go_simp
    refine hK2 _ _ hB1 (fun _ => ?_)
    clear hK2 K
    try simp only [List.setIfInBounds_toArray, List.set_cons_zero, List.set_cons_succ]
    exact ld_1110111 hQ hP HC w1 g1 w.heap.size ga hB1 (o1.grown hgr) (Mk.make hown) (Nat.ne_of_lt o1.lt) ⟨ha.1.grown hgr (by simp), ha.2⟩ f1 (Nat.ne_of_lt ha.1.lt)
set_option maxRecDepth 100000 in
set_option maxHeartbeats 4000000 in
theorem ld_1011110 (hQ : LoadFin W n1 n2 n3 sl v0 v2 v3 v4 v5 v6 v7 v8 Q) (hP : ∀ c (d : Option Tmp) v a w, Q (.panic c) (a.put d v) w → Q (.panic c) a w) (HC : LoadCalls W sl n1 n2 n3) (w : World) (g2 g3 : Nat) (hB : Below W.heap.size W w) (o2 : Mk W w g2 n2) (o3 : Mk W w g3 n3) (e23 : g2 ≠ g3) :
    wpAnyH Tryz.prog .any opsL Q (fun w' => Below W.heap.size W w') 4 #[true, true, false, true, true, true, true, true, true, false, false, false] { tmps := #[v0, sl, v2, v3, v4, v5, v6, v7, v8, undef, undef, undef, undef, sl, .int .i64 (n1 : Nat), undef, sl, .int .i64 (n2 : Nat), .slice (some ⟨g2, 0, none⟩) n2 n2, sl, .int .i64 (n3 : Nat), .slice (some ⟨g3, 0, none⟩) n3 n3, undef, undef, undef, undef, undef, undef, undef, undef, undef, undef, undef, undef, undef, undef, undef, undef, undef, undef, undef, undef, undef, undef, undef, undef, undef, undef, undef, undef, undef, undef, undef, undef, undef, undef, undef, undef, undef, undef, undef, undef, undef, undef, undef, undef, undef, undef], defers := [] } w := by
  refine wpAnyH_ready (rs := [2, 10]) (by kernel_rfl) (by simp) ?_
  refine AllReadyH.cons (o := { dst := some 15, op := Op.makeSlice 53 (Operand.tmp 14) (Operand.tmp 14), type := 53, pos := "ref.go:154", after := #[{ on := 1, ground := Ground.data }, { on := 1, ground := Ground.data }], guard := none }) rfl (fun K hK => ?_) (AllReadyH.cons (o := { dst := some 9, op := Op.alloc 62, type := 0, pos := "ref.go:154", after := #[], guard := none }) rfl (fun K hK => ?_) AllReadyH.nil)
  · skip
    obtain ⟨i0, hi, hz0, hz1, hz2⟩ := info_parts info_u32
    obtain ⟨w1, hrun, hown, hgr⟩ := run_make_full (P := Tryz.prog) (w := w) W.heap.size 53 83 i0 _ 1 Tryz.underlying53 hi hz0 hz1 .i64 .i64 n1 (by rw [hz2]; have := HC.b1; omega) (by unfold maxLen; have := HC.b1; omega) hB.size
    have hB1 : Below W.heap.size W w1 := hB.grown hgr hB.size (fun _ h => by cases h)
    have hK2 := hK.out
    clear hK
    go_simp
    refine hK2 _ _ hB1 (fun _ => ?_)
    clear hK2 K
    try simp only [List.setIfInBounds_toArray, List.set_cons_zero, List.set_cons_succ]
    exact ld_1111110 hQ hP w1 w.heap.size g2 g3 hB1 (Mk.make hown) (o2.grown hgr) (o3.grown hgr) (Nat.ne_of_gt o2.lt) (Nat.ne_of_gt o3.lt) e23
  · skip
    go_simp
    have hB1 : Below W.heap.size W (w.alloc (.cells #[.slice none 0 0, .slice none 0 0, .slice none 0 0] 62)) := below_step hB (below1 _ _)
    refine hK.out _ _ hB1 (fun _ => ?_)
    clear hK K
    try simp only [List.setIfInBounds_toArray, List.set_cons_zero, List.set_cons_succ]
    exact ld_1011111 hQ hP HC _ g2 g3 w.heap.size hB1 (o2.alloc _) (o3.alloc _) e23 ⟨Blk.new _ _ _, hB.size⟩ (Nat.ne_of_gt o2.lt) (Nat.ne_of_gt o3.lt)
set_option maxRecDepth 100000 in
set_option maxHeartbeats 4000000 in
theorem ld_1011101 (hQ : LoadFin W n1 n2 n3 sl v0 v2 v3 v4 v5 v6 v7 v8 Q) (hP : ∀ c (d : Option Tmp) v a w, Q (.panic c) (a.put d v) w → Q (.panic c) a w) (HC : LoadCalls W sl n1 n2 n3) (w : World) (g2 ga : Nat) (hB : Below W.heap.size W w) (o2 : Mk W w g2 n2) (ha : Blk w ga 62 #[.slice none 0 0, .slice none 0 0, .slice none 0 0] ∧ W.heap.size ≤ ga) (f2 : ga ≠ g2) :
    wpAnyH Tryz.prog .any opsL Q (fun w' => Below W.heap.size W w') 4 #[true, true, false, true, true, true, true, true, false, false, true, false] { tmps := #[v0, sl, v2, v3, v4, v5, v6, v7, v8, .pointer (some ⟨ga, 0, none⟩), undef, undef, undef, sl, .int .i64 (n1 : Nat), undef, sl, .int .i64 (n2 : Nat), .slice (some ⟨g2, 0, none⟩) n2 n2, sl, .int .i64 (n3 : Nat), undef, undef, undef, undef, undef, undef, undef, undef, undef, undef, undef, undef, undef, undef, undef, undef, undef, undef, undef, undef, undef, undef, undef, undef, undef, undef, undef, undef, undef, undef, undef, undef, undef, undef, undef, undef, undef, undef, undef, undef, undef, undef, undef, undef, undef, undef, undef], defers := [] } w := by
  refine wpAnyH_ready (rs := [2, 8]) (by kernel_rfl) (by simp) ?_
  refine AllReadyH.cons (o := { dst := some 15, op := Op.makeSlice 53 (Operand.tmp 14) (Operand.tmp 14), type := 53, pos := "ref.go:154", after := #[{ on := 1, ground := Ground.data }, { on := 1, ground := Ground.data }], guard := none }) rfl (fun K hK => ?_) (AllReadyH.cons (o := { dst := some 21, op := Op.makeSlice 53 (Operand.tmp 20) (Operand.tmp 20), type := 53, pos := "ref.go:154", after := #[{ on := 7, ground := Ground.data }, { on := 7, ground := Ground.data }], guard := none }) rfl (fun K hK => ?_) AllReadyH.nil)
  · skip
    obtain ⟨i0, hi, hz0, hz1, hz2⟩ := info_parts info_u32
    obtain ⟨w1, hrun, hown, hgr⟩ := run_make_full (P := Tryz.prog) (w := w) W.heap.size 53 83 i0 _ 1 Tryz.underlying53 hi hz0 hz1 .i64 .i64 n1 (by rw [hz2]; have := HC.b1; omega) (by unfold maxLen; have := HC.b1; omega) hB.size
    have hB1 : Below W.heap.size W w1 := hB.grown hgr hB.size (fun _ h => by cases h)
    have hK2 := hK.out
    clear hK
    go_simp
    refine hK2 _ _ hB1 (fun _ => ?_)
    clear hK2 K
    try simp only [List.setIfInBounds_toArray, List.set_cons_zero, List.set_cons_succ]
    exact ld_1111101 hQ hP HC w1 w.heap.size g2 ga hB1 (Mk.make hown) (o2.grown hgr) (Nat.ne_of_gt o2.lt) ⟨ha.1.grown hgr (by simp), ha.2⟩ (Nat.ne_of_lt ha.1.lt) f2
  · skip
    obtain ⟨i0, hi, hz0, hz1, hz2⟩ := info_parts info_u32
    obtain ⟨w1, hrun, hown, hgr⟩ := run_make_full (P := Tryz.prog) (w := w) W.heap.size 53 83 i0 _ 1 Tryz.underlying53 hi hz0 hz1 .i64 .i64 n3 (by rw [hz2]; have := HC.b3; omega) (by unfold maxLen; have := HC.b3; omega) hB.size
    have hB1 : Below W.heap.size W w1 := hB.grown hgr hB.size (fun _ h => by cases h)
    have hK2 := hK.out
    clear hK
    go_simp
    refine hK2 _ _ hB1 (fun _ => ?_)
    clear hK2 K
    try simp only [List.setIfInBounds_toArray, List.set_cons_zero, List.set_cons_succ]
    exact ld_1011111 hQ hP HC w1 g2 w.heap.size ga hB1 (o2.grown hgr) (Mk.make hown) (Nat.ne_of_lt o2.lt) ⟨ha.1.grown hgr (by simp), ha.2⟩ f2 (Nat.ne_of_lt ha.1.lt)
set_option maxRecDepth 100000 in
set_option maxHeartbeats 4000000 in
theorem ld_1010111 (hQ : LoadFin W n1 n2 n3 sl v0 v2 v3 v4 v5 v6 v7 v8 Q) (hP : ∀ c (d : Option Tmp) v a w, Q (.panic c) (a.put d v) w → Q (.panic c) a w) (HC : LoadCalls W sl n1 n2 n3) (w : World) (g3 ga : Nat) (hB : Below W.heap.size W w) (o3 : Mk W w g3 n3) (ha : Blk w ga 62 #[.slice none 0 0, .slice none 0 0, .slice none 0 0] ∧ W.heap.size ≤ ga) (f3 : ga ≠ g3) :
    wpAnyH Tryz.prog .any opsL Q (fun w' => Below W.heap.size W w') 4 #[true, true, false, true, true, false, true, true, true, false, true, false] { tmps := #[v0, sl, v2, v3, v4, v5, v6, v7, v8, .pointer (some ⟨ga, 0, none⟩), undef, undef, undef, sl, .int .i64 (n1 : Nat), undef, sl, .int .i64 (n2 : Nat), undef, sl, .int .i64 (n3 : Nat), .slice (some ⟨g3, 0, none⟩) n3 n3, undef, undef, undef, undef, undef, undef, undef, undef, undef, undef, undef, undef, undef, undef, undef, undef, undef, undef, undef, undef, undef, undef, undef, undef, undef, undef, undef, undef, undef, undef, undef, undef, undef, undef, undef, undef, undef, undef, undef, undef, undef, undef, undef, undef, undef, undef], defers := [] } w := by
  refine wpAnyH_ready (rs := [2, 5]) (by kernel_rfl) (by simp) ?_
  refine AllReadyH.cons (o := { dst := some 15, op := Op.makeSlice 53 (Operand.tmp 14) (Operand.tmp 14), type := 53, pos := "ref.go:154", after := #[{ on := 1, ground := Ground.data }, { on := 1, ground := Ground.data }], guard := none }) rfl (fun K hK => ?_) (AllReadyH.cons (o := { dst := some 18, op := Op.makeSlice 53 (Operand.tmp 17) (Operand.tmp 17), type := 53, pos := "ref.go:154", after := #[{ on := 4, ground := Ground.data }, { on := 4, ground := Ground.data }], guard := none }) rfl (fun K hK => ?_) AllReadyH.nil)
  · skip
    obtain ⟨i0, hi, hz0, hz1, hz2⟩ := info_parts info_u32
    obtain ⟨w1, hrun, hown, hgr⟩ := run_make_full (P := Tryz.prog) (w := w) W.heap.size 53 83 i0 _ 1 Tryz.underlying53 hi hz0 hz1 .i64 .i64 n1 (by rw [hz2]; have := HC.b1; omega) (by unfold maxLen; have := HC.b1; omega) hB.size
    have hB1 : Below W.heap.size W w1 := hB.grown hgr hB.size (fun _ h => by cases h)
    have hK2 := hK.out
    clear hK
    go_simp
    refine hK2 _ _ hB1 (fun _ => ?_)
    clear hK2 K
    try simp only [List.setIfInBounds_toArray, List.set_cons_zero, List.set_cons_succ]
    exact ld_1110111 hQ hP HC w1 w.heap.size g3 ga hB1 (Mk.make hown) (o3.grown hgr) (Nat.ne_of_gt o3.lt) ⟨ha.1.grown hgr (by simp), ha.2⟩ (Nat.ne_of_lt ha.1.lt) f3
  · skip
    obtain ⟨i0, hi, hz0, hz1, hz2⟩ := info_parts info_u32
    obtain ⟨w1, hrun, hown, hgr⟩ := run_make_full (P := Tryz.prog) (w := w) W.heap.size 53 83 i0 _ 1 Tryz.underlying53 hi hz0 hz1 .i64 .i64 n2 (by rw [hz2]; have := HC.b2; omega) (by unfold maxLen; have := HC.b2; omega) hB.size
    have hB1 : Below W.heap.size W w1 := hB.grown hgr hB.size (fun _ h => by cases h)
    have hK2 := hK.out
    clear hK
    go_simp
    refine hK2 _ _ hB1 (fun _ => ?_)
    clear hK2 K
    try simp only [List.setIfInBounds_toArray, List.set_cons_zero, List.set_cons_succ]
    exact ld_1011111 hQ hP HC w1 w.heap.size g3 ga hB1 (Mk.make hown) (o3.grown hgr) (Nat.ne_of_gt o3.lt) ⟨ha.1.grown hgr (by simp), ha.2⟩ (Nat.ne_of_lt ha.1.lt) f3
set_option maxRecDepth 100000 in
set_option maxHeartbeats 4000000 in
theorem ld_1111000 (hQ : LoadFin W n1 n2 n3 sl v0 v2 v3 v4 v5 v6 v7 v8 Q) (hP : ∀ c (d : Option Tmp) v a w, Q (.panic c) (a.put d v) w → Q (.panic c) a w) (HC : LoadCalls W sl n1 n2 n3) (w : World) (g1 g2 : Nat) (hB : Below W.heap.size W w) (o1 : Mk W w g1 n1) (o2 : Mk W w g2 n2) (e12 : g1 ≠ g2) :
    wpAnyH Tryz.prog .any opsL Q (fun w' => Below W.heap.size W w') 5 #[true, true, true, true, true, true, true, false, false, false, false, false] { tmps := #[v0, sl, v2, v3, v4, v5, v6, v7, v8, undef, undef, undef, undef, sl, .int .i64 (n1 : Nat), .slice (some ⟨g1, 0, none⟩) n1 n1, sl, .int .i64 (n2 : Nat), .slice (some ⟨g2, 0, none⟩) n2 n2, sl, undef, undef, undef, undef, undef, undef, undef, undef, undef, undef, undef, undef, undef, undef, undef, undef, undef, undef, undef, undef, undef, undef, undef, undef, undef, undef, undef, undef, undef, undef, undef, undef, undef, undef, undef, undef, undef, undef, undef, undef, undef, undef, undef, undef, undef, undef, undef, undef], defers := [] } w := by
  refine wpAnyH_ready (rs := [7, 10]) (by kernel_rfl) (by simp) ?_
  refine AllReadyH.cons (o := { dst := some 20, op := Op.call { callee := Callee.value (Operand.func 63), args := #[Operand.tmp 19, Operand.const (Value.int IntKind.i64 32)], argTypes := #[36, 3] }, type := 3, pos := "ref.go:154", after := #[{ on := 6, ground := Ground.data }, { on := 4, ground := Ground.chain }], guard := none }) rfl (fun K hK => ?_) (AllReadyH.cons (o := { dst := some 9, op := Op.alloc 62, type := 0, pos := "ref.go:154", after := #[], guard := none }) rfl (fun K hK => ?_) AllReadyH.nil)
  · skip
    go_simp
    go_at_call 63
    refine (HC.c3 _ hB).mono ?_
    rintro e w1 ⟨rfl, hb1⟩
    have hB1 := below_step hB hb1
    refine hK.out _ _ hB1 (fun _ => ?_)
    clear hK K
    try simp only [List.setIfInBounds_toArray, List.set_cons_zero, List.set_cons_succ]
    exact ld_1111100 hQ hP HC w1 g1 g2 hB1 (o1.below hb1) (o2.below hb1) e12
  · skip
    go_simp
    have hB1 : Below W.heap.size W (w.alloc (.cells #[.slice none 0 0, .slice none 0 0, .slice none 0 0] 62)) := below_step hB (below1 _ _)
    refine hK.out _ _ hB1 (fun _ => ?_)
    clear hK K
    try simp only [List.setIfInBounds_toArray, List.set_cons_zero, List.set_cons_succ]
    exact ld_1111001 hQ hP HC _ g1 g2 w.heap.size hB1 (o1.alloc _) (o2.alloc _) e12 ⟨Blk.new _ _ _, hB.size⟩ (Nat.ne_of_gt o1.lt) (Nat.ne_of_gt o2.lt)
set_option maxRecDepth 100000 in
set_option maxHeartbeats 4000000 in
theorem ld_1110100 (hQ : LoadFin W n1 n2 n3 sl v0 v2 v3 v4 v5 v6 v7 v8 Q) (hP : ∀ c (d : Option Tmp) v a w, Q (.panic c) (a.put d v) w → Q (.panic c) a w) (HC : LoadCalls W sl n1 n2 n3) (w : World) (g1 : Nat) (hB : Below W.heap.size W w) (o1 : Mk W w g1 n1) :
    wpAnyH Tryz.prog .any opsL Q (fun w' => Below W.heap.size W w') 5 #[true, true, true, true, true, false, true, true, false, false, false, false] { tmps := #[v0, sl, v2, v3, v4, v5, v6, v7, v8, undef, undef, undef, undef, sl, .int .i64 (n1 : Nat), .slice (some ⟨g1, 0, none⟩) n1 n1, sl, .int .i64 (n2 : Nat), undef, sl, .int .i64 (n3 : Nat), undef, undef, undef, undef, undef, undef, undef, undef, undef, undef, undef, undef, undef, undef, undef, undef, undef, undef, undef, undef, undef, undef, undef, undef, undef, undef, undef, undef, undef, undef, undef, undef, undef, undef, undef, undef, undef, undef, undef, undef, undef, undef, undef, undef, undef, undef, undef], defers := [] } w := by
  refine wpAnyH_ready (rs := [5, 8, 10]) (by kernel_rfl) (by simp) ?_
  refine AllReadyH.cons (o := { dst := some 18, op := Op.makeSlice 53 (Operand.tmp 17) (Operand.tmp 17), type := 53, pos := "ref.go:154", after := #[{ on := 4, ground := Ground.data }, { on := 4, ground := Ground.data }], guard := none }) rfl (fun K hK => ?_) (AllReadyH.cons (o := { dst := some 21, op := Op.makeSlice 53 (Operand.tmp 20) (Operand.tmp 20), type := 53, pos := "ref.go:154", after := #[{ on := 7, ground := Ground.data }, { on := 7, ground := Ground.data }], guard := none }) rfl (fun K hK => ?_) (AllReadyH.cons (o := { dst := some 9, op := Op.alloc 62, type := 0, pos := "ref.go:154", after := #[], guard := none }) rfl (fun K hK => ?_) AllReadyH.nil))
  · skip
    obtain ⟨i0, hi, hz0, hz1, hz2⟩ := info_parts info_u32
    obtain ⟨w1, hrun, hown, hgr⟩ := run_make_full (P := Tryz.prog) (w := w) W.heap.size 53 83 i0 _ 1 Tryz.underlying53 hi hz0 hz1 .i64 .i64 n2 (by rw [hz2]; have := HC.b2; omega) (by unfold maxLen; have := HC.b2; omega) hB.size
    have hB1 : Below W.heap.size W w1 := hB.grown hgr hB.size (fun _ h => by cases h)
    have hK2 := hK.out
    clear hK
    go_simp
    refine hK2 _ _ hB1 (fun _ => ?_)
    clear hK2 K
    try simp only [List.setIfInBounds_toArray, List.set_cons_zero, List.set_cons_succ]
    exact ld_1111100 hQ hP HC w1 g1 w.heap.size hB1 (o1.grown hgr) (Mk.make hown) (Nat.ne_of_lt o1.lt)
  · skip
    obtain ⟨i0, hi, hz0, hz1, hz2⟩ := info_parts info_u32
    obtain ⟨w1, hrun, hown, hgr⟩ := run_make_full (P := Tryz.prog) (w := w) W.heap.size 53 83 i0 _ 1 Tryz.underlying53 hi hz0 hz1 .i64 .i64 n3 (by rw [hz2]; have := HC.b3; omega) (by unfold maxLen; have := HC.b3; omega) hB.size
    have hB1 : Below W.heap.size W w1 := hB.grown hgr hB.size (fun _ h => by cases h)
    have hK2 := hK.out
    clear hK
    go_simp
    refine hK2 _ _ hB1 (fun _ => ?_)
    clear hK2 K
    try simp only [List.setIfInBounds_toArray, List.set_cons_zero, List.set_cons_succ]
    exact ld_1110110 hQ hP HC w1 g1 w.heap.size hB1 (o1.grown hgr) (Mk.make hown) (Nat.ne_of_lt o1.lt)
  · skip
    go_simp
    have hB1 : Below W.heap.size W (w.alloc (.cells #[.slice none 0 0, .slice none 0 0, .slice none 0 0] 62)) := below_step hB (below1 _ _)
    refine hK.out _ _ hB1 (fun _ => ?_)
    clear hK K
    try simp only [List.setIfInBounds_toArray, List.set_cons_zero, List.set_cons_succ]
    exact ld_1110101 hQ hP HC _ g1 w.heap.size hB1 (o1.alloc _) ⟨Blk.new _ _ _, hB.size⟩ (Nat.ne_of_gt o1.lt)
set_option maxRecDepth 100000 in
set_option maxHeartbeats 4000000 in
theorem ld_1110001 (hQ : LoadFin W n1 n2 n3 sl v0 v2 v3 v4 v5 v6 v7 v8 Q) (hP : ∀ c (d : Option Tmp) v a w, Q (.panic c) (a.put d v) w → Q (.panic c) a w) (HC : LoadCalls W sl n1 n2 n3) (w : World) (g1 ga : Nat) (hB : Below W.heap.size W w) (o1 : Mk W w g1 n1) (ha : Blk w ga 62 #[.slice none 0 0, .slice none 0 0, .slice none 0 0] ∧ W.heap.size ≤ ga) (f1 : ga ≠ g1) :
    wpAnyH Tryz.prog .any opsL Q (fun w' => Below W.heap.size W w') 5 #[true, true, true, true, true, false, true, false, false, false, true, false] { tmps := #[v0, sl, v2, v3, v4, v5, v6, v7, v8, .pointer (some ⟨ga, 0, none⟩), undef, undef, undef, sl, .int .i64 (n1 : Nat), .slice (some ⟨g1, 0, none⟩) n1 n1, sl, .int .i64 (n2 : Nat), undef, sl, undef, undef, undef, undef, undef, undef, undef, undef, undef, undef, undef, undef, undef, undef, undef, undef, undef, undef, undef, undef, undef, undef, undef, undef, undef, undef, undef, undef, undef, undef, undef, undef, undef, undef, undef, undef, undef, undef, undef, undef, undef, undef, undef, undef, undef, undef, undef, undef], defers := [] } w := by
  refine wpAnyH_ready (rs := [5, 7]) (by kernel_rfl) (by simp) ?_
  refine AllReadyH.cons (o := { dst := some 18, op := Op.makeSlice 53 (Operand.tmp 17) (Operand.tmp 17), type := 53, pos := "ref.go:154", after := #[{ on := 4, ground := Ground.data }, { on := 4, ground := Ground.data }], guard := none }) rfl (fun K hK => ?_) (AllReadyH.cons (o := { dst := some 20, op := Op.call { callee := Callee.value (Operand.func 63), args := #[Operand.tmp 19, Operand.const (Value.int IntKind.i64 32)], argTypes := #[36, 3] }, type := 3, pos := "ref.go:154", after := #[{ on := 6, ground := Ground.data }, { on := 4, ground := Ground.chain }], guard := none }) rfl (fun K hK => ?_) AllReadyH.nil)
  · skip
    obtain ⟨i0, hi, hz0, hz1, hz2⟩ := info_parts info_u32
    obtain ⟨w1, hrun, hown, hgr⟩ := run_make_full (P := Tryz.prog) (w := w) W.heap.size 53 83 i0 _ 1 Tryz.underlying53 hi hz0 hz1 .i64 .i64 n2 (by rw [hz2]; have := HC.b2; omega) (by unfold maxLen; have := HC.b2; omega) hB.size
    have hB1 : Below W.heap.size W w1 := hB.grown hgr hB.size (fun _ h => by cases h)
    have hK2 := hK.out
    clear hK
    go_simp
    refine hK2 _ _ hB1 (fun _ => ?_)
    clear hK2 K
    try simp only [List.setIfInBounds_toArray, List.set_cons_zero, List.set_cons_succ]
    exact ld_1111001 hQ hP HC w1 g1 w.heap.size ga hB1 (o1.grown hgr) (Mk.make hown) (Nat.ne_of_lt o1.lt) ⟨ha.1.grown hgr (by simp), ha.2⟩ f1 (Nat.ne_of_lt ha.1.lt)
  · skip
    go_simp
    go_at_call 63
    refine (HC.c3 _ hB).mono ?_
    rintro e w1 ⟨rfl, hb1⟩
    have hB1 := below_step hB hb1
    refine hK.out _ _ hB1 (fun _ => ?_)
    clear hK K
    try simp only [List.setIfInBounds_toArray, List.set_cons_zero, List.set_cons_succ]
    exact ld_1110101 hQ hP HC w1 g1 ga hB1 (o1.below hb1) ⟨ha.1.below hb1 ha.1.lt, ha.2⟩ f1
set_option maxRecDepth 100000 in
set_option maxHeartbeats 4000000 in
theorem ld_1011100 (hQ : LoadFin W n1 n2 n3 sl v0 v2 v3 v4 v5 v6 v7 v8 Q) (hP : ∀ c (d : Option Tmp) v a w, Q (.panic c) (a.put d v) w → Q (.panic c) a w) (HC : LoadCalls W sl n1 n2 n3) (w : World) (g2 : Nat) (hB : Below W.heap.size W w) (o2 : Mk W w g2 n2) :
    wpAnyH Tryz.prog .any opsL Q (fun w' => Below W.heap.size W w') 5 #[true, true, false, true, true, true, true, true, false, false, false, false] { tmps := #[v0, sl, v2, v3, v4, v5, v6, v7, v8, undef, undef, undef, undef, sl, .int .i64 (n1 : Nat), undef, sl, .int .i64 (n2 : Nat), .slice (some ⟨g2, 0, none⟩) n2 n2, sl, .int .i64 (n3 : Nat), undef, undef, undef, undef, undef, undef, undef, undef, undef, undef, undef, undef, undef, undef, undef, undef, undef, undef, undef, undef, undef, undef, undef, undef, undef, undef, undef, undef, undef, undef, undef, undef, undef, undef, undef, undef, undef, undef, undef, undef, undef, undef, undef, undef, undef, undef, undef], defers := [] } w := by
  refine wpAnyH_ready (rs := [2, 8, 10]) (by kernel_rfl) (by simp) ?_
  refine AllReadyH.cons (o := { dst := some 15, op := Op.makeSlice 53 (Operand.tmp 14) (Operand.tmp 14), type := 53, pos := "ref.go:154", after := #[{ on := 1, ground := Ground.data }, { on := 1, ground := Ground.data }], guard := none }) rfl (fun K hK => ?_) (AllReadyH.cons (o := { dst := some 21, op := Op.makeSlice 53 (Operand.tmp 20) (Operand.tmp 20), type := 53, pos := "ref.go:154", after := #[{ on := 7, ground := Ground.data }, { on := 7, ground := Ground.data }], guard := none }) rfl (fun K hK => ?_) (AllReadyH.cons (o := { dst := some 9, op := Op.alloc 62, type := 0, pos := "ref.go:154", after := #[], guard := none }) rfl (fun K hK => ?_) AllReadyH.nil))
  · skip
    obtain ⟨i0, hi, hz0, hz1, hz2⟩ := info_parts info_u32
    obtain ⟨w1, hrun, hown, hgr⟩ := run_make_full (P := Tryz.prog) (w := w) W.heap.size 53 83 i0 _ 1 Tryz.underlying53 hi hz0 hz1 .i64 .i64 n1 (by rw [hz2]; have := HC.b1; omega) (by unfold maxLen; have := HC.b1; omega) hB.size
    have hB1 : Below W.heap.size W w1 := hB.grown hgr hB.size (fun _ h => by cases h)
    have hK2 := hK.out
    clear hK
    go_simp
    refine hK2 _ _ hB1 (fun _ => ?_)
    clear hK2 K
    try simp only [List.setIfInBounds_toArray, List.set_cons_zero, List.set_cons_succ]
    exact ld_1111100 hQ hP HC w1 w.heap.size g2 hB1 (Mk.make hown) (o2.grown hgr) (Nat.ne_of_gt o2.lt)
  · skip
    obtain ⟨i0, hi, hz0, hz1, hz2⟩ := info_parts info_u32
    obtain ⟨w1, hrun, hown, hgr⟩ := run_make_full (P := Tryz.prog) (w := w) W.heap.size 53 83 i0 _ 1 Tryz.underlying53 hi hz0 hz1 .i64 .i64 n3 (by rw [hz2]; have := HC.b3; omega) (by unfold maxLen; have := HC.b3; omega) hB.size
    have hB1 : Below W.heap.size W w1 := hB.grown hgr hB.size (fun _ h => by cases h)
    have hK2 := hK.out
    clear hK
    go_simp
    refine hK2 _ _ hB1 (fun _ => ?_)
    clear hK2 K
    try simp only [List.setIfInBounds_toArray, List.set_cons_zero, List.set_cons_succ]
    exact ld_1011110 hQ hP HC w1 g2 w.heap.size hB1 (o2.grown hgr) (Mk.make hown) (Nat.ne_of_lt o2.lt)
  · skip
    go_simp
    have hB1 : Below W.heap.size W (w.alloc (.cells #[.slice none 0 0, .slice none 0 0, .slice none 0 0] 62)) := below_step hB (below1 _ _)
    refine hK.out _ _ hB1 (fun _ => ?_)
    clear hK K
    try simp only [List.setIfInBounds_toArray, List.set_cons_zero, List.set_cons_succ]
    exact ld_1011101 hQ hP HC _ g2 w.heap.size hB1 (o2.alloc _) ⟨Blk.new _ _ _, hB.size⟩ (Nat.ne_of_gt o2.lt)
set_option maxRecDepth 100000 in
set_option maxHeartbeats 4000000 in
theorem ld_1011001 (hQ : LoadFin W n1 n2 n3 sl v0 v2 v3 v4 v5 v6 v7 v8 Q) (hP : ∀ c (d : Option Tmp) v a w, Q (.panic c) (a.put d v) w → Q (.panic c) a w) (HC : LoadCalls W sl n1 n2 n3) (w : World) (g2 ga : Nat) (hB : Below W.heap.size W w) (o2 : Mk W w g2 n2) (ha : Blk w ga 62 #[.slice none 0 0, .slice none 0 0, .slice none 0 0] ∧ W.heap.size ≤ ga) (f2 : ga ≠ g2) :
    wpAnyH Tryz.prog .any opsL Q (fun w' => Below W.heap.size W w') 5 #[true, true, false, true, true, true, true, false, false, false, true, false] { tmps := #[v0, sl, v2, v3, v4, v5, v6, v7, v8, .pointer (some ⟨ga, 0, none⟩), undef, undef, undef, sl, .int .i64 (n1 : Nat), undef, sl, .int .i64 (n2 : Nat), .slice (some ⟨g2, 0, none⟩) n2 n2, sl, undef, undef, undef, undef, undef, undef, undef, undef, undef, undef, undef, undef, undef, undef, undef, undef, undef, undef, undef, undef, undef, undef, undef, undef, undef, undef, undef, undef, undef, undef, undef, undef, undef, undef, undef, undef, undef, undef, undef, undef, undef, undef, undef, undef, undef, undef, undef, undef], defers := [] } w := by
  refine wpAnyH_ready (rs := [2, 7]) (by kernel_rfl) (by simp) ?_
  refine AllReadyH.cons (o := { dst := some 15, op := Op.makeSlice 53 (Operand.tmp 14) (Operand.tmp 14), type := 53, pos := "ref.go:154", after := #[{ on := 1, ground := Ground.data }, { on := 1, ground := Ground.data }], guard := none }) rfl (fun K hK => ?_) (AllReadyH.cons (o := { dst := some 20, op := Op.call { callee := Callee.value (Operand.func 63), args := #[Operand.tmp 19, Operand.const (Value.int IntKind.i64 32)], argTypes := #[36, 3] }, type := 3, pos := "ref.go:154", after := #[{ on := 6, ground := Ground.data }, { on := 4, ground := Ground.chain }], guard := none }) rfl (fun K hK => ?_) AllReadyH.nil)
  · skip
    obtain ⟨i0, hi, hz0, hz1, hz2⟩ := info_parts info_u32
    obtain ⟨w1, hrun, hown, hgr⟩ := run_make_full (P := Tryz.prog) (w := w) W.heap.size 53 83 i0 _ 1 Tryz.underlying53 hi hz0 hz1 .i64 .i64 n1 (by rw [hz2]; have := HC.b1; omega) (by unfold maxLen; have := HC.b1; omega) hB.size
    have hB1 : Below W.heap.size W w1 := hB.grown hgr hB.size (fun _ h => by cases h)
    have hK2 := hK.out
    clear hK
    go_simp
    refine hK2 _ _ hB1 (fun _ => ?_)
    clear hK2 K
    try simp only [List.setIfInBounds_toArray, List.set_cons_zero, List.set_cons_succ]
    exact ld_1111001 hQ hP HC w1 w.heap.size g2 ga hB1 (Mk.make hown) (o2.grown hgr) (Nat.ne_of_gt o2.lt) ⟨ha.1.grown hgr (by simp), ha.2⟩ (Nat.ne_of_lt ha.1.lt) f2
  · skip
    go_simp
    go_at_call 63
    refine (HC.c3 _ hB).mono ?_
    rintro e w1 ⟨rfl, hb1⟩
    have hB1 := below_step hB hb1
    refine hK.out _ _ hB1 (fun _ => ?_)
    clear hK K
    try simp only [List.setIfInBounds_toArray, List.set_cons_zero, List.set_cons_succ]
    exact ld_1011101 hQ hP HC w1 g2 ga hB1 (o2.below hb1) ⟨ha.1.below hb1 ha.1.lt, ha.2⟩ f2
set_option maxRecDepth 100000 in
set_option maxHeartbeats 4000000 in
theorem ld_1010110 (hQ : LoadFin W n1 n2 n3 sl v0 v2 v3 v4 v5 v6 v7 v8 Q) (hP : ∀ c (d : Option Tmp) v a w, Q (.panic c) (a.put d v) w → Q (.panic c) a w) (HC : LoadCalls W sl n1 n2 n3) (w : World) (g3 : Nat) (hB : Below W.heap.size W w) (o3 : Mk W w g3 n3) :
    wpAnyH Tryz.prog .any opsL Q (fun w' => Below W.heap.size W w') 5 #[true, true, false, true, true, false, true, true, true, false, false, false] { tmps := #[v0, sl, v2, v3, v4, v5, v6, v7, v8, undef, undef, undef, undef, sl, .int .i64 (n1 : Nat), undef, sl, .int .i64 (n2 : Nat), undef, sl, .int .i64 (n3 : Nat), .slice (some ⟨g3, 0, none⟩) n3 n3, undef, undef, undef, undef, undef, undef, undef, undef, undef, undef, undef, undef, undef, undef, undef, undef, undef, undef, undef, undef, undef, undef, undef, undef, undef, undef, undef, undef, undef, undef, undef, undef, undef, undef, undef, undef, undef, undef, undef, undef, undef, undef, undef, undef, undef, undef], defers := [] } w := by
  refine wpAnyH_ready (rs := [2, 5, 10]) (by kernel_rfl) (by simp) ?_
  refine AllReadyH.cons (o := { dst := some 15, op := Op.makeSlice 53 (Operand.tmp 14) (Operand.tmp 14), type := 53, pos := "ref.go:154", after := #[{ on := 1, ground := Ground.data }, { on := 1, ground := Ground.data }], guard := none }) rfl (fun K hK => ?_) (AllReadyH.cons (o := { dst := some 18, op := Op.makeSlice 53 (Operand.tmp 17) (Operand.tmp 17), type := 53, pos := "ref.go:154", after := #[{ on := 4, ground := Ground.data }, { on := 4, ground := Ground.data }], guard := none }) rfl (fun K hK => ?_) (AllReadyH.cons (o := { dst := some 9, op := Op.alloc 62, type := 0, pos := "ref.go:154", after := #[], guard := none }) rfl (fun K hK => ?_) AllReadyH.nil))
  · skip
    obtain ⟨i0, hi, hz0, hz1, hz2⟩ := info_parts info_u32
    obtain ⟨w1, hrun, hown, hgr⟩ := run_make_full (P := Tryz.prog) (w := w) W.heap.size 53 83 i0 _ 1 Tryz.underlying53 hi hz0 hz1 .i64 .i64 n1 (by rw [hz2]; have := HC.b1; omega) (by unfold maxLen; have := HC.b1; omega) hB.size
    have hB1 : Below W.heap.size W w1 := hB.grown hgr hB.size (fun _ h => by cases h)
    have hK2 := hK.out
    clear hK
    go_simp
    refine hK2 _ _ hB1 (fun _ => ?_)
    clear hK2 K
    try simp only [List.setIfInBounds_toArray, List.set_cons_zero, List.set_cons_succ]
    exact ld_1110110 hQ hP HC w1 w.heap.size g3 hB1 (Mk.make hown) (o3.grown hgr) (Nat.ne_of_gt o3.lt)
  · skip
    obtain ⟨i0, hi, hz0, hz1, hz2⟩ := info_parts info_u32
    obtain ⟨w1, hrun, hown, hgr⟩ := run_make_full (P := Tryz.prog) (w := w) W.heap.size 53 83 i0 _ 1 Tryz.underlying53 hi hz0 hz1 .i64 .i64 n2 (by rw [hz2]; have := HC.b2; omega) (by unfold maxLen; have := HC.b2; omega) hB.size
    have hB1 : Below W.heap.size W w1 := hB.grown hgr hB.size (fun _ h => by cases h)
    have hK2 := hK.out
    clear hK
    go_simp
    refine hK2 _ _ hB1 (fun _ => ?_)
    clear hK2 K
    try simp only [List.setIfInBounds_toArray, List.set_cons_zero, List.set_cons_succ]
    exact ld_1011110 hQ hP HC w1 w.heap.size g3 hB1 (Mk.make hown) (o3.grown hgr) (Nat.ne_of_gt o3.lt)
  · skip
    go_simp
    have hB1 : Below W.heap.size W (w.alloc (.cells #[.slice none 0 0, .slice none 0 0, .slice none 0 0] 62)) := below_step hB (below1 _ _)
    refine hK.out _ _ hB1 (fun _ => ?_)
    clear hK K
    try simp only [List.setIfInBounds_toArray, List.set_cons_zero, List.set_cons_succ]
    exact ld_1010111 hQ hP HC _ g3 w.heap.size hB1 (o3.alloc _) ⟨Blk.new _ _ _, hB.size⟩ (Nat.ne_of_gt o3.lt)
set_option maxRecDepth 100000 in
set_option maxHeartbeats 4000000 in
theorem ld_1010101 (hQ : LoadFin W n1 n2 n3 sl v0 v2 v3 v4 v5 v6 v7 v8 Q) (hP : ∀ c (d : Option Tmp) v a w, Q (.panic c) (a.put d v) w → Q (.panic c) a w) (HC : LoadCalls W sl n1 n2 n3) (w : World) (ga : Nat) (hB : Below W.heap.size W w) (ha : Blk w ga 62 #[.slice none 0 0, .slice none 0 0, .slice none 0 0] ∧ W.heap.size ≤ ga) :
    wpAnyH Tryz.prog .any opsL Q (fun w' => Below W.heap.size W w') 5 #[true, true, false, true, true, false, true, true, false, false, true, false] { tmps := #[v0, sl, v2, v3, v4, v5, v6, v7, v8, .pointer (some ⟨ga, 0, none⟩), undef, undef, undef, sl, .int .i64 (n1 : Nat), undef, sl, .int .i64 (n2 : Nat), undef, sl, .int .i64 (n3 : Nat), undef, undef, undef, undef, undef, undef, undef, undef, undef, undef, undef, undef, undef, undef, undef, undef, undef, undef, undef, undef, undef, undef, undef, undef, undef, undef, undef, undef, undef, undef, undef, undef, undef, undef, undef, undef, undef, undef, undef, undef, undef, undef, undef, undef, undef, undef, undef], defers := [] } w := by
  refine wpAnyH_ready (rs := [2, 5, 8]) (by kernel_rfl) (by simp) ?_
  refine AllReadyH.cons (o := { dst := some 15, op := Op.makeSlice 53 (Operand.tmp 14) (Operand.tmp 14), type := 53, pos := "ref.go:154", after := #[{ on := 1, ground := Ground.data }, { on := 1, ground := Ground.data }], guard := none }) rfl (fun K hK => ?_) (AllReadyH.cons (o := { dst := some 18, op := Op.makeSlice 53 (Operand.tmp 17) (Operand.tmp 17), type := 53, pos := "ref.go:154", after := #[{ on := 4, ground := Ground.data }, { on := 4, ground := Ground.data }], guard := none }) rfl (fun K hK => ?_) (AllReadyH.cons (o := { dst := some 21, op := Op.makeSlice 53 (Operand.tmp 20) (Operand.tmp 20), type := 53, pos := "ref.go:154", after := #[{ on := 7, ground := Ground.data }, { on := 7, ground := Ground.data }], guard := none }) rfl (fun K hK => ?_) AllReadyH.nil))
  · skip
    obtain ⟨i0, hi, hz0, hz1, hz2⟩ := info_parts info_u32
    obtain ⟨w1, hrun, hown, hgr⟩ := run_make_full (P := Tryz.prog) (w := w) W.heap.size 53 83 i0 _ 1 Tryz.underlying53 hi hz0 hz1 .i64 .i64 n1 (by rw [hz2]; have := HC.b1; omega) (by unfold maxLen; have := HC.b1; omega) hB.size
    have hB1 : Below W.heap.size W w1 := hB.grown hgr hB.size (fun _ h => by cases h)
    have hK2 := hK.out
    clear hK
    go_simp
    refine hK2 _ _ hB1 (fun _ => ?_)
    clear hK2 K
    try simp only [List.setIfInBounds_toArray, List.set_cons_zero, List.set_cons_succ]
    exact ld_1110101 hQ hP HC w1 w.heap.size ga hB1 (Mk.make hown) ⟨ha.1.grown hgr (by simp), ha.2⟩ (Nat.ne_of_lt ha.1.lt)
  · skip
    obtain ⟨i0, hi, hz0, hz1, hz2⟩ := info_parts info_u32
    obtain ⟨w1, hrun, hown, hgr⟩ := run_make_full (P := Tryz.prog) (w := w) W.heap.size 53 83 i0 _ 1 Tryz.underlying53 hi hz0 hz1 .i64 .i64 n2 (by rw [hz2]; have := HC.b2; omega) (by unfold maxLen; have := HC.b2; omega) hB.size
    have hB1 : Below W.heap.size W w1 := hB.grown hgr hB.size (fun _ h => by cases h)
    have hK2 := hK.out
    clear hK
    go_simp
    refine hK2 _ _ hB1 (fun _ => ?_)
    clear hK2 K
    try simp only [List.setIfInBounds_toArray, List.set_cons_zero, List.set_cons_succ]
    exact ld_1011101 hQ hP HC w1 w.heap.size ga hB1 (Mk.make hown) ⟨ha.1.grown hgr (by simp), ha.2⟩ (Nat.ne_of_lt ha.1.lt)
  · skip
    obtain ⟨i0, hi, hz0, hz1, hz2⟩ := info_parts info_u32
    obtain ⟨w1, hrun, hown, hgr⟩ := run_make_full (P := Tryz.prog) (w := w) W.heap.size 53 83 i0 _ 1 Tryz.underlying53 hi hz0 hz1 .i64 .i64 n3 (by rw [hz2]; have := HC.b3; omega) (by unfold maxLen; have := HC.b3; omega) hB.size
    have hB1 : Below W.heap.size W w1 := hB.grown hgr hB.size (fun _ h => by cases h)
    have hK2 := hK.out
    clear hK
    go_simp
    refine hK2 _ _ hB1 (fun _ => ?_)
    clear hK2 K
    try simp only [List.setIfInBounds_toArray, List.set_cons_zero, List.set_cons_succ]
    exact ld_1010111 hQ hP HC w1 w.heap.size ga hB1 (Mk.make hown) ⟨ha.1.grown hgr (by simp), ha.2⟩ (Nat.ne_of_lt ha.1.lt)
set_option maxRecDepth 100000 in
set_option maxHeartbeats 4000000 in
theorem ld_1110000 (hQ : LoadFin W n1 n2 n3 sl v0 v2 v3 v4 v5 v6 v7 v8 Q) (hP : ∀ c (d : Option Tmp) v a w, Q (.panic c) (a.put d v) w → Q (.panic c) a w) (HC : LoadCalls W sl n1 n2 n3) (w : World) (g1 : Nat) (hB : Below W.heap.size W w) (o1 : Mk W w g1 n1) :
    wpAnyH Tryz.prog .any opsL Q (fun w' => Below W.heap.size W w') 6 #[true, true, true, true, true, false, true, false, false, false, false, false] { tmps := #[v0, sl, v2, v3, v4, v5, v6, v7, v8, undef, undef, undef, undef, sl, .int .i64 (n1 : Nat), .slice (some ⟨g1, 0, none⟩) n1 n1, sl, .int .i64 (n2 : Nat), undef, sl, undef, undef, undef, undef, undef, undef, undef, undef, undef, undef, undef, undef, undef, undef, undef, undef, undef, undef, undef, undef, undef, undef, undef, undef, undef, undef, undef, undef, undef, undef, undef, undef, undef, undef, undef, undef, undef, undef, undef, undef, undef, undef, undef, undef, undef, undef, undef, undef], defers := [] } w := by
  refine wpAnyH_ready (rs := [5, 7, 10]) (by kernel_rfl) (by simp) ?_
  refine AllReadyH.cons (o := { dst := some 18, op := Op.makeSlice 53 (Operand.tmp 17) (Operand.tmp 17), type := 53, pos := "ref.go:154", after := #[{ on := 4, ground := Ground.data }, { on := 4, ground := Ground.data }], guard := none }) rfl (fun K hK => ?_) (AllReadyH.cons (o := { dst := some 20, op := Op.call { callee := Callee.value (Operand.func 63), args := #[Operand.tmp 19, Operand.const (Value.int IntKind.i64 32)], argTypes := #[36, 3] }, type := 3, pos := "ref.go:154", after := #[{ on := 6, ground := Ground.data }, { on := 4, ground := Ground.chain }], guard := none }) rfl (fun K hK => ?_) (AllReadyH.cons (o := { dst := some 9, op := Op.alloc 62, type := 0, pos := "ref.go:154", after := #[], guard := none }) rfl (fun K hK => ?_) AllReadyH.nil))
  · skip
    obtain ⟨i0, hi, hz0, hz1, hz2⟩ := info_parts info_u32
    obtain ⟨w1, hrun, hown, hgr⟩ := run_make_full (P := Tryz.prog) (w := w) W.heap.size 53 83 i0 _ 1 Tryz.underlying53 hi hz0 hz1 .i64 .i64 n2 (by rw [hz2]; have := HC.b2; omega) (by unfold maxLen; have := HC.b2; omega) hB.size
    have hB1 : Below W.heap.size W w1 := hB.grown hgr hB.size (fun _ h => by cases h)
    have hK2 := hK.out
    clear hK
    go_simp
    refine hK2 _ _ hB1 (fun _ => ?_)
    clear hK2 K
    try simp only [List.setIfInBounds_toArray, List.set_cons_zero, List.set_cons_succ]
    exact ld_1111000 hQ hP HC w1 g1 w.heap.size hB1 (o1.grown hgr) (Mk.make hown) (Nat.ne_of_lt o1.lt)
  · skip
    go_simp
    go_at_call 63
    refine (HC.c3 _ hB).mono ?_
    rintro e w1 ⟨rfl, hb1⟩
    have hB1 := below_step hB hb1
    refine hK.out _ _ hB1 (fun _ => ?_)
    clear hK K
    try simp only [List.setIfInBounds_toArray, List.set_cons_zero, List.set_cons_succ]
    exact ld_1110100 hQ hP HC w1 g1 hB1 (o1.below hb1)
  · skip
    go_simp
    have hB1 : Below W.heap.size W (w.alloc (.cells #[.slice none 0 0, .slice none 0 0, .slice none 0 0] 62)) := below_step hB (below1 _ _)
    refine hK.out _ _ hB1 (fun _ => ?_)
    clear hK K
    try simp only [List.setIfInBounds_toArray, List.set_cons_zero, List.set_cons_succ]
    exact ld_1110001 hQ hP HC _ g1 w.heap.size hB1 (o1.alloc _) ⟨Blk.new _ _ _, hB.size⟩ (Nat.ne_of_gt o1.lt)
set_option maxRecDepth 100000 in
set_option maxHeartbeats 4000000 in
theorem ld_1100001 (hQ : LoadFin W n1 n2 n3 sl v0 v2 v3 v4 v5 v6 v7 v8 Q) (hP : ∀ c (d : Option Tmp) v a w, Q (.panic c) (a.put d v) w → Q (.panic c) a w) (HC : LoadCalls W sl n1 n2 n3) (w : World) (g1 ga : Nat) (hB : Below W.heap.size W w) (o1 : Mk W w g1 n1) (ha : Blk w ga 62 #[.slice none 0 0, .slice none 0 0, .slice none 0 0] ∧ W.heap.size ≤ ga) (f1 : ga ≠ g1) :
    wpAnyH Tryz.prog .any opsL Q (fun w' => Below W.heap.size W w') 6 #[true, true, true, true, false, false, true, false, false, false, true, false] { tmps := #[v0, sl, v2, v3, v4, v5, v6, v7, v8, .pointer (some ⟨ga, 0, none⟩), undef, undef, undef, sl, .int .i64 (n1 : Nat), .slice (some ⟨g1, 0, none⟩) n1 n1, sl, undef, undef, sl, undef, undef, undef, undef, undef, undef, undef, undef, undef, undef, undef, undef, undef, undef, undef, undef, undef, undef, undef, undef, undef, undef, undef, undef, undef, undef, undef, undef, undef, undef, undef, undef, undef, undef, undef, undef, undef, undef, undef, undef, undef, undef, undef, undef, undef, undef, undef, undef], defers := [] } w := by
  refine wpAnyH_ready (rs := [4]) (by kernel_rfl) (by simp) ?_
  refine AllReadyH.cons (o := { dst := some 17, op := Op.call { callee := Callee.value (Operand.func 63), args := #[Operand.tmp 16, Operand.const (Value.int IntKind.i64 16)], argTypes := #[36, 3] }, type := 3, pos := "ref.go:154", after := #[{ on := 3, ground := Ground.data }, { on := 1, ground := Ground.chain }], guard := none }) rfl (fun K hK => ?_) AllReadyH.nil
  · skip
    go_simp
    go_at_call 63
    refine (HC.c2 _ hB).mono ?_
    rintro e w1 ⟨rfl, hb1⟩
    have hB1 := below_step hB hb1
    refine hK.out _ _ hB1 (fun _ => ?_)
    clear hK K
    try simp only [List.setIfInBounds_toArray, List.set_cons_zero, List.set_cons_succ]
    exact ld_1110001 hQ hP HC w1 g1 ga hB1 (o1.below hb1) ⟨ha.1.below hb1 ha.1.lt, ha.2⟩ f1
set_option maxRecDepth 100000 in
set_option maxHeartbeats 4000000 in
theorem ld_1011000 (hQ : LoadFin W n1 n2 n3 sl v0 v2 v3 v4 v5 v6 v7 v8 Q) (hP : ∀ c (d : Option Tmp) v a w, Q (.panic c) (a.put d v) w → Q (.panic c) a w) (HC : LoadCalls W sl n1 n2 n3) (w : World) (g2 : Nat) (hB : Below W.heap.size W w) (o2 : Mk W w g2 n2) :
    wpAnyH Tryz.prog .any opsL Q (fun w' => Below W.heap.size W w') 6 #[true, true, false, true, true, true, true, false, false, false, false, false] { tmps := #[v0, sl, v2, v3, v4, v5, v6, v7, v8, undef, undef, undef, undef, sl, .int .i64 (n1 : Nat), undef, sl, .int .i64 (n2 : Nat), .slice (some ⟨g2, 0, none⟩) n2 n2, sl, undef, undef, undef, undef, undef, undef, undef, undef, undef, undef, undef, undef, undef, undef, undef, undef, undef, undef, undef, undef, undef, undef, undef, undef, undef, undef, undef, undef, undef, undef, undef, undef, undef, undef, undef, undef, undef, undef, undef, undef, undef, undef, undef, undef, undef, undef, undef, undef], defers := [] } w := by
  refine wpAnyH_ready (rs := [2, 7, 10]) (by kernel_rfl) (by simp) ?_
  refine AllReadyH.cons (o := { dst := some 15, op := Op.makeSlice 53 (Operand.tmp 14) (Operand.tmp 14), type := 53, pos := "ref.go:154", after := #[{ on := 1, ground := Ground.data }, { on := 1, ground := Ground.data }], guard := none }) rfl (fun K hK => ?_) (AllReadyH.cons (o := { dst := some 20, op := Op.call { callee := Callee.value (Operand.func 63), args := #[Operand.tmp 19, Operand.const (Value.int IntKind.i64 32)], argTypes := #[36, 3] }, type := 3, pos := "ref.go:154", after := #[{ on := 6, ground := Ground.data }, { on := 4, ground := Ground.chain }], guard := none }) rfl (fun K hK => ?_) (AllReadyH.cons (o := { dst := some 9, op := Op.alloc 62, type := 0, pos := "ref.go:154", after := #[], guard := none }) rfl (fun K hK => ?_) AllReadyH.nil))
  · skip
    obtain ⟨i0, hi, hz0, hz1, hz2⟩ := info_parts info_u32
    obtain ⟨w1, hrun, hown, hgr⟩ := run_make_full (P := Tryz.prog) (w := w) W.heap.size 53 83 i0 _ 1 Tryz.underlying53 hi hz0 hz1 .i64 .i64 n1 (by rw [hz2]; have := HC.b1; omega) (by unfold maxLen; have := HC.b1; omega) hB.size
    have hB1 : Below W.heap.size W w1 := hB.grown hgr hB.size (fun _ h => by cases h)
    have hK2 := hK.out
    clear hK
    go_simp
    refine hK2 _ _ hB1 (fun _ => ?_)
    clear hK2 K
    try simp only [List.setIfInBounds_toArray, List.set_cons_zero, List.set_cons_succ]
    exact ld_1111000 hQ hP HC w1 w.heap.size g2 hB1 (Mk.make hown) (o2.grown hgr) (Nat.ne_of_gt o2.lt)
  · skip
    go_simp
    go_at_call 63
    refine (HC.c3 _ hB).mono ?_
    rintro e w1 ⟨rfl, hb1⟩
    have hB1 := below_step hB hb1
    refine hK.out _ _ hB1 (fun _ => ?_)
    clear hK K
    try simp only [List.setIfInBounds_toArray, List.set_cons_zero, List.set_cons_succ]
    exact ld_1011100 hQ hP HC w1 g2 hB1 (o2.below hb1)
  · skip
    go_simp
    have hB1 : Below W.heap.size W (w.alloc (.cells #[.slice none 0 0, .slice none 0 0, .slice none 0 0] 62)) := below_step hB (below1 _ _)
    refine hK.out _ _ hB1 (fun _ => ?_)
    clear hK K
    try simp only [List.setIfInBounds_toArray, List.set_cons_zero, List.set_cons_succ]
    exact ld_1011001 hQ hP HC _ g2 w.heap.size hB1 (o2.alloc _) ⟨Blk.new _ _ _, hB.size⟩ (Nat.ne_of_gt o2.lt)
set_option maxRecDepth 100000 in
set_option maxHeartbeats 4000000 in
theorem ld_1010100 (hQ : LoadFin W n1 n2 n3 sl v0 v2 v3 v4 v5 v6 v7 v8 Q) (hP : ∀ c (d : Option Tmp) v a w, Q (.panic c) (a.put d v) w → Q (.panic c) a w) (HC : LoadCalls W sl n1 n2 n3) (w : World) (hB : Below W.heap.size W w) :
    wpAnyH Tryz.prog .any opsL Q (fun w' => Below W.heap.size W w') 6 #[true, true, false, true, true, false, true, true, false, false, false, false] { tmps := #[v0, sl, v2, v3, v4, v5, v6, v7, v8, undef, undef, undef, undef, sl, .int .i64 (n1 : Nat), undef, sl, .int .i64 (n2 : Nat), undef, sl, .int .i64 (n3 : Nat), undef, undef, undef, undef, undef, undef, undef, undef, undef, undef, undef, undef, undef, undef, undef, undef, undef, undef, undef, undef, undef, undef, undef, undef, undef, undef, undef, undef, undef, undef, undef, undef, undef, undef, undef, undef, undef, undef, undef, undef, undef, undef, undef, undef, undef, undef, undef], defers := [] } w := by
  refine wpAnyH_ready (rs := [2, 5, 8, 10]) (by kernel_rfl) (by simp) ?_
  refine AllReadyH.cons (o := { dst := some 15, op := Op.makeSlice 53 (Operand.tmp 14) (Operand.tmp 14), type := 53, pos := "ref.go:154", after := #[{ on := 1, ground := Ground.data }, { on := 1, ground := Ground.data }], guard := none }) rfl (fun K hK => ?_) (AllReadyH.cons (o := { dst := some 18, op := Op.makeSlice 53 (Operand.tmp 17) (Operand.tmp 17), type := 53, pos := "ref.go:154", after := #[{ on := 4, ground := Ground.data }, { on := 4, ground := Ground.data }], guard := none }) rfl (fun K hK => ?_) (AllReadyH.cons (o := { dst := some 21, op := Op.makeSlice 53 (Operand.tmp 20) (Operand.tmp 20), type := 53, pos := "ref.go:154", after := #[{ on := 7, ground := Ground.data }, { on := 7, ground := Ground.data }], guard := none }) rfl (fun K hK => ?_) (AllReadyH.cons (o := { dst := some 9, op := Op.alloc 62, type := 0, pos := "ref.go:154", after := #[], guard := none }) rfl (fun K hK => ?_) AllReadyH.nil)))
  · skip
    obtain ⟨i0, hi, hz0, hz1, hz2⟩ := info_parts info_u32
    obtain ⟨w1, hrun, hown, hgr⟩ := run_make_full (P := Tryz.prog) (w := w) W.heap.size 53 83 i0 _ 1 Tryz.underlying53 hi hz0 hz1 .i64 .i64 n1 (by rw [hz2]; have := HC.b1; omega) (by unfold maxLen; have := HC.b1; omega) hB.size
    have hB1 : Below W.heap.size W w1 := hB.grown hgr hB.size (fun _ h => by cases h)
    have hK2 := hK.out
    clear hK
    go_simp
    refine hK2 _ _ hB1 (fun _ => ?_)
    clear hK2 K
    try simp only [List.setIfInBounds_toArray, List.set_cons_zero, List.set_cons_succ]
    exact ld_1110100 hQ hP HC w1 w.heap.size hB1 (Mk.make hown)
  · skip
    obtain ⟨i0, hi, hz0, hz1, hz2⟩ := info_parts info_u32
    obtain ⟨w1, hrun, hown, hgr⟩ := run_make_full (P := Tryz.prog) (w := w) W.heap.size 53 83 i0 _ 1 Tryz.underlying53 hi hz0 hz1 .i64 .i64 n2 (by rw [hz2]; have := HC.b2; omega) (by unfold maxLen; have := HC.b2; omega) hB.size
    have hB1 : Below W.heap.size W w1 := hB.grown hgr hB.size (fun _ h => by cases h)
    have hK2 := hK.out
    clear hK
    go_simp
    refine hK2 _ _ hB1 (fun _ => ?_)
    clear hK2 K
    try simp only [List.setIfInBounds_toArray, List.set_cons_zero, List.set_cons_succ]
    exact ld_1011100 hQ hP HC w1 w.heap.size hB1 (Mk.make hown)
  · skip
    obtain ⟨i0, hi, hz0, hz1, hz2⟩ := info_parts info_u32
    obtain ⟨w1, hrun, hown, hgr⟩ := run_make_full (P := Tryz.prog) (w := w) W.heap.size 53 83 i0 _ 1 Tryz.underlying53 hi hz0 hz1 .i64 .i64 n3 (by rw [hz2]; have := HC.b3; omega) (by unfold maxLen; have := HC.b3; omega) hB.size
    have hB1 : Below W.heap.size W w1 := hB.grown hgr hB.size (fun _ h => by cases h)
    have hK2 := hK.out
    clear hK
    go_simp
    refine hK2 _ _ hB1 (fun _ => ?_)
    clear hK2 K
    try simp only [List.setIfInBounds_toArray, List.set_cons_zero, List.set_cons_succ]
    exact ld_1010110 hQ hP HC w1 w.heap.size hB1 (Mk.make hown)
  · skip
    go_simp
    have hB1 : Below W.heap.size W (w.alloc (.cells #[.slice none 0 0, .slice none 0 0, .slice none 0 0] 62)) := below_step hB (below1 _ _)
    refine hK.out _ _ hB1 (fun _ => ?_)
    clear hK K
    try simp only [List.setIfInBounds_toArray, List.set_cons_zero, List.set_cons_succ]
    exact ld_1010101 hQ hP HC _ w.heap.size hB1 ⟨Blk.new _ _ _, hB.size⟩
set_option maxRecDepth 100000 in
set_option maxHeartbeats 4000000 in
theorem ld_1010001 (hQ : LoadFin W n1 n2 n3 sl v0 v2 v3 v4 v5 v6 v7 v8 Q) (hP : ∀ c (d : Option Tmp) v a w, Q (.panic c) (a.put d v) w → Q (.panic c) a w) (HC : LoadCalls W sl n1 n2 n3) (w : World) (ga : Nat) (hB : Below W.heap.size W w) (ha : Blk w ga 62 #[.slice none 0 0, .slice none 0 0, .slice none 0 0] ∧ W.heap.size ≤ ga) :
    wpAnyH Tryz.prog .any opsL Q (fun w' => Below W.heap.size W w') 6 #[true, true, false, true, true, false, true, false, false, false, true, false] { tmps := #[v0, sl, v2, v3, v4, v5, v6, v7, v8, .pointer (some ⟨ga, 0, none⟩), undef, undef, undef, sl, .int .i64 (n1 : Nat), undef, sl, .int .i64 (n2 : Nat), undef, sl, undef, undef, undef, undef, undef, undef, undef, undef, undef, undef, undef, undef, undef, undef, undef, undef, undef, undef, undef, undef, undef, undef, undef, undef, undef, undef, undef, undef, undef, undef, undef, undef, undef, undef, undef, undef, undef, undef, undef, undef, undef, undef, undef, undef, undef, undef, undef, undef], defers := [] } w := by
  refine wpAnyH_ready (rs := [2, 5, 7]) (by kernel_rfl) (by simp) ?_
  refine AllReadyH.cons (o := { dst := some 15, op := Op.makeSlice 53 (Operand.tmp 14) (Operand.tmp 14), type := 53, pos := "ref.go:154", after := #[{ on := 1, ground := Ground.data }, { on := 1, ground := Ground.data }], guard := none }) rfl (fun K hK => ?_) (AllReadyH.cons (o := { dst := some 18, op := Op.makeSlice 53 (Operand.tmp 17) (Operand.tmp 17), type := 53, pos := "ref.go:154", after := #[{ on := 4, ground := Ground.data }, { on := 4, ground := Ground.data }], guard := none }) rfl (fun K hK => ?_) (AllReadyH.cons (o := { dst := some 20, op := Op.call { callee := Callee.value (Operand.func 63), args := #[Operand.tmp 19, Operand.const (Value.int IntKind.i64 32)], argTypes := #[36, 3] }, type := 3, pos := "ref.go:154", after := #[{ on := 6, ground := Ground.data }, { on := 4, ground := Ground.chain }], guard := none }) rfl (fun K hK => ?_) AllReadyH.nil))
  · skip
    obtain ⟨i0, hi, hz0, hz1, hz2⟩ := info_parts info_u32
    obtain ⟨w1, hrun, hown, hgr⟩ := run_make_full (P := Tryz.prog) (w := w) W.heap.size 53 83 i0 _ 1 Tryz.underlying53 hi hz0 hz1 .i64 .i64 n1 (by rw [hz2]; have := HC.b1; omega) (by unfold maxLen; have := HC.b1; omega) hB.size
    have hB1 : Below W.heap.size W w1 := hB.grown hgr hB.size (fun _ h => by cases h)
    have hK2 := hK.out
    clear hK
    go_simp
    refine hK2 _ _ hB1 (fun _ => ?_)
    clear hK2 K
    try simp only [List.setIfInBounds_toArray, List.set_cons_zero, List.set_cons_succ]
    exact ld_1110001 hQ hP HC w1 w.heap.size ga hB1 (Mk.make hown) ⟨ha.1.grown hgr (by simp), ha.2⟩ (Nat.ne_of_lt ha.1.lt)
  · skip
    obtain ⟨i0, hi, hz0, hz1, hz2⟩ := info_parts info_u32
    obtain ⟨w1, hrun, hown, hgr⟩ := run_make_full (P := Tryz.prog) (w := w) W.heap.size 53 83 i0 _ 1 Tryz.underlying53 hi hz0 hz1 .i64 .i64 n2 (by rw [hz2]; have := HC.b2; omega) (by unfold maxLen; have := HC.b2; omega) hB.size
    have hB1 : Below W.heap.size W w1 := hB.grown hgr hB.size (fun _ h => by cases h)
    have hK2 := hK.out
    clear hK
    go_simp
    refine hK2 _ _ hB1 (fun _ => ?_)
    clear hK2 K
    try simp only [List.setIfInBounds_toArray, List.set_cons_zero, List.set_cons_succ]
    exact ld_1011001 hQ hP HC w1 w.heap.size ga hB1 (Mk.make hown) ⟨ha.1.grown hgr (by simp), ha.2⟩ (Nat.ne_of_lt ha.1.lt)
  · skip
    go_simp
    go_at_call 63
    refine (HC.c3 _ hB).mono ?_
    rintro e w1 ⟨rfl, hb1⟩
    have hB1 := below_step hB hb1
    refine hK.out _ _ hB1 (fun _ => ?_)
    clear hK K
    try simp only [List.setIfInBounds_toArray, List.set_cons_zero, List.set_cons_succ]
    exact ld_1010101 hQ hP HC w1 ga hB1 ⟨ha.1.below hb1 ha.1.lt, ha.2⟩
set_option maxRecDepth 100000 in
set_option maxHeartbeats 4000000 in
theorem ld_1100000 (hQ : LoadFin W n1 n2 n3 sl v0 v2 v3 v4 v5 v6 v7 v8 Q) (hP : ∀ c (d : Option Tmp) v a w, Q (.panic c) (a.put d v) w → Q (.panic c) a w) (HC : LoadCalls W sl n1 n2 n3) (w : World) (g1 : Nat) (hB : Below W.heap.size W w) (o1 : Mk W w g1 n1) :
    wpAnyH Tryz.prog .any opsL Q (fun w' => Below W.heap.size W w') 7 #[true, true, true, true, false, false, true, false, false, false, false, false] { tmps := #[v0, sl, v2, v3, v4, v5, v6, v7, v8, undef, undef, undef, undef, sl, .int .i64 (n1 : Nat), .slice (some ⟨g1, 0, none⟩) n1 n1, sl, undef, undef, sl, undef, undef, undef, undef, undef, undef, undef, undef, undef, undef, undef, undef, undef, undef, undef, undef, undef, undef, undef, undef, undef, undef, undef, undef, undef, undef, undef, undef, undef, undef, undef, undef, undef, undef, undef, undef, undef, undef, undef, undef, undef, undef, undef, undef, undef, undef, undef, undef], defers := [] } w := by
  refine wpAnyH_ready (rs := [4, 10]) (by kernel_rfl) (by simp) ?_
  refine AllReadyH.cons (o := { dst := some 17, op := Op.call { callee := Callee.value (Operand.func 63), args := #[Operand.tmp 16, Operand.const (Value.int IntKind.i64 16)], argTypes := #[36, 3] }, type := 3, pos := "ref.go:154", after := #[{ on := 3, ground := Ground.data }, { on := 1, ground := Ground.chain }], guard := none }) rfl (fun K hK => ?_) (AllReadyH.cons (o := { dst := some 9, op := Op.alloc 62, type := 0, pos := "ref.go:154", after := #[], guard := none }) rfl (fun K hK => ?_) AllReadyH.nil)
  · skip
    go_simp
    go_at_call 63
    refine (HC.c2 _ hB).mono ?_
    rintro e w1 ⟨rfl, hb1⟩
    have hB1 := below_step hB hb1
    refine hK.out _ _ hB1 (fun _ => ?_)
    clear hK K
    try simp only [List.setIfInBounds_toArray, List.set_cons_zero, List.set_cons_succ]
    exact ld_1110000 hQ hP HC w1 g1 hB1 (o1.below hb1)
  · skip
    go_simp
    have hB1 : Below W.heap.size W (w.alloc (.cells #[.slice none 0 0, .slice none 0 0, .slice none 0 0] 62)) := below_step hB (below1 _ _)
    refine hK.out _ _ hB1 (fun _ => ?_)
    clear hK K
    try simp only [List.setIfInBounds_toArray, List.set_cons_zero, List.set_cons_succ]
    exact ld_1100001 hQ hP HC _ g1 w.heap.size hB1 (o1.alloc _) ⟨Blk.new _ _ _, hB.size⟩ (Nat.ne_of_gt o1.lt)
set_option maxRecDepth 100000 in
set_option maxHeartbeats 4000000 in
theorem ld_1010000 (hQ : LoadFin W n1 n2 n3 sl v0 v2 v3 v4 v5 v6 v7 v8 Q) (hP : ∀ c (d : Option Tmp) v a w, Q (.panic c) (a.put d v) w → Q (.panic c) a w) (HC : LoadCalls W sl n1 n2 n3) (w : World) (hB : Below W.heap.size W w) :
    wpAnyH Tryz.prog .any opsL Q (fun w' => Below W.heap.size W w') 7 #[true, true, false, true, true, false, true, false, false, false, false, false] { tmps := #[v0, sl, v2, v3, v4, v5, v6, v7, v8, undef, undef, undef, undef, sl, .int .i64 (n1 : Nat), undef, sl, .int .i64 (n2 : Nat), undef, sl, undef, undef, undef, undef, undef, undef, undef, undef, undef, undef, undef, undef, undef, undef, undef, undef, undef, undef, undef, undef, undef, undef, undef, undef, undef, undef, undef, undef, undef, undef, undef, undef, undef, undef, undef, undef, undef, undef, undef, undef, undef, undef, undef, undef, undef, undef, undef, undef], defers := [] } w := by
  refine wpAnyH_ready (rs := [2, 5, 7, 10]) (by kernel_rfl) (by simp) ?_
  refine AllReadyH.cons (o := { dst := some 15, op := Op.makeSlice 53 (Operand.tmp 14) (Operand.tmp 14), type := 53, pos := "ref.go:154", after := #[{ on := 1, ground := Ground.data }, { on := 1, ground := Ground.data }], guard := none }) rfl (fun K hK => ?_) (AllReadyH.cons (o := { dst := some 18, op := Op.makeSlice 53 (Operand.tmp 17) (Operand.tmp 17), type := 53, pos := "ref.go:154", after := #[{ on := 4, ground := Ground.data }, { on := 4, ground := Ground.data }], guard := none }) rfl (fun K hK => ?_) (AllReadyH.cons (o := { dst := some 20, op := Op.call { callee := Callee.value (Operand.func 63), args := #[Operand.tmp 19, Operand.const (Value.int IntKind.i64 32)], argTypes := #[36, 3] }, type := 3, pos := "ref.go:154", after := #[{ on := 6, ground := Ground.data }, { on := 4, ground := Ground.chain }], guard := none }) rfl (fun K hK => ?_) (AllReadyH.cons (o := { dst := some 9, op := Op.alloc 62, type := 0, pos := "ref.go:154", after := #[], guard := none }) rfl (fun K hK => ?_) AllReadyH.nil)))
  · skip
    obtain ⟨i0, hi, hz0, hz1, hz2⟩ := info_parts info_u32
    obtain ⟨w1, hrun, hown, hgr⟩ := run_make_full (P := Tryz.prog) (w := w) W.heap.size 53 83 i0 _ 1 Tryz.underlying53 hi hz0 hz1 .i64 .i64 n1 (by rw [hz2]; have := HC.b1; omega) (by unfold maxLen; have := HC.b1; omega) hB.size
    have hB1 : Below W.heap.size W w1 := hB.grown hgr hB.size (fun _ h => by cases h)
    have hK2 := hK.out
    clear hK
    go_simp
    refine hK2 _ _ hB1 (fun _ => ?_)
    clear hK2 K
    try simp only [List.setIfInBounds_toArray, List.set_cons_zero, List.set_cons_succ]
    exact ld_1110000 hQ hP HC w1 w.heap.size hB1 (Mk.make hown)
  · skip
    obtain ⟨i0, hi, hz0, hz1, hz2⟩ := info_parts info_u32
    obtain ⟨w1, hrun, hown, hgr⟩ := run_make_full (P := Tryz.prog) (w := w) W.heap.size 53 83 i0 _ 1 Tryz.underlying53 hi hz0 hz1 .i64 .i64 n2 (by rw [hz2]; have := HC.b2; omega) (by unfold maxLen; have := HC.b2; omega) hB.size
    have hB1 : Below W.heap.size W w1 := hB.grown hgr hB.size (fun _ h => by cases h)
    have hK2 := hK.out
    clear hK
    go_simp
    refine hK2 _ _ hB1 (fun _ => ?_)
    clear hK2 K
    try simp only [List.setIfInBounds_toArray, List.set_cons_zero, List.set_cons_succ]
    exact ld_1011000 hQ hP HC w1 w.heap.size hB1 (Mk.make hown)
  · skip
    go_simp
    go_at_call 63
    refine (HC.c3 _ hB).mono ?_
    rintro e w1 ⟨rfl, hb1⟩
    have hB1 := below_step hB hb1
    refine hK.out _ _ hB1 (fun _ => ?_)
    clear hK K
    try simp only [List.setIfInBounds_toArray, List.set_cons_zero, List.set_cons_succ]
    exact ld_1010100 hQ hP HC w1 hB1
  · skip
    go_simp
    have hB1 : Below W.heap.size W (w.alloc (.cells #[.slice none 0 0, .slice none 0 0, .slice none 0 0] 62)) := below_step hB (below1 _ _)
    refine hK.out _ _ hB1 (fun _ => ?_)
    clear hK K
    try simp only [List.setIfInBounds_toArray, List.set_cons_zero, List.set_cons_succ]
    exact ld_1010001 hQ hP HC _ w.heap.size hB1 ⟨Blk.new _ _ _, hB.size⟩
set_option maxRecDepth 100000 in
set_option maxHeartbeats 4000000 in
theorem ld_1000001 (hQ : LoadFin W n1 n2 n3 sl v0 v2 v3 v4 v5 v6 v7 v8 Q) (hP : ∀ c (d : Option Tmp) v a w, Q (.panic c) (a.put d v) w → Q (.panic c) a w) (HC : LoadCalls W sl n1 n2 n3) (w : World) (ga : Nat) (hB : Below W.heap.size W w) (ha : Blk w ga 62 #[.slice none 0 0, .slice none 0 0, .slice none 0 0] ∧ W.heap.size ≤ ga) :
    wpAnyH Tryz.prog .any opsL Q (fun w' => Below W.heap.size W w') 7 #[true, true, false, true, false, false, true, false, false, false, true, false] { tmps := #[v0, sl, v2, v3, v4, v5, v6, v7, v8, .pointer (some ⟨ga, 0, none⟩), undef, undef, undef, sl, .int .i64 (n1 : Nat), undef, sl, undef, undef, sl, undef, undef, undef, undef, undef, undef, undef, undef, undef, undef, undef, undef, undef, undef, undef, undef, undef, undef, undef, undef, undef, undef, undef, undef, undef, undef, undef, undef, undef, undef, undef, undef, undef, undef, undef, undef, undef, undef, undef, undef, undef, undef, undef, undef, undef, undef, undef, undef], defers := [] } w := by
  refine wpAnyH_ready (rs := [2, 4]) (by kernel_rfl) (by simp) ?_
  refine AllReadyH.cons (o := { dst := some 15, op := Op.makeSlice 53 (Operand.tmp 14) (Operand.tmp 14), type := 53, pos := "ref.go:154", after := #[{ on := 1, ground := Ground.data }, { on := 1, ground := Ground.data }], guard := none }) rfl (fun K hK => ?_) (AllReadyH.cons (o := { dst := some 17, op := Op.call { callee := Callee.value (Operand.func 63), args := #[Operand.tmp 16, Operand.const (Value.int IntKind.i64 16)], argTypes := #[36, 3] }, type := 3, pos := "ref.go:154", after := #[{ on := 3, ground := Ground.data }, { on := 1, ground := Ground.chain }], guard := none }) rfl (fun K hK => ?_) AllReadyH.nil)
  · skip
    obtain ⟨i0, hi, hz0, hz1, hz2⟩ := info_parts info_u32
    obtain ⟨w1, hrun, hown, hgr⟩ := run_make_full (P := Tryz.prog) (w := w) W.heap.size 53 83 i0 _ 1 Tryz.underlying53 hi hz0 hz1 .i64 .i64 n1 (by rw [hz2]; have := HC.b1; omega) (by unfold maxLen; have := HC.b1; omega) hB.size
    have hB1 : Below W.heap.size W w1 := hB.grown hgr hB.size (fun _ h => by cases h)
    have hK2 := hK.out
    clear hK
    go_simp
    refine hK2 _ _ hB1 (fun _ => ?_)
    clear hK2 K
    try simp only [List.setIfInBounds_toArray, List.set_cons_zero, List.set_cons_succ]
    exact ld_1100001 hQ hP HC w1 w.heap.size ga hB1 (Mk.make hown) ⟨ha.1.grown hgr (by simp), ha.2⟩ (Nat.ne_of_lt ha.1.lt)
  · skip
    go_simp
    go_at_call 63
    refine (HC.c2 _ hB).mono ?_
    rintro e w1 ⟨rfl, hb1⟩
    have hB1 := below_step hB hb1
    refine hK.out _ _ hB1 (fun _ => ?_)
    clear hK K
    try simp only [List.setIfInBounds_toArray, List.set_cons_zero, List.set_cons_succ]
    exact ld_1010001 hQ hP HC w1 ga hB1 ⟨ha.1.below hb1 ha.1.lt, ha.2⟩
set_option maxRecDepth 100000 in
set_option maxHeartbeats 4000000 in
theorem ld_1000000 (hQ : LoadFin W n1 n2 n3 sl v0 v2 v3 v4 v5 v6 v7 v8 Q) (hP : ∀ c (d : Option Tmp) v a w, Q (.panic c) (a.put d v) w → Q (.panic c) a w) (HC : LoadCalls W sl n1 n2 n3) (w : World) (hB : Below W.heap.size W w) :
    wpAnyH Tryz.prog .any opsL Q (fun w' => Below W.heap.size W w') 8 #[true, true, false, true, false, false, true, false, false, false, false, false] { tmps := #[v0, sl, v2, v3, v4, v5, v6, v7, v8, undef, undef, undef, undef, sl, .int .i64 (n1 : Nat), undef, sl, undef, undef, sl, undef, undef, undef, undef, undef, undef, undef, undef, undef, undef, undef, undef, undef, undef, undef, undef, undef, undef, undef, undef, undef, undef, undef, undef, undef, undef, undef, undef, undef, undef, undef, undef, undef, undef, undef, undef, undef, undef, undef, undef, undef, undef, undef, undef, undef, undef, undef, undef], defers := [] } w := by
  refine wpAnyH_ready (rs := [2, 4, 10]) (by kernel_rfl) (by simp) ?_
  refine AllReadyH.cons (o := { dst := some 15, op := Op.makeSlice 53 (Operand.tmp 14) (Operand.tmp 14), type := 53, pos := "ref.go:154", after := #[{ on := 1, ground := Ground.data }, { on := 1, ground := Ground.data }], guard := none }) rfl (fun K hK => ?_) (AllReadyH.cons (o := { dst := some 17, op := Op.call { callee := Callee.value (Operand.func 63), args := #[Operand.tmp 16, Operand.const (Value.int IntKind.i64 16)], argTypes := #[36, 3] }, type := 3, pos := "ref.go:154", after := #[{ on := 3, ground := Ground.data }, { on := 1, ground := Ground.chain }], guard := none }) rfl (fun K hK => ?_) (AllReadyH.cons (o := { dst := some 9, op := Op.alloc 62, type := 0, pos := "ref.go:154", after := #[], guard := none }) rfl (fun K hK => ?_) AllReadyH.nil))
  · skip
    obtain ⟨i0, hi, hz0, hz1, hz2⟩ := info_parts info_u32
    obtain ⟨w1, hrun, hown, hgr⟩ := run_make_full (P := Tryz.prog) (w := w) W.heap.size 53 83 i0 _ 1 Tryz.underlying53 hi hz0 hz1 .i64 .i64 n1 (by rw [hz2]; have := HC.b1; omega) (by unfold maxLen; have := HC.b1; omega) hB.size
    have hB1 : Below W.heap.size W w1 := hB.grown hgr hB.size (fun _ h => by cases h)
    have hK2 := hK.out
    clear hK
    go_simp
    refine hK2 _ _ hB1 (fun _ => ?_)
    clear hK2 K
    try simp only [List.setIfInBounds_toArray, List.set_cons_zero, List.set_cons_succ]
    exact ld_1100000 hQ hP HC w1 w.heap.size hB1 (Mk.make hown)
  · skip
    go_simp
    go_at_call 63
    refine (HC.c2 _ hB).mono ?_
    rintro e w1 ⟨rfl, hb1⟩
    have hB1 := below_step hB hb1
    refine hK.out _ _ hB1 (fun _ => ?_)
    clear hK K
    try simp only [List.setIfInBounds_toArray, List.set_cons_zero, List.set_cons_succ]
    exact ld_1010000 hQ hP HC w1 hB1
  · skip
    go_simp
    have hB1 : Below W.heap.size W (w.alloc (.cells #[.slice none 0 0, .slice none 0 0, .slice none 0 0] 62)) := below_step hB (below1 _ _)
    refine hK.out _ _ hB1 (fun _ => ?_)
    clear hK K
    try simp only [List.setIfInBounds_toArray, List.set_cons_zero, List.set_cons_succ]
    exact ld_1000001 hQ hP HC _ w.heap.size hB1 ⟨Blk.new _ _ _, hB.size⟩
set_option maxRecDepth 100000 in
set_option maxHeartbeats 4000000 in
theorem ld_0000001 (hQ : LoadFin W n1 n2 n3 sl v0 v2 v3 v4 v5 v6 v7 v8 Q) (hP : ∀ c (d : Option Tmp) v a w, Q (.panic c) (a.put d v) w → Q (.panic c) a w) (HC : LoadCalls W sl n1 n2 n3) (w : World) (ga : Nat) (hB : Below W.heap.size W w) (ha : Blk w ga 62 #[.slice none 0 0, .slice none 0 0, .slice none 0 0] ∧ W.heap.size ≤ ga) :
    wpAnyH Tryz.prog .any opsL Q (fun w' => Below W.heap.size W w') 8 #[true, false, false, true, false, false, true, false, false, false, true, false] { tmps := #[v0, sl, v2, v3, v4, v5, v6, v7, v8, .pointer (some ⟨ga, 0, none⟩), undef, undef, undef, sl, undef, undef, sl, undef, undef, sl, undef, undef, undef, undef, undef, undef, undef, undef, undef, undef, undef, undef, undef, undef, undef, undef, undef, undef, undef, undef, undef, undef, undef, undef, undef, undef, undef, undef, undef, undef, undef, undef, undef, undef, undef, undef, undef, undef, undef, undef, undef, undef, undef, undef, undef, undef, undef, undef], defers := [] } w := by
  refine wpAnyH_ready (rs := [1]) (by kernel_rfl) (by simp) ?_
  refine AllReadyH.cons (o := { dst := some 14, op := Op.call { callee := Callee.value (Operand.func 63), args := #[Operand.tmp 13, Operand.const (Value.int IntKind.i64 8)], argTypes := #[36, 3] }, type := 3, pos := "ref.go:154", after := #[{ on := 0, ground := Ground.data }], guard := none }) rfl (fun K hK => ?_) AllReadyH.nil
  · skip
    go_simp
    go_at_call 63
    refine (HC.c1 _ hB).mono ?_
    rintro e w1 ⟨rfl, hb1⟩
    have hB1 := below_step hB hb1
    refine hK.out _ _ hB1 (fun _ => ?_)
    clear hK K
    try simp only [List.setIfInBounds_toArray, List.set_cons_zero, List.set_cons_succ]
    exact ld_1000001 hQ hP HC w1 ga hB1 ⟨ha.1.below hb1 ha.1.lt, ha.2⟩
set_option maxRecDepth 100000 in
set_option maxHeartbeats 4000000 in
theorem ld_0000000 (hQ : LoadFin W n1 n2 n3 sl v0 v2 v3 v4 v5 v6 v7 v8 Q) (hP : ∀ c (d : Option Tmp) v a w, Q (.panic c) (a.put d v) w → Q (.panic c) a w) (HC : LoadCalls W sl n1 n2 n3) (w : World) (hB : Below W.heap.size W w) :
    wpAnyH Tryz.prog .any opsL Q (fun w' => Below W.heap.size W w') 9 #[true, false, false, true, false, false, true, false, false, false, false, false] { tmps := #[v0, sl, v2, v3, v4, v5, v6, v7, v8, undef, undef, undef, undef, sl, undef, undef, sl, undef, undef, sl, undef, undef, undef, undef, undef, undef, undef, undef, undef, undef, undef, undef, undef, undef, undef, undef, undef, undef, undef, undef, undef, undef, undef, undef, undef, undef, undef, undef, undef, undef, undef, undef, undef, undef, undef, undef, undef, undef, undef, undef, undef, undef, undef, undef, undef, undef, undef, undef], defers := [] } w := by
  refine wpAnyH_ready (rs := [1, 10]) (by kernel_rfl) (by simp) ?_
  refine AllReadyH.cons (o := { dst := some 14, op := Op.call { callee := Callee.value (Operand.func 63), args := #[Operand.tmp 13, Operand.const (Value.int IntKind.i64 8)], argTypes := #[36, 3] }, type := 3, pos := "ref.go:154", after := #[{ on := 0, ground := Ground.data }], guard := none }) rfl (fun K hK => ?_) (AllReadyH.cons (o := { dst := some 9, op := Op.alloc 62, type := 0, pos := "ref.go:154", after := #[], guard := none }) rfl (fun K hK => ?_) AllReadyH.nil)
  · skip
    go_simp
    go_at_call 63
    refine (HC.c1 _ hB).mono ?_
    rintro e w1 ⟨rfl, hb1⟩
    have hB1 := below_step hB hb1
    refine hK.out _ _ hB1 (fun _ => ?_)
    clear hK K
    try simp only [List.setIfInBounds_toArray, List.set_cons_zero, List.set_cons_succ]
    exact ld_1000000 hQ hP HC w1 hB1
  · skip
    go_simp
    have hB1 : Below W.heap.size W (w.alloc (.cells #[.slice none 0 0, .slice none 0 0, .slice none 0 0] 62)) := below_step hB (below1 _ _)
    refine hK.out _ _ hB1 (fun _ => ?_)
    clear hK K
    try simp only [List.setIfInBounds_toArray, List.set_cons_zero, List.set_cons_succ]
    exact ld_0000001 hQ hP HC _ w.heap.size hB1 ⟨Blk.new _ _ _, hB.size⟩
end
end Go.Proofs.YtbfjknidinkafaaGreat
namespace Go.Proofs.YtbfjknidinkafaaGreat
open Go.RowKit

set_option maxRecDepth 100000 in
theorem load_region {W : World} {n1 n2 n3 : Nat} {sl v0 v2 v3 v4 v5 v6 v7 v8 : Value} {Q : Exit → Act → World → Prop} (HC : LoadCalls W sl n1 n2 n3) (hP : ∀ c (d : Option Tmp) v a w, Q (.panic c) (a.put d v) w → Q (.panic c) a w) (hQ : LoadFin W n1 n2 n3 sl v0 v2 v3 v4 v5 v6 v7 v8 Q) :
    (Code.region 1 opsL true).wp Tryz.prog Q { tmps := #[v0, sl, v2, v3, v4, v5, v6, v7, v8, undef, undef, undef, undef, undef, undef, undef, undef, undef, undef, undef, undef, undef, undef, undef, undef, undef, undef, undef, undef, undef, undef, undef, undef, undef, undef, undef, undef, undef, undef, undef, undef, undef, undef, undef, undef, undef, undef, undef, undef, undef, undef, undef, undef, undef, undef, undef, undef, undef, undef, undef, undef, undef, undef, undef, undef, undef, undef, undef], defers := [] } W := by
  refine wp_region_held_drew (S := fun w' => Below W.heap.size W w') (by kernel_rfl) (below_drew (Below.refl _ _)) (fun hHeld => ?_)
  refine wpAnyH_take (i := 0) (oi := { dst := some 13, op := Op.move (Operand.tmp 1), type := 36, pos := "ref.go:154", after := #[], guard := none }) (v := ?t0v) rfl (by kernel_rfl) (by kernel_rfl) (by kernel_rfl) (fun c a w h => hP c _ _ a w h) (Or.inl ⟨by rfl, ?t0y⟩) (by assumption) ?t0r
  case t0y => (intro w hSw; (try dsimp only at hSw); go_simp; try (with_reducible rfl))
  try simp only [Act.put, List.setIfInBounds_toArray, List.set_cons_zero, List.set_cons_succ]
  refine wpAnyH_take (i := 3) (oi := { dst := some 16, op := Op.move (Operand.tmp 1), type := 36, pos := "ref.go:154", after := #[], guard := none }) (v := ?t3v) rfl (by kernel_rfl) (by kernel_rfl) (by kernel_rfl) (fun c a w h => hP c _ _ a w h) (Or.inl ⟨by rfl, ?t3y⟩) (by assumption) ?t3r
  case t3y => (intro w hSw; (try dsimp only at hSw); go_simp; try (with_reducible rfl))
  try simp only [Act.put, List.setIfInBounds_toArray, List.set_cons_zero, List.set_cons_succ]
  refine wpAnyH_take (i := 6) (oi := { dst := some 19, op := Op.move (Operand.tmp 1), type := 36, pos := "ref.go:154", after := #[], guard := none }) (v := ?t6v) rfl (by kernel_rfl) (by kernel_rfl) (by kernel_rfl) (fun c a w h => hP c _ _ a w h) (Or.inl ⟨by rfl, ?t6y⟩) (by assumption) ?t6r
  case t6y => (intro w hSw; (try dsimp only at hSw); go_simp; try (with_reducible rfl))
  try simp only [Act.put, List.setIfInBounds_toArray, List.set_cons_zero, List.set_cons_succ]
  exact ld_0000000 hQ hP HC _ hHeld
theorem rcon_v {x y : ConD} (h : rconCells x = rconCells y) (z : Int) : (conL x z).v = (conL y z).v := by
  simp only [rconCells, Array.mk.injEq, List.cons.injEq, and_true] at h
  obtain ⟨h1, h2, h3⟩ := h
  unfold conL
  split
  · exact h1
  · split
    · exact h2
    · exact h3
theorem grow_cell {V u : World} {g : Nat} {t : TypeId} {cs : Array Value} {row : Option Nat} (h : Blk V g t cs) (hg : V.grownBy u row) (hne : some g ≠ row) (i : Nat) : u.cell? ⟨g, i, none⟩ = cs[i]? := (h.grown hg hne).cell i
set_option maxRecDepth 100000 in
set_option maxHeartbeats 8000000 in
theorem rload_any (p : ProgD) (x : L SlotD) (e : EnvD) (b : L Bool) (w : World) (o : ProgOk w p) (hs : AccSm p) (hx : LOk w 4 SlotD.cells x) (hl : x.l.length ≤ 1000) (oe : EnvOk w e) (hb : LOk w 1 bcell b) :
    Calls Tryz.prog 23 #[.agg (progCells p), .slice x.A x.l.length x.c, .agg (envCells e), .slice b.A b.l.length b.c] w fun r w' =>
      ∃ y : ConD, r = .returned (.agg (rconCells y)) ∧ y.bare = loadM x.l (valsM p e.bare ++ b.l.map bitI) ∧ (LOkN w' 1 ucell y.c8 ∧ LOkN w' 1 ucell y.c16 ∧ LOkN w' 1 ucell y.c32) ∧ Below w.heap.size w w' := by
  obtain ⟨W, hW⟩ : ∃ W, W = ((w.alloc (.cells (progCells p) 31)).alloc (.cells (envCells e) 56)).alloc (.cells #[.slice none 0 0, .slice none 0 0, .slice none 0 0] 62) := ⟨_, rfl⟩
  have hw : Below w.heap.size w W := by rw [hW]; exact below3 _ _ _ _
  have HW := Lib.hid hw
  have hszW : W.heap.size = w.heap.size + 1 + 1 + 1 := by rw [hW]; simp
  have HSz := Lib.hid hszW
  have HP0 : Hid (Blk W w.heap.size 31 (progCells p)) := Lib.hid (by rw [hW]; exact ((Blk.new _ _ _).alloc _).alloc _)
  have HP1 : Hid (Blk W (w.heap.size + 1) 56 (envCells e)) := Lib.hid (by rw [hW]; exact (by simpa using Blk.new (w.alloc (.cells (progCells p) 31)) 56 (envCells e) : Blk _ (w.heap.size + 1) _ _).alloc _)
  have HP2 : Hid (Blk W (w.heap.size + 1 + 1) 62 #[.slice none 0 0, .slice none 0 0, .slice none 0 0]) := Lib.hid (by rw [hW]; simpa using Blk.new ((w.alloc (.cells (progCells p) 31)).alloc (.cells (envCells e) 56)) 62 #[.slice none 0 0, .slice none 0 0, .slice none 0 0])
  have hp0 := fun w' (h : Below W.heap.size W w') => blk_cells' (n := 9) HP0.out w' h
  have hp1 := fun w' (h : Below W.heap.size W w') => blk_cells' (n := 4) HP1.out w' h
  have HV := Lib.hid (fun u (hb : Below W.heap.size W u) => rvalues_any p e u (o.below (below_step hw hb)) hs (oe.below (below_step hw hb)))
  have HXo := Lib.hid (hx.below hw (Nat.le_refl _))
  have HBo := Lib.hid (hb.below hw (Nat.le_refl _))
  have HVL := Lib.hid (vals_len p e.bare)
  have hcl : cellsN p ≤ 10200 := by have := fN_le hs; have := hs.headers; have := hs.metadata; unfold cellsN; omega
  have HC : Hid (LoadCalls W (.slice x.A x.l.length x.c) (countM x.l 8) (countM x.l 16) (countM x.l 32)) := Lib.hid
    ⟨fun u hb => rcnt36_any x 8 u (HXo.out.below hb (Nat.le_refl _)), fun u hb => rcnt36_any x 16 u (HXo.out.below hb (Nat.le_refl _)), fun u hb => rcnt36_any x 32 u (HXo.out.below hb (Nat.le_refl _)), count_le _ _, count_le _ _, count_le _ _⟩
  clear o hs oe hx hb hw hszW
  obtain ⟨l, A, c⟩ := x
  obtain ⟨bl, bA, bc⟩ := b
  simp only at hl HXo HBo HC ⊢
  have HN : Hid (con0 l = ⟨List.replicate (countM l 8) 0, List.replicate (countM l 16) 0, List.replicate (countM l 32) 0⟩) := Lib.hid rfl
  generalize countM l 8 = n1 at *
  generalize countM l 16 = n2 at *
  generalize countM l 32 = n3 at *
  go_enter Tryz.func23, Tryz.ntmps23
  go_upto_region 1 with fail
  rw [← hW]
  clear hW
  refine load_region HC.out (fun _ d _ _ _ h => by cases d <;> exact h) ?_
  rintro w1 g1 g2 g3 ga hB1 o1 o2 o3 e12 e13 e23 ⟨hbk, hga⟩ f1 f2 f3
  obtain ⟨y, hy⟩ : ∃ y : ConD, y = ⟨⟨List.replicate n1 0, some ⟨g1, 0, none⟩, n1⟩, ⟨List.replicate n2 0, some ⟨g2, 0, none⟩, n2⟩, ⟨List.replicate n3 0, some ⟨g3, 0, none⟩, n3⟩⟩ := ⟨_, rfl⟩
  have HRc : Hid (RCon w1 W.heap.size y) := Lib.hid (by
    rw [hy]
    refine ⟨o1.own, o2.own, o3.own, ?_, ?_, ?_⟩
    all_goals
      intro b h1 h2
      simp only [Value.ownBlock, Option.some.injEq] at h1 h2
      omega)
  have HYc : Hid (rconCells y = #[.slice (some ⟨g1, 0, none⟩) n1 n1, .slice (some ⟨g2, 0, none⟩) n2 n2, .slice (some ⟨g3, 0, none⟩) n3 n3]) := Lib.hid (by rw [hy]; simp [rconCells])
  have HYb : Hid (y.bare = con0 l) := Lib.hid (by rw [hy, HN.out]; rfl)
  have HNg : Hid (∀ z b, (conL y z).v.ownBlock = some b → ga ≠ b ∧ b < w1.heap.size) := Lib.hid (fun z b h => by
    have h1 := o1.lt
    have h2 := o2.lt
    have h3 := o3.lt
    rw [hy] at h
    unfold conL at h
    split at h
    · simp only [Value.ownBlock, Option.some.injEq] at h; omega
    · split at h <;> simp only [Value.ownBlock, Option.some.injEq] at h <;> omega)
  have HBk : Hid (Blk w1 ga 62 #[.slice (some ⟨g1, 0, none⟩) n1 n1, .slice (some ⟨g2, 0, none⟩) n2 n2, .slice (some ⟨g3, 0, none⟩) n3 n3]) := Lib.hid hbk
  have HB1 := Lib.hid hB1
  clear hy hbk hB1 o1 o2 o3 e12 e13 e23 f1 f2 f3 HN HC
  have hp3 := And.intro (hp0 w1 HB1.out) (hp1 w1 HB1.out)
  go_upto_region 2 with fail
  clear hp0 hp1
  simp only [progCells, envCells] at hp3 HV ⊢
  go_wp2_with fail
  refine (HV.out w1 HB1.out).mono ?_
  rintro r w2 ⟨A2, c2, rfl, hown, hb2⟩
  obtain ⟨vs, hvs⟩ : ∃ vs, valsM p e.bare = vs := ⟨_, rfl⟩
  rw [hvs] at hown HVL
  have HVS := Lib.hid hvs
  obtain ⟨N, hN⟩ : ∃ N, cellsN p = N := ⟨_, rfl⟩
  rw [hN] at hown HVL hcl ⊢
  have HOV : Hid (OwnL w2 w1.heap.size 83 ucell ⟨vs, A2, c2⟩) := Lib.hid (by unfold OwnL; simp only [L.v]; rw [HVL.out]; exact hown)
  have HR2 := Lib.hid (HRc.out.below hb2)
  have HK2 := Lib.hid (HBk.out.below hb2 HBk.out.lt)
  have HB2 := Lib.hid (below_step HB1.out hb2)
  have hs2 : ga < w2.heap.size := HK2.out.lt
  generalize w1.heap.size = bw at *
  clear hvs hN hown hb2 hp3 HV HB1 HRc HBk
  go_wp2
  go_loopw [11, 12] (fun iv _ wr => ∃ (k : Nat) (y' : ConD), k ≤ l.length ∧ iv = .int .i64 k ∧ Hid (y'.bare = loadK l (vs ++ bl.map bitI) k) ∧ Hid (RCon wr W.heap.size y' ∧ rconCells y' = rconCells y) ∧ Hid (OwnL wr bw 83 ucell ⟨vs, A2, c2⟩) ∧ Hid (Blk wr ga 62 #[.slice (some ⟨g1, 0, none⟩) n1 n1, .slice (some ⟨g2, 0, none⟩) n2 n2, .slice (some ⟨g3, 0, none⟩) n3 n3]) ∧ Below W.heap.size W wr) (fun i _ _ => l.length - (intOf i).toNat)
  case atStart => exact ⟨0, y, Nat.zero_le _, rfl, HYb, Lib.hid ⟨HR2.out, rfl⟩, HOV, HK2, HB2.out⟩
  case round =>
  obtain ⟨k, y', hk, rfl, HY, HO, HV, HK, HB⟩ := hrel
  by_cases hlt : k < l.length
  case neg =>
    have e : k = l.length := by omega
    have HYf : Hid (y'.bare = loadM l (vs ++ bl.map bitI)) := Lib.hid (by rw [HY.out, e]; rfl)
    have k0 : wr.cell? ⟨ga, 0, none⟩ = some (.slice (some ⟨g1, 0, none⟩) n1 n1) := HK.out.cell 0
    have k1 : wr.cell? ⟨ga, 1, none⟩ = some (.slice (some ⟨g2, 0, none⟩) n2 n2) := HK.out.cell 1
    have k2 : wr.cell? ⟨ga, 2, none⟩ = some (.slice (some ⟨g3, 0, none⟩) n3 n3) := HK.out.cell 2
    have HZ : Hid (Blk wr (w.heap.size + 1 + 1) 62 #[.slice none 0 0, .slice none 0 0, .slice none 0 0]) := Lib.hid (HP2.out.below HB HP2.out.lt)
    have z0 : wr.cell? ⟨w.heap.size + 1 + 1, 0, none⟩ = some (.slice none 0 0) := HZ.out.cell 0
    have z1 : wr.cell? ⟨w.heap.size + 1 + 1, 1, none⟩ = some (.slice none 0 0) := HZ.out.cell 1
    have z2 : wr.cell? ⟨w.heap.size + 1 + 1, 2, none⟩ = some (.slice none 0 0) := HZ.out.cell 2
    have zf : ∀ j, wr.frozen? ⟨w.heap.size + 1 + 1, j, none⟩ = false := fun j => HZ.out.frozen j
    have HBc := Lib.hid HB
    clear HB e
    go_wp2
    try rw [Exit.noGoto_ret]
    try simp only [Exit.jump]
    refine bodyPost_ret (v := .agg #[.slice (some ⟨g1, 0, none⟩) n1 n1, .slice (some ⟨g2, 0, none⟩) n2 n2, .slice (some ⟨g3, 0, none⟩) n3 n3]) ?_ rfl ?_
    · refine results_cell_row (fn := Tryz.f23) (p := 8) (ty := 62) rfl _ _ (w.heap.size + 1 + 1) 62 #[.slice (some ⟨g1, 0, none⟩) n1 n1, .slice (some ⟨g2, 0, none⟩) n2 n2, .slice (some ⟨g3, 0, none⟩) n3 n3] (0, 0) _ rfl ?_ Tryz.underlying62 rfl (by kernel_rfl)
      exact ((HZ.out.set_ 0 _).set_ 1 _).set_ 2 _
    · have hsz := HSz.out
      have hle : w.heap.size ≤ w.heap.size + 1 + 1 := by omega
      have hne : ∀ z b, (conL y' z).v.ownBlock = some b → b ≠ w.heap.size + 1 + 1 := fun z b h => by have := (own_lt (HO.out.1.list z) b h).1; omega
      have hput : ∀ {yy : L Int} (v0 v1 v2 : Value), OwnL wr W.heap.size 83 ucell yy → OwnL (((wr.setCell ⟨w.heap.size + 1 + 1, 0, none⟩ v0).setCell ⟨w.heap.size + 1 + 1, 1, none⟩ v1).setCell ⟨w.heap.size + 1 + 1, 2, none⟩ v2) W.heap.size 83 ucell yy := fun {yy} v0 v1 v2 h => by
        have hh : yy.v.ownBlock ≠ some (w.heap.size + 1 + 1) := fun e => by have := (own_lt h _ e).1; omega
        exact ((h.far (p := ⟨w.heap.size + 1 + 1, 0, none⟩) _ hh).far (p := ⟨w.heap.size + 1 + 1, 1, none⟩) _ hh).far (p := ⟨w.heap.size + 1 + 1, 2, none⟩) _ hh
      refine ⟨y', ?_, ?_, ⟨(hput _ _ _ HO.out.1.o8).ok (fun _ => rfl), (hput _ _ _ HO.out.1.o16).ok (fun _ => rfl), (hput _ _ _ HO.out.1.o32).ok (fun _ => rfl)⟩, (((below_step HW.out HBc.out).setCell hle _).setCell hle _).setCell hle _⟩
      · rw [HO.out.2, HYc.out]
      · rw [HYf.out, HVS.out]
  obtain ⟨g0, of0, hA, hall⟩ := SlotD.atA HXo.out hlt
  simp only at hA
  subst hA
  have HT := Lib.hid (loadK_at l (vs ++ bl.map bitI) k hlt)
  have HMc : Hid (validS l[k] = true → l[k].index < ((ofC (loadK l (vs ++ bl.map bitI) k) l[k].size).length : Int)) := Lib.hid (fun hv => by
    rw [loadK_len _ _ (sizes_of hv)]
    have := count_gt hv (List.getElem_mem hlt)
    omega)
  have HAl := Lib.hid hall
  clear hall
  generalize l[k] = s at *
  obtain ⟨z, i, f, d⟩ := s
  simp only at HAl
  generalize hnv : (vs ++ bl.map bitI).getD k 0 = nv at *
  have HVB := Lib.hid HB
  clear HB
  go_upto_if 35 with fail
  go_cut [12] from 26 to 54 (fun v wx => v = .int .u32 nv ∧ wx = wr)
  case first =>
    by_cases hkn : k < N
    case pos =>
      have hkn' : (k : Int) < (N : Int) := by omega
      have hkv : k < vs.length := by rw [HVL.out]; exact hkn
      have hn2 : nv = vs[k] := by rw [← hnv, List.getD_eq_getElem?_getD, List.getElem?_append_left hkv, List.getElem?_eq_getElem hkv]; rfl
      obtain ⟨gv, ov, hgv, hcv⟩ := ucell_atA (OwnL.ok (fun _ => rfl) HV.out).1 hkv
      simp only at hgv hcv
      subst hgv
      have d5 := hcv wr (Below.refl _ _)
      rw [← hn2] at d5
      clear hcv hn2 hkv hnv
      go_wp2
      go_meet
      case rel => exact ⟨rfl, rfl⟩
    case neg =>
      have hkn' : ¬ (k : Int) < (N : Int) := by omega
      by_cases hkb : k - N < bl.length
      case pos =>
        have hkb' : (k : Int) - (N : Int) < (bl.length : Int) := by omega
        have hn2 : nv = bitI (bl[k - N]) := by
          rw [← hnv, List.getD_eq_getElem?_getD, List.getElem?_append_right (by rw [HVL.out]; omega), HVL.out, List.getElem?_map, List.getElem?_eq_getElem hkb]; rfl
        obtain ⟨gv, ov, hgv, hcv⟩ := bcell_atA HBo.out hkb
        simp only at hgv hcv
        subst hgv
        have d5 := hcv wr HVB.out
        obtain ⟨q, hq⟩ : ∃ q, k - N = q := ⟨_, rfl⟩
        have hkN : k = N + q := by omega
        have hqb : q < bl.length := by omega
        clear hcv hnv
        generalize bl[k - N] = bv at *
        rw [hq] at d5
        have hsub : (k : Int) - (N : Int) = (q : Int) := by omega
        have hnb : Hid (nv = bitI bv) := Lib.hid hn2
        rw [hsub] at hkb'
        clear hq hkN hn2
        go_upto_region 9 with fail
        go_upto_region 10 with fail
        go_wp2_with fail
        refine (rbit_any bv _).mono ?_
        rintro r w' ⟨rfl, rfl⟩
        have hbv : (if bv = true then (1 : Int) else 0) = nv := hnb.out.symm
        rw [hbv]
        clear hbv hnb hsub d5
        go_wp2
        go_meet
        case rel => exact ⟨rfl, rfl⟩
      case neg =>
        have hkb' : ¬ (k : Int) - (N : Int) < (bl.length : Int) := by omega
        have hn2 : nv = 0 := by
          rw [← hnv, List.getD_eq_getElem?_getD, List.getElem?_eq_none (by rw [List.length_append, List.length_map, HVL.out]; omega)]; rfl
        subst hn2
        clear hnv
        go_wp2
        go_meet
        case rel => exact ⟨rfl, rfl⟩
  case rest =>
  obtain ⟨rfl, hwc⟩ := hcut
  subst hwc
  obtain ⟨d0, d1, d2, d3⟩ := HAl.out wc HVB.out
  clear hnv
  go_wp2_with fail
  refine (rvalidSlot_any z i f d wc).mono ?_
  rintro r w5 ⟨rfl, hbN⟩
  have HB5 := Lib.hid (below_step HVB.out hbN)
  have HO5 : Hid (RCon w5 W.heap.size y' ∧ rconCells y' = rconCells y) := Lib.hid ⟨HO.out.1.below hbN, HO.out.2⟩
  have HV5 := Lib.hid (HV.out.below hbN)
  have HK5 := Lib.hid (HK.out.below hbN HK.out.lt)
  clear hbN d0 d1 d2 d3 HVB HV HK HO
  cases hv : validS ⟨z, i, f, d⟩ with
  | false =>
    have HY5 : Hid (y'.bare = loadK l (vs ++ bl.map bitI) (k + 1)) := Lib.hid (by rw [HT.out, hv]; exact HY.out)
    clear hv HT HY HMc
    go_wp2
    go_roundw
    case rel => exact ⟨k + 1, y', by omega, by go_num, HY5, HO5, HV5, HK5, HB5.out⟩
    case measure => simp [intOf]; omega
  | true =>
    have hi5 : i < ((ofC y'.bare z).length : Int) := by rw [HY.out]; exact HMc.out hv
    have HPt0 := Lib.hid (fun u (hb : Below w5.heap.size w5 u) => rput_any y' ⟨z, i, f, d⟩ nv W.heap.size u (HO5.out.1.below hb) hv hi5)
    have HY5 : Hid (loadK l (vs ++ bl.map bitI) (k + 1) = putC y'.bare ⟨z, i, f, d⟩ nv) := Lib.hid (by rw [HT.out, hv, HY.out]; rfl)
    rw [HO5.out.2, HYc.out] at HPt0
    simp only at HPt0
    obtain ⟨row, hrow⟩ : ∃ row, row = (conL y' z).v.ownBlock := ⟨_, rfl⟩
    rw [← hrow] at HPt0
    have HRow : Hid (∀ g, row = some g → ga ≠ g ∧ g < bw ∧ W.heap.size ≤ g) := Lib.hid (fun g h => by
      rw [hrow] at h
      have h3 := (own_lt (HO5.out.1.list z) g h).1
      rw [rcon_v HO5.out.2 z] at h
      have h2 := HNg.out z g h
      exact ⟨h2.1, h2.2, h3⟩)
    clear hv HT HY HMc hi5 hrow
    have HG0 : Hid (w5.grownBy w5 row) := Lib.hid (World.grownBy.refl _ _)
    have HG1 : Hid (w5.grownBy w5.drew row) := Lib.hid ⟨rfl, rfl, rfl, Nat.le_refl _, fun _ _ _ => rfl⟩
    have HBd : Hid (Below w5.heap.size w5 w5.drew) := Lib.hid (below_drew (Below.refl _ _))
    have q0 := fun u (h : w5.grownBy u row) => grow_cell HK5.out h (fun e => (HRow.out ga e.symm).1 rfl) 0
    have q1 := fun u (h : w5.grownBy u row) => grow_cell HK5.out h (fun e => (HRow.out ga e.symm).1 rfl) 1
    have q2 := fun u (h : w5.grownBy u row) => grow_cell HK5.out h (fun e => (HRow.out ga e.symm).1 rfl) 2
    simp only [List.getElem?_toArray, List.getElem?_cons_zero, List.getElem?_cons_succ] at q0 q1 q2
    have HBu : Hid (∀ u, w5.grownBy u row → Below W.heap.size W u) := Lib.hid (fun u h => HB5.out.grown h HB5.out.size (fun j hj => (HRow.out j hj).2.2))
    have t0 := fun u (h : w5.grownBy u row) => (HAl.out u (HBu.out u h)).1
    have t1 := fun u (h : w5.grownBy u row) => (HAl.out u (HBu.out u h)).2.1
    have t2 := fun u (h : w5.grownBy u row) => (HAl.out u (HBu.out u h)).2.2.1
    have t3 := fun u (h : w5.grownBy u row) => (HAl.out u (HBu.out u h)).2.2.2
    go_upto_region 12 with fail
    go_region_held3 (fun w' => w5.grownBy w' row) (first | exact HG0.out | exact HG1.out | assumption)
      (first | (go_at_call 66; refine (HPt0.out _ HBd.out).mono ?_; rintro r w6 ⟨rfl, hex, hgr⟩; have hgr2 : w5.grownBy w6 row := ⟨hgr.os, hgr.tape, hgr.output, hgr.size, hgr.block⟩))
    clear q0 q1 q2 t0 t1 t2 t3
    obtain ⟨x', hbx, hox, hcx⟩ := hex
    have HY6 : Hid (x'.bare = loadK l (vs ++ bl.map bitI) (k + 1)) := Lib.hid (by rw [HY5.out]; exact hbx)
    have HO6 : Hid (RCon w6 W.heap.size x' ∧ rconCells x' = rconCells y) := Lib.hid ⟨hox, hcx.trans HYc.out.symm⟩
    have HV6 := Lib.hid (HV5.out.grown hgr2 (fun g e e2 => by
      have h1 := (own_lt HV5.out g e).1
      have h2 := (HRow.out g e2).2.1
      omega))
    have HK6 := Lib.hid (HK5.out.grown hgr2 (fun e => (HRow.out ga e.symm).1 rfl))
    have HB6 := Lib.hid (HBu.out _ hgr2)
    clear hbx hox hcx hgr hgr2 HPt0 HY5 HO5 HV5 HK5 HB5 HG0 HG1 HBd HBu HRow
    go_wp2
    go_roundw
    case rel => exact ⟨k + 1, x', by omega, by go_num, HY6, HO6, HV6, HK6, HB6.out⟩
    case measure => simp [intOf]; omega
end Go.Proofs.YtbfjknidinkafaaGreat
namespace Go.Proofs.YtbfjknidinkafaaGreat
open Go.RowKit

set_option maxRecDepth 100000 in
set_option maxHeartbeats 4000000 in
theorem equalCon_any (x y : ConD) (w : World) (hx : LOkN w 1 ucell x.c8 ∧ LOkN w 1 ucell x.c16 ∧ LOkN w 1 ucell x.c32) (hy : LOkN w 1 ucell y.c8 ∧ LOkN w 1 ucell y.c16 ∧ LOkN w 1 ucell y.c32) (he : x.bare = y.bare) :
    Calls Tryz.prog 20 #[.agg (rconCells x), .agg (rconCells y)] w fun r w' => r = .returned (.bool true) ∧ Below w.heap.size w w' := by
  obtain ⟨W, hW, hw, HB, hp⟩ := box2 w (rconCells x) 62 (rconCells y) 62
  have HW := Lib.hid hw
  have hLx : ∀ {x : ConD}, LOkN w 1 ucell x.c8 ∧ LOkN w 1 ucell x.c16 ∧ LOkN w 1 ucell x.c32 → ∀ z, LOk W 1 ucell (conL x z) := fun {x} h z => by
    unfold conL
    split
    · exact (h.1.below hw).1
    · split
      · exact (h.2.1.below hw).1
      · exact (h.2.2.below hw).1
  have HLx := Lib.hid (hLx hx)
  have HLy := Lib.hid (hLx hy)
  have HE : Hid (∀ z, (conL x z).l = (conL y z).l) := Lib.hid (fun z => by rw [conL_l, conL_l, he])
  have HOx := Lib.hid (fun u z => rof_any x z u)
  have HOy := Lib.hid (fun u z => rof_any y z u)
  clear hLx hx hy he hw
  go_enter Tryz.func20, Tryz.ntmps20
  go_upto_region 1 with fail
  rw [← hW]
  clear hW
  go_wp2_with fail
  refine (sizes_any _).mono ?_
  rintro e w1 ⟨rfl, hb1⟩
  refine Exists.elim (⟨_, rfl⟩ : ∃ U, U = w1.alloc (.cells #[.int .i64 8, .int .i64 16, .int .i64 32] 85)) fun U hU => ?_
  have HS : Hid (Blk U w1.heap.size 85 #[.int .i64 8, .int .i64 16, .int .i64 32]) := Lib.hid (by rw [hU]; exact Blk.new _ _ _)
  have HBU : Hid (Below W.heap.size W U) := Lib.hid (by rw [hU]; exact below_alloc (below_step HB hb1) _)
  clear HB hb1
  go_upto_region 2 with fail
  rw [← hU]
  clear hU
  go_wp2
  go_loopw [6, 7, 8, 9] (fun iv _ _ _ wr => ∃ k : Nat, k ≤ 3 ∧ iv = .int .i64 k ∧ Below U.heap.size U wr) (fun i _ _ _ _ => 3 - (intOf i).toNat)
  case atStart => exact ⟨0, by omega, rfl, Below.refl _ _⟩
  case round =>
  obtain ⟨k, hk, rfl, HB⟩ := hrel
  by_cases hlt : k < 3
  case neg =>
    go_wp2
    go_ret
    exact ⟨rfl, below_step HW.out (below_step HBU.out HB)⟩
  obtain ⟨z, HZ⟩ : ∃ z : Int, Hid (∀ u, Below U.heap.size U u → u.cell? ⟨w1.heap.size, k, none⟩ = some (.int .i64 z)) := by
    rcases (show k = 0 ∨ k = 1 ∨ k = 2 by omega) with rfl | rfl | rfl
    · exact ⟨8, Lib.hid (fun u h => (HS.out.below h HS.out.lt).cell 0)⟩
    · exact ⟨16, Lib.hid (fun u h => (HS.out.below h HS.out.lt).cell 1)⟩
    · exact ⟨32, Lib.hid (fun u h => (HS.out.below h HS.out.lt).cell 2)⟩
  have HXz := Lib.hid (fun u => HOx.out u z)
  have HYz := Lib.hid (fun u => HOy.out u z)
  have hl := HE.out z
  have HLxz := Lib.hid (HLx.out z)
  have HLyz := Lib.hid (HLy.out z)
  generalize conL x z = X at *
  generalize conL y z = Y at *
  obtain ⟨l, A1, c1⟩ := X
  obtain ⟨l2, A2, c2⟩ := Y
  simp only at HXz HYz hl HLxz HLyz
  subst hl
  have hmx := HLxz.out.1
  unfold maxLen at hmx
  simp only at hmx
  have HBr := Lib.hid HB
  have H0 := Lib.hid (Below.refl wr.heap.size wr)
  have hq := fun u (h : Below wr.heap.size wr u) => hp u (below_step HBU.out (below_step HBr.out h))
  have zq := fun u (h : Below wr.heap.size wr u) => HZ.out u (below_step HBr.out h)
  have HPp := Lib.hid hp
  have hk' : (k : Int) < 3 := by omega
  clear HB hp
  go_upto_region 5 with fail
  go_region_held3 (fun w' => Below wr.heap.size wr w') (first | exact H0.out | exact below_drew H0.out | (exact below_step (by assumption) (by assumption)) | assumption)
    (first
    | (go_at_call 57; with_reducible (refine (HXz.out _).mono ?_); rintro e w5 ⟨rfl, hb1⟩)
    | (go_at_call 57; with_reducible (refine (HYz.out _).mono ?_); rintro e w5 ⟨rfl, hb1⟩))
  have HB5 : Hid (Below wr.heap.size wr _) := Lib.hid (by assumption)
  have HBW := Lib.hid (below_step HBU.out (below_step HBr.out HB5.out))
  have HBU5 := Lib.hid (below_step HBr.out HB5.out)
  clear hq zq
  go_wp2
  go_loopw [9] (fun jv wq => ∃ j : Nat, j ≤ l.length ∧ jv = .int .i64 j ∧ Below U.heap.size U wq) (fun j _ => l.length - (intOf j).toNat)
  case atStart => exact ⟨0, Nat.zero_le _, rfl, HBU5.out⟩
  case round =>
  obtain ⟨j, hj, rfl, HB⟩ := hrel
  by_cases hlj : j < l.length
  case neg =>
    have HBz := Lib.hid HB
    clear HB
    go_wp2
    go_roundw
    case rel => exact ⟨k + 1, by omega, by go_num, HBz.out⟩
    case measure => simp [intOf]; omega
  obtain ⟨g1, of1, hA1, d1⟩ := ucell_atA HLxz.out hlj
  obtain ⟨g2, of2, hA2, d2⟩ := ucell_atA HLyz.out hlj
  simp only at hA1 hA2 d1 d2
  subst hA1 hA2
  have c1' := d1 wr (below_step HBU.out HB)
  have c2' := d2 wr (below_step HBU.out HB)
  have hj' : (j : Int) < (l.length : Int) := by omega
  clear d1 d2
  generalize l[j] = v at *
  have hvv : (v != v) = false := by simp
  have HBz := Lib.hid HB
  clear HB
  go_upto_region 11 with fail
  go_quiet (fail)
  go_wp2
  go_roundw
  case rel => exact ⟨j + 1, by omega, by go_num, below_drewN HBz.out _⟩
  case measure => simp [intOf]; omega
end Go.Proofs.YtbfjknidinkafaaGreat
namespace Go.Proofs.YtbfjknidinkafaaGreat
open Go.RowKit

@[reducible] def statCells (s : StatD) : Array Value := #[.slice s.env.valid.A s.env.valid.l.length s.env.valid.c, .slice s.env.fields.A s.env.fields.l.length s.env.fields.c, .slice s.env.metaV.A s.env.metaV.l.length s.env.metaV.c, .slice s.env.payload.A s.env.payload.l.length s.env.payload.c, .slice s.bits.A s.bits.l.length s.bits.c]
set_option maxRecDepth 100000 in
set_option maxHeartbeats 8000000 in
theorem phvLoads_any (p : ProgD) (x : L SlotD) (s : StatD) (w : World) (h : ProgGood w p) (hx : LOk w 4 SlotD.cells x) (hs : StatGood w s) :
    Calls Tryz.prog 5 #[.agg (progCells p), .slice x.A x.l.length x.c, .agg (statCells s)] w fun e w' => e = .returned (.bool true) ∧ Below w.heap.size w w' := by
  have o := h.ok
  have hle := h.headers.le
  have oe := hs.env.ok
  have ob := hs.bits.lok
  obtain ⟨W, hW, hw, HB, hp⟩ := box2 w (progCells p) 31 (statCells s) 58
  have HW := Lib.hid hw
  have HS := Lib.hid (fun u (hb : Below W.heap.size W u) => small36_any p u (o.below (below_step hw hb)))
  have HE := Lib.hid (fun u (hb : Below W.heap.size W u) => smallEnv_any s.env u (oe.below (below_step hw hb)))
  have HL1 : Hid (Sm36 p → x.l.length ≤ 1000 → ∀ u, Below W.heap.size W u → Calls Tryz.prog 22 #[.agg (progCells p), .slice x.A x.l.length x.c, .agg (envCells s.env), .slice s.bits.A s.bits.l.length s.bits.c] u fun r w' =>
      ∃ y : ConD, r = .returned (.agg (rconCells y)) ∧ y.bare = loadM x.l (valsM p s.env.bare ++ s.bits.l.map bitI) ∧ (LOkN w' 1 ucell y.c8 ∧ LOkN w' 1 ucell y.c16 ∧ LOkN w' 1 ucell y.c32) ∧ Below u.heap.size u w') := Lib.hid (fun hs hl u hb =>
    pload_any p x s.env s.bits u (o.below (below_step hw hb)) (hs.acc hle) (hx.below (below_step hw hb) (Nat.le_refl _)) hl (oe.below (below_step hw hb)) (ob.below (below_step hw hb) (Nat.le_refl _)))
  have HL2 : Hid (Sm36 p → x.l.length ≤ 1000 → ∀ u, Below W.heap.size W u → Calls Tryz.prog 23 #[.agg (progCells p), .slice x.A x.l.length x.c, .agg (envCells s.env), .slice s.bits.A s.bits.l.length s.bits.c] u fun r w' =>
      ∃ y : ConD, r = .returned (.agg (rconCells y)) ∧ y.bare = loadM x.l (valsM p s.env.bare ++ s.bits.l.map bitI) ∧ (LOkN w' 1 ucell y.c8 ∧ LOkN w' 1 ucell y.c16 ∧ LOkN w' 1 ucell y.c32) ∧ Below u.heap.size u w') := Lib.hid (fun hs hl u hb =>
    rload_any p x s.env s.bits u (o.below (below_step hw hb)) (hs.acc hle) (hx.below (below_step hw hb) (Nat.le_refl _)) hl (oe.below (below_step hw hb)) (ob.below (below_step hw hb) (Nat.le_refl _)))
  clear o hle hw h hx hs oe ob
  generalize hM : loadM x.l (valsM p s.env.bare ++ s.bits.l.map bitI) = M at *
  clear hM
  go_enter Tryz.func5, Tryz.ntmps5
  go_upto_region 1 with fail
  rw [← hW]
  clear hW
  have hp3 := hp W HB
  go_wp2_with fail
  refine (HS.out _ HB).mono ?_
  rintro e w1 ⟨⟨b, rfl, hb⟩, hb1⟩
  have HB1 := Lib.hid (below_step HB hb1)
  clear hp3 HB hb1
  have hp3 := hp w1 HB1.out
  cases b with
  | false =>
    go_wp2_with fail
    refine (works36_any _).mono ?_
    rintro e w2 ⟨rfl, hb2⟩
    go_wp2
    go_ret
    exact ⟨rfl, below_step HW.out (below_step HB1.out hb2)⟩
  | true =>
  have HY := Lib.hid (hb rfl)
  clear hb
  by_cases h80 : (80 : Int) < (x.l.length : Int)
  case pos =>
    go_wp2_with fail
    refine (works36_any _).mono ?_
    rintro e w2 ⟨rfl, hb2⟩
    go_wp2
    go_ret
    exact ⟨rfl, below_step HW.out (below_step HB1.out hb2)⟩
  have HLn : Hid (x.l.length ≤ 1000) := Lib.hid (by omega)
  go_wp2_with fail
  refine (HE.out _ HB1.out).mono ?_
  rintro e w2 ⟨⟨b, rfl, _⟩, hb2⟩
  have HB2 := Lib.hid (below_step HB1.out hb2)
  clear hp3 hb2
  have hp3 := hp w2 HB2.out
  cases b with
  | false =>
    go_wp2_with fail
    refine (works36_any _).mono ?_
    rintro e w3 ⟨rfl, hb3⟩
    go_wp2
    go_ret
    exact ⟨rfl, below_step HW.out (below_step HB2.out hb3)⟩
  | true =>
  by_cases h40 : (40 : Int) < (s.bits.l.length : Int)
  case pos =>
    go_wp2_with fail
    refine (works36_any _).mono ?_
    rintro e w3 ⟨rfl, hb3⟩
    go_wp2
    go_ret
    exact ⟨rfl, below_step HW.out (below_step HB2.out hb3)⟩
  have HA1 := Lib.hid (fun u (hb : Below w2.heap.size w2 u) => HL1.out HY.out HLn.out u (below_step HB2.out hb))
  have HA2 := Lib.hid (fun u (hb : Below w2.heap.size w2 u) => HL2.out HY.out HLn.out u (below_step HB2.out hb))
  have H0 := Lib.hid (Below.refl w2.heap.size w2)
  have hq := fun u (h : Below w2.heap.size w2 u) => hp u (below_step HB2.out h)
  go_upto_region 3 with fail
  clear hp3 hp
  go_region_held3 (fun w' => Below w2.heap.size w2 w') (first | exact H0.out | exact below_drew H0.out | (exact below_step (by assumption) (by assumption)) | assumption)
    (first
    | (go_at_call 22; refine (HA1.out _ (by assumption)).mono ?_; rintro r w5 ⟨y, rfl, hyb, hyl, hb5⟩)
    | (go_at_call 21; refine (convert_any y _).mono ?_; rintro r w6 ⟨rfl, hb6⟩)
    | (go_at_call 23; refine (HA2.out _ (by assumption)).mono ?_; rintro r w7 ⟨z, rfl, hzb, hzl, hb7⟩)
    | (go_at_call 20; refine (equalCon_any y z _ ⟨hyl.1.below (below_step hb6 hb7), hyl.2.1.below (below_step hb6 hb7), hyl.2.2.below (below_step hb6 hb7)⟩ hzl (hyb.trans hzb.symm)).mono ?_; rintro r w8 ⟨rfl, hb8⟩)
    | (go_at_call 10; refine (works36_any _).mono ?_; rintro r w9 ⟨rfl, hb9⟩))
  have HB9 : Hid (Below w2.heap.size w2 _) := Lib.hid (by assumption)
  go_wp2
  go_ret
  exact ⟨rfl, below_step HW.out (below_step HB2.out HB9.out)⟩
end Go.Proofs.YtbfjknidinkafaaGreat
namespace Go.Proofs.YtbfjknidinkafaaGreat.phvLoads
open Go.ChangeShapes Go.WideShapes Go.ChangeAt Go.RowKit
theorem own : ownKnob Tryz.prog.godebug = none := by kernel_rfl
set_option maxRecDepth 100000 in
theorem lifted (os : Os) (started : os.Started) (H : Type) (enc : TypeId × Value → H) :
    ReturnsInHanded {} Tryz.checked os 5 .any (Rows.phvLoadsSpec.pre6 enc Tryz.prog Tryz.f5 Rows.phvLoadsRow.domain false) (Rows.phvLoadsSpec.post enc Tryz.prog Tryz.f5 false true false false) := by
  refine returnsInHanded_of_change_sized (C := Tryz.checked) own started (by kernel_rfl) Tryz.func5
    (ChangeSpec.witness6 (enc := enc) (C := Tryz.checked) false ⟨#[], #[.agg #[.string ⟨#[]⟩, .slice none 0 0, .slice none 0 0, .slice none 0 0, .slice none 0 0, .slice none 0 0, .slice none 0 0, .slice none 0 0, .slice none 0 0], .slice none 0 0, .agg #[.slice none 0 0, .slice none 0 0, .slice none 0 0, .slice none 0 0, .slice none 0 0]], []⟩ 8 (by kernel_rfl) (by kernel_rfl) (by kernel_rfl) (by kernel_rfl)) ?_
  intro W base args ds gs before hval0 hW hcnd hsz _
  have hval : ∀ (j : Nat) t v, Tryz.f5.params[j]? = some t → args[j]? = some v → Value.okWide Tryz.prog W .any base t v := hval0
  have hW' := hW
  obtain ⟨p, q, hA0, hV, rfl, hfz, hnd⟩ := hW
  have hA : DataW.TrodAll enc Tryz.prog W 0 (fun _ => true) true Tryz.f5.params.toList args.toList ds p := hA0
  obtain ⟨rfl, rfl⟩ := trodVars_none hV
  have hAk := hA
  rw [Tryz.params5] at hA hval hsz
  obtain ⟨v0, v1, v2, d0, d1, d2, p0, p1, p2, rfl, rfl, rfl, h0, h1, h2⟩ := trodAll_three hA
  have hw := List.all_eq_true.1 hsz
  obtain ⟨x0, rfl, hx0⟩ := arg_struct Tryz.underlying31 (fun N => rd_prog N) (hval 0 _ v0 rfl rfl) h0 (fun m hm => by simpa using hw m (DataW.weights_mem_each (j := 0) rfl rfl m hm))
  obtain ⟨x1, rfl, hx1⟩ := arg_list Tryz.underlying36 (fun N => rd_slots N) (hval 1 _ v1 rfl rfl) h1 (fun m hm => by simpa using hw m (DataW.weights_mem_each (j := 1) rfl rfl m hm))
  obtain ⟨x2, rfl, hx2⟩ := arg_struct Tryz.underlying58 (fun N => rd_stat N) (hval 2 _ v2 rfl rfl) h2 (fun m hm => by simpa using hw m (DataW.weights_mem_each (j := 2) rfl rfl m hm))
  clear hA0 hval0
  simp only [List.append_nil] at hW' hAk
  refine (phvLoads_any x0 x1 x2 W hx0 hx1.lok hx2).mono fun e W' ⟨he, hg⟩ => ?_
  subst he
  exact ⟨_, rfl, post_of_below (pv := []) hW' (fun _ _ _ => (trodAll_cons_mk (shut_bool Tryz.underlying4 _) trodAll_mk0)) (fun sp hsp => args_again (by kernel_rfl) (by kernel_rfl) (by kernel_rfl) (by rw [Tryz.params5]; decide) hAk hg sp hsp) (fun _ _ => rfl) (by simp)
    hg (ok_one (by kernel_rfl) rfl (okWide_bool_mk Tryz.underlying4 _))⟩
theorem over : Rows.phvLoadsRow.holds Tryz.pinned (OpenSpec.ofChange Rows.phvLoadsSpec) :=
  OpenClaim.holds_of_wide 5 Tryz.f5 rfl rfl rfl rfl rfl rfl rfl ⟨rfl, rfl, rfl, rfl, rfl⟩ rfl rfl rfl rfl rfl (by kernel_rfl) Tryz.func5 (by kernel_rfl)
    (of_decide_eq_true (by kernel_rfl)) (by unfold Func.isWrapper; first | (rw [if_pos (by decide +kernel)]; kernel_rfl) | (rw [if_neg (by decide +kernel)]; exact ⟨rfl, rfl⟩))
    (fun os started H enc _ => lifted os started H enc)
/-- the statement -/
theorem proved : Rows.PhvLoadsSaid :=
  over
#print axioms proved
end Go.Proofs.YtbfjknidinkafaaGreat.phvLoads
