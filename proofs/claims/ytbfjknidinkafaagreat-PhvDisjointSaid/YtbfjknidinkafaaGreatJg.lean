/- The walks of law17.fields and law17.body: what a yes of them tells. No condition but that the arguments lie in memory. The walk of law17.Small: what a yes of it tells. No condition but that the program lies in memory. The walks of law20.size, law20.Small and law36.small: what a yes of them tells. No condition but that the program lies in memory. Walks of the reference's numbers and widths of cells (package patchbayref31). No condition but that the program lies in memory and its lists are short. The walk of the reference's width of a cell (package patchbayref31). No condition but that the program lies in memory and its lists are short. Walks of the reference's taking of a container, and of its number of cells. No condition but that the numbers are small. The walk of the reference's Allocate. No condition but that the program lies in memory and its lists are short. The law PhvAllocates. No condition but that the program is well read. -/
import Derived.Test.YtbfjknidinkafaaGreatMov
import Derived.BigQuiet
import Derived.Test.YtbfjknidinkafaaGreatCkK
import Derived.Test.YtbfjknidinkafaaGreatCkS
import Derived.Test.YtbfjknidinkafaaGreatJc
import Derived.Test.YtbfjknidinkafaaGreatRcC
import Derived.Test.YtbfjknidinkafaaGreatJe
namespace Go.Proofs.YtbfjknidinkafaaGreat
open Go.RowKit

/-- e is a Bool, and a yes tells p -/
def Yes (e : Ending) (p : Prop) : Prop := ∃ b : Bool, e = .returned (.bool b) ∧ (b = true → p)
theorem Yes.no {p : Prop} : Yes (.returned (.bool false)) p := ⟨false, rfl, fun h => by cases h⟩
theorem Yes.yes {p : Prop} (h : p) : Yes (.returned (.bool true)) p := ⟨true, rfl, fun _ => h⟩
set_option maxRecDepth 100000 in
set_option maxHeartbeats 4000000 in
theorem lfields_any (x : L FieldD) (w : World) (h : LOk w 2 FieldD.cells x) :
    Calls Tryz.prog 80 #[.slice x.A x.l.length x.c] w fun e w' => Yes e (x.l.length ≤ 16) ∧ w = w' := by
  obtain ⟨l, A, c⟩ := x
  have HX := Lib.hid h
  have hmx := h.1
  unfold maxLen at hmx
  clear h
  simp only at hmx ⊢
  by_cases h16 : (16 : Int) < (l.length : Int)
  case pos =>
    go_enter Tryz.func80, Tryz.ntmps80
    go_wp2
    go_ret
    exact ⟨Yes.no, rfl⟩
  have HB := Lib.hid (show l.length ≤ 16 by omega)
  go_enter Tryz.func80, Tryz.ntmps80
  go_wp2
  go_loopw [3] (fun iv wr => ∃ k : Nat, k ≤ l.length ∧ iv = .int .i64 k ∧ w = wr) (fun i _ => l.length - (intOf i).toNat)
  case atStart => exact ⟨0, Nat.zero_le _, rfl, rfl⟩
  case round =>
    obtain ⟨k, hk, rfl, rfl⟩ := hrel
    by_cases hlt : k < l.length
    · obtain ⟨g, of, hA, d0, d1⟩ := FieldD.at HX.out hlt
      simp only at hA
      subst hA
      simp only at d0 d1
      generalize l[k] = s at *
      obtain ⟨nm, z⟩ := s
      simp only at d0 d1
      by_cases h40 : (40 : Int) < (nm.size : Int)
      · go_wp2
        go_ret
        exact ⟨Yes.no, rfl⟩
      · go_wp2
        go_roundw
        case rel => exact ⟨k + 1, by omega, by go_num, trivial⟩
        case measure => simp [intOf]; omega
    · have hk' : k = l.length := by omega
      subst hk'
      go_wp2
      go_ret
      exact ⟨Yes.yes HB.out, rfl⟩
set_option maxRecDepth 100000 in
set_option maxHeartbeats 8000000 in
theorem lbody_any (x : ActD) (w : World) (h : ActOk w x) :
    Calls Tryz.prog 81 #[.agg #[.string x.name, .slice x.params.A x.params.l.length x.params.c, .slice x.body.A x.body.l.length x.body.c]] w fun e w' => Yes e True ∧ Below w.heap.size w w' := by
  obtain ⟨nm, pr, ⟨l, A, c⟩⟩ := x
  obtain ⟨W, hW⟩ : ∃ W, W = w.alloc (.cells #[.string nm, .slice pr.A pr.l.length pr.c, .slice A l.length c] 124) := ⟨_, rfl⟩
  have HX := Lib.hid (h.body.below (below1 w (.cells #[.string nm, .slice pr.A pr.l.length pr.c, .slice A l.length c] 124)) (Nat.le_refl _))
  rw [← hW] at HX
  have HPr := Lib.hid (lfields_any pr W (by rw [hW]; exact h.params.below (below1 _ _) (Nat.le_refl _)))
  have HK : Blk W w.heap.size 124 #[.string nm, .slice pr.A pr.l.length pr.c, .slice A l.length c] := by rw [hW]; exact Blk.new _ _ _
  have HW : Hid (Below w.heap.size w W) := Lib.hid (by rw [hW]; exact below1 _ _)
  have s0 : W.cell? ⟨w.heap.size, 0, none⟩ = some (.string nm) := HK.cell 0
  have s1 : W.cell? ⟨w.heap.size, 1, none⟩ = some (.slice pr.A pr.l.length pr.c) := HK.cell 1
  have s2 : W.cell? ⟨w.heap.size, 2, none⟩ = some (.slice A l.length c) := HK.cell 2
  have hmx := h.body.1
  unfold maxLen at hmx
  clear h HK
  simp only at hmx HX ⊢
  go_enter Tryz.func81, Tryz.ntmps81
  go_upto_region 1 with fail
  rw [← hW]
  clear hW
  by_cases h40 : (40 : Int) < (nm.size : Int)
  case pos =>
    go_wp2
    go_ret
    exact ⟨Yes.no, HW.out⟩
  go_wp2_with fail
  refine HPr.out.mono ?_
  rintro e w' ⟨⟨b, rfl, _⟩, rfl⟩
  clear s0 s1 HPr h40
  cases b with
  | false =>
    go_wp2
    go_ret
    exact ⟨Yes.no, HW.out⟩
  | true =>
  by_cases h16 : (16 : Int) < (l.length : Int)
  case pos =>
    go_wp2
    go_ret
    exact ⟨Yes.no, HW.out⟩
  go_wp2
  go_loopw [3] (fun iv wr => ∃ k : Nat, k ≤ l.length ∧ iv = .int .i64 k ∧ W = wr) (fun i _ => l.length - (intOf i).toNat)
  case atStart => exact ⟨0, Nat.zero_le _, rfl, rfl⟩
  case round =>
    obtain ⟨k, hk, rfl, rfl⟩ := hrel
    by_cases hlt : k < l.length
    · obtain ⟨g, of, hA, d0, d1, d2, d3, d4, d5, d6⟩ := StmtD.at HX.out hlt
      simp only at hA
      subst hA
      simp only at d0 d1 d2 d3 d4 d5 d6
      generalize l[k] = s at *
      obtain ⟨a0, a1, a2, a3, a4, a5, a6⟩ := s
      simp only at d0 d1 d2 d3 d4 d5 d6
      clear d0 d1 d2 d3 d4
      by_cases h5 : (40 : Int) < (a5.l.length : Int)
      · go_wp2
        go_ret
        exact ⟨Yes.no, HW.out⟩
      · by_cases h6 : (40 : Int) < (a6.l.length : Int)
        · go_wp2
          go_ret
          exact ⟨Yes.no, HW.out⟩
        · go_wp2
          go_roundw
          case rel => exact ⟨k + 1, by omega, by go_num, trivial⟩
          case measure => simp [intOf]; omega
    · have hk' : k = l.length := by omega
      subst hk'
      go_wp2
      go_ret
      exact ⟨Yes.yes trivial, HW.out⟩
end Go.Proofs.YtbfjknidinkafaaGreat
namespace Go.Proofs.YtbfjknidinkafaaGreat
open Go.RowKit

set_option maxRecDepth 100000 in
set_option maxHeartbeats 16000000 in
theorem lsmall_any (p : ProgD) (w : World) (o : ProgOk w p) :
    Calls Tryz.prog 32 #[.agg (progCells p)] w fun e w' => Yes e (p.headers.l.length ≤ 12 ∧ (∀ k (h : k < p.headers.l.length), p.headers.l[k].fields.l.length ≤ 16) ∧ p.metadata.l.length ≤ 16 ∧ p.registers.l.length ≤ 8) ∧ Below w.heap.size w w' := by
  obtain ⟨W, hW⟩ : ∃ W, W = w.alloc (.cells (progCells p) 31) := ⟨_, rfl⟩
  have HW : Hid (Below w.heap.size w W) := Lib.hid (by rw [hW]; exact below1 _ _)
  have HP : Hid (Blk W w.heap.size 31 (progCells p)) := Lib.hid (by rw [hW]; exact Blk.new _ _ _)
  have HQ := Lib.hid (fun w' (h : Below W.heap.size W w') (i : Nat) => (HP.out.below h HP.out.lt).cell i)
  have HO := Lib.hid (o.below HW.out)
  have HB0 := Lib.hid (Below.refl W.heap.size W)
  clear o HP
  go_enter Tryz.func32, Tryz.ntmps32
  go_upto_region 1 with fail
  rw [← hW]
  clear hW
  have s0 : W.cell? ⟨w.heap.size, 0, none⟩ = some (.string p.name) := HQ.out W HB0.out 0
  have s1 : W.cell? ⟨w.heap.size, 1, none⟩ = some (.slice p.headers.A p.headers.l.length p.headers.c) := HQ.out W HB0.out 1
  have s2 : W.cell? ⟨w.heap.size, 2, none⟩ = some (.slice p.metadata.A p.metadata.l.length p.metadata.c) := HQ.out W HB0.out 2
  have s3 : W.cell? ⟨w.heap.size, 3, none⟩ = some (.slice p.registers.A p.registers.l.length p.registers.c) := HQ.out W HB0.out 3
  have s4 : W.cell? ⟨w.heap.size, 4, none⟩ = some (.slice p.actions.A p.actions.l.length p.actions.c) := HQ.out W HB0.out 4
  have s5 : W.cell? ⟨w.heap.size, 5, none⟩ = some (.slice p.tables.A p.tables.l.length p.tables.c) := HQ.out W HB0.out 5
  have s6 : W.cell? ⟨w.heap.size, 6, none⟩ = some (.slice p.states.A p.states.l.length p.states.c) := HQ.out W HB0.out 6
  have s8 : W.cell? ⟨w.heap.size, 8, none⟩ = some (.slice p.deparser.A p.deparser.l.length p.deparser.c) := HQ.out W HB0.out 8
  by_cases c0 : (40 : Int) < (p.name.size : Int)
  case pos =>
    go_wp2
    go_ret
    exact ⟨Yes.no, below_step HW.out HB0.out⟩
  by_cases c1 : (12 : Int) < (p.headers.l.length : Int)
  case pos =>
    go_wp2
    go_ret
    exact ⟨Yes.no, below_step HW.out HB0.out⟩
  go_wp2_with fail
  refine (lfields_any p.metadata W HO.out.metadata).mono ?_
  rintro e w' ⟨⟨b, rfl, hb⟩, rfl⟩
  cases b with
  | false =>
    go_wp2
    go_ret
    exact ⟨Yes.no, below_step HW.out HB0.out⟩
  | true =>
  have HM := Lib.hid (hb rfl)
  clear hb
  by_cases c3 : (8 : Int) < (p.registers.l.length : Int)
  case pos =>
    go_wp2
    go_ret
    exact ⟨Yes.no, below_step HW.out HB0.out⟩
  by_cases c4 : (20 : Int) < (p.actions.l.length : Int)
  case pos =>
    go_wp2
    go_ret
    exact ⟨Yes.no, below_step HW.out HB0.out⟩
  by_cases c5 : (16 : Int) < (p.tables.l.length : Int)
  case pos =>
    go_wp2
    go_ret
    exact ⟨Yes.no, below_step HW.out HB0.out⟩
  by_cases c6 : (16 : Int) < (p.states.l.length : Int)
  case pos =>
    go_wp2
    go_ret
    exact ⟨Yes.no, below_step HW.out HB0.out⟩
  by_cases c8 : (16 : Int) < (p.deparser.l.length : Int)
  case pos =>
    go_wp2
    go_ret
    exact ⟨Yes.no, below_step HW.out HB0.out⟩
  have HL : Hid (p.headers.l.length ≤ 12 ∧ p.registers.l.length ≤ 8) := Lib.hid ⟨by omega, by omega⟩
  have bn0 : p.headers.l.length ≤ 20 := by omega
  have bn1 : p.registers.l.length ≤ 20 := by omega
  have bn2 : p.actions.l.length ≤ 20 := by omega
  have bn3 : p.tables.l.length ≤ 20 := by omega
  have bn4 : p.states.l.length ≤ 20 := by omega
  go_wp2
  clear s0 s1 s2 s3 s4 s5 s6 s8 c0 c1 c3 c4 c5 c6 c8
  go_loopw [3] (fun iv wr => ∃ k : Nat, k ≤ p.headers.l.length ∧ iv = .int .i64 k ∧ Hid (∀ i (h : i < p.headers.l.length), i < k → p.headers.l[i].fields.l.length ≤ 16) ∧ Below W.heap.size W wr) (fun i _ => p.headers.l.length - (intOf i).toNat)
  case atStart => exact ⟨0, Nat.zero_le _, rfl, Lib.hid (fun i h h2 => absurd h2 (Nat.not_lt_zero _)), HB0.out⟩
  case round =>
  obtain ⟨k, hk, rfl, HY, HB⟩ := hrel
  have s1 : wr.cell? ⟨w.heap.size, 1, none⟩ = some (.slice p.headers.A p.headers.l.length p.headers.c) := HQ.out wr HB 1
  by_cases hlt : k < p.headers.l.length
  case pos =>
    obtain ⟨g, of, hA, hall⟩ := HeaderD.atA HO.out.headers hlt
    obtain ⟨d0, d1⟩ := hall wr HB
    have hf := (HO.out.hdr _ (List.getElem_mem hlt)).fields.below HB (Nat.le_refl _)
    have HS := Lib.hid (fun (hn : p.headers.l[k].fields.l.length ≤ 16) i (h : i < p.headers.l.length) (h2 : i < k + 1) => if e : i = k then (by subst e; exact hn : p.headers.l[i].fields.l.length ≤ 16) else HY.out i h (by omega))
    rw [hA] at s1
    have hBe := Lib.hid HB
    have HLT := Lib.hid (show k + 1 ≤ p.headers.l.length from hlt)
    clear HY hall hA
    generalize p.headers.l[k] = s at *
    obtain ⟨nm, fl⟩ := s
    simp only at d0 d1 hf HS
    by_cases t0 : (40 : Int) < (nm.size : Int)
    case pos =>
      go_wp2
      go_ret
      exact ⟨Yes.no, below_step HW.out (by exact hBe.out)⟩
    go_wp2_with fail
    refine (lfields_any fl wr hf).mono ?_
    rintro e w' ⟨⟨b, rfl, hb⟩, rfl⟩
    cases b with
    | false =>
      go_wp2
      go_ret
      exact ⟨Yes.no, below_step HW.out hBe.out⟩
    | true =>
    have HBn := Lib.hid (hb rfl)
    clear hb
    go_wp2
    go_roundw
    case rel => exact ⟨k + 1, HLT.out, by go_num, Lib.hid (HS.out HBn.out), hBe.out⟩
    case measure => have := HLT.out; simp [intOf]; omega
  have hk' : k = p.headers.l.length := by omega
  subst hk'
  have HF := HY
  have HBk := Lib.hid HB
  clear hk HB HY
  have s3 : wr.cell? ⟨w.heap.size, 3, none⟩ = some (.slice p.registers.A p.registers.l.length p.registers.c) := HQ.out wr HBk.out 3
  go_wp2
  clear s3 s1 hlt
  go_loopw [4] (fun iv wr => ∃ k : Nat, k ≤ p.registers.l.length ∧ iv = .int .i64 k ∧ Hid (True) ∧ Below W.heap.size W wr) (fun i _ => p.registers.l.length - (intOf i).toNat)
  case atStart => exact ⟨0, Nat.zero_le _, rfl, Lib.hid (trivial), HBk.out⟩
  case round =>
  obtain ⟨k, hk, rfl, HY, HB⟩ := hrel
  have s3 : wr.cell? ⟨w.heap.size, 3, none⟩ = some (.slice p.registers.A p.registers.l.length p.registers.c) := HQ.out wr HB 3
  by_cases hlt : k < p.registers.l.length
  case pos =>
    obtain ⟨g, of, hA, hall⟩ := RegD.atA HO.out.registers hlt
    obtain ⟨d0, d1, d2⟩ := hall wr HB
    rw [hA] at s3
    have hBe := Lib.hid HB
    have HLT := Lib.hid (show k + 1 ≤ p.registers.l.length from hlt)
    clear HY hall hA
    generalize p.registers.l[k] = s at *
    obtain ⟨nm, z1, z2⟩ := s
    simp only at d0 d1 d2
    by_cases t0 : (40 : Int) < (nm.size : Int)
    case pos =>
      go_wp2
      go_ret
      exact ⟨Yes.no, below_step HW.out (by exact hBe.out)⟩
    go_wp2
    go_roundw
    case rel => exact ⟨k + 1, HLT.out, by go_num, Lib.hid trivial, by exact hBe.out⟩
    case measure => have := HLT.out; simp [intOf]; omega
  have hk' : k = p.registers.l.length := by omega
  subst hk'
  have HBk := Lib.hid HB
  clear hk HB HY
  have s4 : wr.cell? ⟨w.heap.size, 4, none⟩ = some (.slice p.actions.A p.actions.l.length p.actions.c) := HQ.out wr HBk.out 4
  go_wp2
  clear s4 s3 hlt
  go_loopw [5] (fun iv wr => ∃ k : Nat, k ≤ p.actions.l.length ∧ iv = .int .i64 k ∧ Hid (True) ∧ Below W.heap.size W wr) (fun i _ => p.actions.l.length - (intOf i).toNat)
  case atStart => exact ⟨0, Nat.zero_le _, rfl, Lib.hid (trivial), HBk.out⟩
  case round =>
  obtain ⟨k, hk, rfl, HY, HB⟩ := hrel
  have s4 : wr.cell? ⟨w.heap.size, 4, none⟩ = some (.slice p.actions.A p.actions.l.length p.actions.c) := HQ.out wr HB 4
  by_cases hlt : k < p.actions.l.length
  case pos =>
    obtain ⟨g, of, hA, hall⟩ := ActD.atA HO.out.actions hlt
    obtain ⟨d0, d1, d2⟩ := hall wr HB
    have hf := (HO.out.act _ (List.getElem_mem hlt)).below HB
    rw [hA] at s4
    have hBe := Lib.hid HB
    have HLT := Lib.hid (show k + 1 ≤ p.actions.l.length from hlt)
    clear HY hall hA
    generalize p.actions.l[k] = s at *
    obtain ⟨nm, pr, bd⟩ := s
    simp only at d0 d1 d2
    go_wp2_with fail
    refine (lbody_any ⟨nm, pr, bd⟩ wr hf).mono ?_
    rintro e w' ⟨⟨b, rfl, hb⟩, hb2⟩
    cases b with
    | false =>
      go_wp2
      go_ret
      exact ⟨Yes.no, below_step HW.out (below_step hBe.out hb2)⟩
    | true =>
    have HBn := Lib.hid (hb rfl)
    clear hb
    go_wp2
    go_roundw
    case rel => exact ⟨k + 1, HLT.out, by go_num, Lib.hid trivial, (below_step hBe.out hb2)⟩
    case measure => have := HLT.out; simp [intOf]; omega
  have hk' : k = p.actions.l.length := by omega
  subst hk'
  have HBk := Lib.hid HB
  clear hk HB HY
  have s5 : wr.cell? ⟨w.heap.size, 5, none⟩ = some (.slice p.tables.A p.tables.l.length p.tables.c) := HQ.out wr HBk.out 5
  go_wp2
  clear s5 s4 hlt
  go_loopw [6, 7] (fun iv _ wr => ∃ k : Nat, k ≤ p.tables.l.length ∧ iv = .int .i64 k ∧ Hid (True) ∧ Below W.heap.size W wr) (fun i _ _ => p.tables.l.length - (intOf i).toNat)
  case atStart => exact ⟨0, Nat.zero_le _, rfl, Lib.hid (trivial), HBk.out⟩
  case round =>
  obtain ⟨k, hk, rfl, HY, HB⟩ := hrel
  have s5 : wr.cell? ⟨w.heap.size, 5, none⟩ = some (.slice p.tables.A p.tables.l.length p.tables.c) := HQ.out wr HB 5
  by_cases hlt : k < p.tables.l.length
  case pos =>
    obtain ⟨g, of, hA, hall⟩ := TabD.atA HO.out.tables hlt
    obtain ⟨d0, d1, d2, d3, d4, d5⟩ := hall wr HB
    rw [hA] at s5
    have hBe := Lib.hid HB
    have HLT := Lib.hid (show k + 1 ≤ p.tables.l.length from hlt)
    clear HY hall hA
    generalize p.tables.l[k] = s at *
    obtain ⟨nm, ks, ac, da, ar, sz⟩ := s
    simp only at d0 d1 d2 d3 d4 d5
    have hca := @World.cell?_alloc_some
    by_cases t0 : (40 : Int) < (nm.size : Int)
    case pos =>
      go_wp2
      go_ret
      exact ⟨Yes.no, below_step HW.out (by exact below_alloc hBe.out _)⟩
    by_cases t1 : (10 : Int) < (ks.l.length : Int)
    case pos =>
      go_wp2
      go_ret
      exact ⟨Yes.no, below_step HW.out (by exact below_alloc hBe.out _)⟩
    by_cases t2 : (24 : Int) < (ac.l.length : Int)
    case pos =>
      go_wp2
      go_ret
      exact ⟨Yes.no, below_step HW.out (by exact below_alloc hBe.out _)⟩
    by_cases t3 : (10 : Int) < (ar.l.length : Int)
    case pos =>
      go_wp2
      go_ret
      exact ⟨Yes.no, below_step HW.out (by exact below_alloc hBe.out _)⟩
    go_wp2
    go_roundw
    case rel => exact ⟨k + 1, HLT.out, by go_num, Lib.hid trivial, by exact below_alloc hBe.out _⟩
    case measure => have := HLT.out; simp [intOf]; omega
  have hk' : k = p.tables.l.length := by omega
  subst hk'
  have HBk := Lib.hid HB
  clear hk HB HY
  have s6 : wr.cell? ⟨w.heap.size, 6, none⟩ = some (.slice p.states.A p.states.l.length p.states.c) := HQ.out wr HBk.out 6
  go_wp2
  clear s6 s5 hlt
  go_loopw [8] (fun iv wr => ∃ k : Nat, k ≤ p.states.l.length ∧ iv = .int .i64 k ∧ Hid (True) ∧ Below W.heap.size W wr) (fun i _ => p.states.l.length - (intOf i).toNat)
  case atStart => exact ⟨0, Nat.zero_le _, rfl, Lib.hid (trivial), HBk.out⟩
  case round =>
  obtain ⟨k, hk, rfl, HY, HB⟩ := hrel
  have s6 : wr.cell? ⟨w.heap.size, 6, none⟩ = some (.slice p.states.A p.states.l.length p.states.c) := HQ.out wr HB 6
  by_cases hlt : k < p.states.l.length
  case pos =>
    obtain ⟨g, of, hA, hall⟩ := StateD.atA HO.out.states hlt
    obtain ⟨d0, d1, d2, d3, d4, d5, d6⟩ := hall wr HB
    rw [hA] at s6
    have hBe := Lib.hid HB
    have HLT := Lib.hid (show k + 1 ≤ p.states.l.length from hlt)
    clear HY hall hA
    generalize p.states.l[k] = s at *
    obtain ⟨nm, ex, sl, oh, of2, cs, df⟩ := s
    simp only at d0 d1 d2 d3 d4 d5 d6
    by_cases t0 : (40 : Int) < (nm.size : Int)
    case pos =>
      go_wp2
      go_ret
      exact ⟨Yes.no, below_step HW.out (by exact hBe.out)⟩
    by_cases t1 : (8 : Int) < (ex.l.length : Int)
    case pos =>
      go_wp2
      go_ret
      exact ⟨Yes.no, below_step HW.out (by exact hBe.out)⟩
    by_cases t2 : (16 : Int) < (cs.l.length : Int)
    case pos =>
      go_wp2
      go_ret
      exact ⟨Yes.no, below_step HW.out (by exact hBe.out)⟩
    go_wp2
    go_roundw
    case rel => exact ⟨k + 1, HLT.out, by go_num, Lib.hid trivial, by exact hBe.out⟩
    case measure => have := HLT.out; simp [intOf]; omega
  have hk' : k = p.states.l.length := by omega
  subst hk'
  have HBk := Lib.hid HB
  clear hk HB HY
  go_wp2
  go_ret
  exact ⟨Yes.yes ⟨HL.out.1, fun k h => HF.out k h h, HM.out, HL.out.2⟩, below_step HW.out HBk.out⟩
end Go.Proofs.YtbfjknidinkafaaGreat
namespace Go.Proofs.YtbfjknidinkafaaGreat
open Go.RowKit

set_option maxRecDepth 100000 in
set_option maxHeartbeats 8000000 in
theorem csize_any : ∀ (d : Nat) (D : Int) (x : L CtlD) (M : Int) (w : World), D = d → d ≤ 12 → -1 ≤ M → M ≤ 60 → LOk w 5 CtlD.cells x → CtlsOk w x.l →
    Calls Tryz.prog 82 #[.slice x.A x.l.length x.c, .int .i64 M, .int .i64 D] w fun e w' => (∃ n : Int, e = .returned (.int .i64 n) ∧ n ≤ M + 1 ∧ (n ≤ M → ((presM x.l).length : Int) = n) ∧ 0 ≤ n) ∧ Below w.heap.size w w'
  | d, D, ⟨cl, cA, cc⟩, M, w, hD, hd, hM1, hM2, hc, hcs => by
    have IH : Hid (∀ d', d' + 1 = d → ∀ (D : Int) (x : L CtlD) (M : Int) (w : World), D = d' → d' ≤ 12 → -1 ≤ M → M ≤ 60 → LOk w 5 CtlD.cells x → CtlsOk w x.l →
      Calls Tryz.prog 82 #[.slice x.A x.l.length x.c, .int .i64 M, .int .i64 D] w fun e w' => (∃ n : Int, e = .returned (.int .i64 n) ∧ n ≤ M + 1 ∧ (n ≤ M → ((presM x.l).length : Int) = n) ∧ 0 ≤ n) ∧ Below w.heap.size w w') := Lib.hid (fun d' he => by
        subst he
        exact csize_any d')
    have HC := Lib.hid hc
    have HCS := Lib.hid hcs
    have hl := hc.1
    unfold maxLen at hl
    have HDd := Lib.hid hD
    have hD1 : 0 ≤ D := by omega
    have hD2 : D ≤ 12 := by omega
    simp only at hl HCS ⊢
    clear hc hcs hD
    go_enter Tryz.func82, Tryz.ntmps82
    go_wp2
    go_loopw [7, 8] (fun nv iv wr => ∃ (k : Nat) (n : Int), k ≤ cl.length ∧ iv = .int .i64 k ∧ nv = .int .i64 n ∧ n ≤ M + 1 ∧ 0 ≤ n ∧ Hid (n ≤ M → ((presM (cl.take k)).length : Int) = n) ∧ Below w.heap.size w wr) (fun _ i _ => cl.length - (intOf i).toNat)
    case atStart => exact ⟨0, 0, Nat.zero_le _, rfl, rfl, by omega, by omega, Lib.hid (fun _ => rfl), Below.refl _ _⟩
    case round =>
      obtain ⟨k, n, hk, rfl, rfl, hn, hn0, HG, HB⟩ := hrel
      by_cases hlt : k < cl.length
      case neg =>
        have HR : Hid (n ≤ M → ((presM cl).length : Int) = n) := Lib.hid (by have := HG.out; rwa [List.take_of_length_le (by omega)] at this)
        go_wp2
        go_ret
        exact ⟨⟨n, rfl, by omega, HR.out, hn0⟩, HB⟩
      by_cases hn1 : n ≤ M
      case neg =>
        go_wp2
        go_ret
        exact ⟨⟨n, rfl, by omega, fun h => by omega, hn0⟩, HB⟩
      obtain ⟨g0, of0, hA, hall⟩ := CtlD.atA (HC.out.below HB (Nat.le_refl _)) hlt
      simp only at hA
      subst hA
      have HX : Hid (CtlOk w cl[k]) := Lib.hid (ctls_mem HCS.out (List.getElem_mem hlt))
      have HP1 : Hid (presM (cl.take (k + 1)) = presM (cl.take k) ++ cl[k] :: (presM cl[k].th.l ++ presM cl[k].el.l)) := Lib.hid (by rw [take_snoc cl k hlt, presM_snoc])
      generalize cl[k] = x at *
      have HXt : Hid (LOk w 5 CtlD.cells x.th ∧ CtlsOk w x.th.l) := Lib.hid ⟨(ctl_parts HX.out).2.1, (ctl_parts HX.out).2.2.2.1⟩
      have HXe : Hid (LOk w 5 CtlD.cells x.el ∧ CtlsOk w x.el.l) := Lib.hid ⟨(ctl_parts HX.out).2.2.1, (ctl_parts HX.out).2.2.2.2⟩
      clear HX
      obtain ⟨_, _, d2, d3, d4⟩ := hall wr (Below.refl _ _)
      have HN : Hid (∀ a b : Int, ((presM x.th.l).length : Int) = a → ((presM x.el.l).length : Int) = b → ((presM (cl.take (k + 1))).length : Int) = n + 1 + a + b) := Lib.hid (fun a b ha hb => by
        have h1 := HG.out hn1
        rw [HP1.out, List.length_append, List.length_cons, List.length_append]
        omega)
      clear HP1 HG
      have hb4 : Hid (∀ w', Below wr.heap.size wr w' → w'.cell? ⟨g0, of0 + k * 5 + 4, none⟩ = some (.slice x.el.A x.el.l.length x.el.c)) :=
            Lib.hid (fun w' h => (hall w' h).2.2.2.2)
      clear hall
      by_cases h40 : 40 < x.cond.l.length
      · have h40' : (40 : Int) < (x.cond.l.length : Int) := by omega
        clear h40
        go_wp2
        go_ret
        exact ⟨⟨M + 1, by first | rfl | (rw [IntWalk.i64_in (M + 1) (by omega)]), by omega, fun h => absurd h (by omega), by omega⟩, HB⟩
      have h40' : ¬ (40 : Int) < (x.cond.l.length : Int) := by omega
      clear h40
      by_cases hd0 : D = 0
      · have hDb : (D == 0) = true := beq_iff_eq.2 hd0
        go_wp2
        go_ret
        exact ⟨⟨M + 1, by first | rfl | (rw [IntWalk.i64_in (M + 1) (by omega)]), by omega, fun h => absurd h (by omega), by omega⟩, HB⟩
      have hDb : (D == 0) = false := beq_eq_false_iff_ne.2 hd0
      have HIH := Lib.hid (fun x M w => IH.out (d - 1) (by have := HDd.out; omega) (D - 1) x M w (by have := HDd.out; omega) (by omega))
      generalize x.cond = xcd at *
      generalize x.th = xt at *
      generalize x.el = xe at *
      obtain ⟨tl, tA, tc⟩ := xt
      obtain ⟨el, eA, ec⟩ := xe
      simp only at d3 d4 HXt HXe HN hb4
      have HBw := Lib.hid HB
      have hw1 : IntKind.i64.wrap (n + 1) = n + 1 := IntWalk.i64_in (n + 1) (by omega)
      have HCt : Hid (∀ w' M, Below wr.heap.size wr w' → -1 ≤ M → M ≤ 60 → Calls Tryz.prog 82 #[.slice tA tl.length tc, .int .i64 M, .int .i64 (D - 1)] w' fun e w2 => (∃ n : Int, e = .returned (.int .i64 n) ∧ n ≤ M + 1 ∧ (n ≤ M → ((presM tl).length : Int) = n) ∧ 0 ≤ n) ∧ Below w'.heap.size w' w2) :=
        Lib.hid (fun w' M h h1 h2 => HIH.out ⟨tl, tA, tc⟩ M w' h1 h2 (HXt.out.1.below (below_step HBw.out h) (Nat.le_refl _)) (CtlsOk.below (below_step HBw.out h) HXt.out.2))
      have HCe : Hid (∀ w' M, Below wr.heap.size wr w' → -1 ≤ M → M ≤ 60 → Calls Tryz.prog 82 #[.slice eA el.length ec, .int .i64 M, .int .i64 (D - 1)] w' fun e w2 => (∃ n : Int, e = .returned (.int .i64 n) ∧ n ≤ M + 1 ∧ (n ≤ M → ((presM el).length : Int) = n) ∧ 0 ≤ n) ∧ Below w'.heap.size w' w2) :=
        Lib.hid (fun w' M h h1 h2 => HIH.out ⟨el, eA, ec⟩ M w' h1 h2 (HXe.out.1.below (below_step HBw.out h) (Nat.le_refl _)) (CtlsOk.below (below_step HBw.out h) HXe.out.2))
      clear HB HXt HXe HIH
      have H0 := Lib.hid (Below.refl wr.heap.size wr)
      go_wp2_with fail
      refine (HCt.out wr (M - (n + 1)) H0.out (by omega) (by omega)).mono ?_
      rintro e w1 ⟨⟨a, rfl, ha1, ha2, ha0⟩, hb1⟩
      have hA1 : a ≤ M - n := by omega
      have HA2 : Hid (a ≤ M - (n + 1) → ((presM tl).length : Int) = a) := Lib.hid (fun h => ha2 h)
      clear ha1 ha2 d2 d3 d4 HCt
      have d4 := hb4.out w1 hb1
      have HB1 := Lib.hid hb1
      clear hb1
      by_cases hle : n + 1 + a ≤ M
      case neg =>
        have hwq : IntKind.i64.wrap (n + 1 + a) = n + 1 + a := IntWalk.i64_in (n + 1 + a) (by omega)
        go_wp2
        go_roundw
        case rel => exact ⟨k + 1, n + 1 + a, by omega, by go_num, by go_num, by omega, by omega, Lib.hid (fun h => by omega), below_step HBw.out HB1.out⟩
        case measure => simp [intOf]; omega
      go_wp2_with fail
      refine (HCe.out w1 (M - (n + 1 + a)) HB1.out (by omega) (by omega)).mono ?_
      rintro e w2 ⟨⟨b, rfl, hb1, hb2, hb0⟩, hbb⟩
      have hB1 : b ≤ M - (n + 1 + a) + 1 := by omega
      have HB2 : Hid (b ≤ M - (n + 1 + a) → ((presM el).length : Int) = b) := Lib.hid (fun h => hb2 h)
      have HBB := Lib.hid hbb
      clear hb1 hb2 hbb
      go_wp2
      go_roundw
      case rel => exact ⟨k + 1, n + 1 + a + b, by omega, by go_num, by go_num, by omega, by omega, Lib.hid (fun h => HN.out a b (HA2.out (by omega)) (HB2.out (by omega))), below_step HBw.out (below_step HB1.out HBB.out)⟩
      case measure => simp [intOf]; omega
termination_by d => d
theorem csmall_any (x : L CtlD) (w : World) (h : LOk w 5 CtlD.cells x) (h2 : CtlsOk w x.l) :
    Calls Tryz.prog 33 #[.slice x.A x.l.length x.c, .int .i64 40] w fun e w' => Yes e ((presM x.l).length ≤ 40) ∧ Below w.heap.size w w' := by
  have HS := Lib.hid (csize_any 12 12 x 40 w rfl (by decide) (by decide) (by decide) h h2)
  clear h h2
  go_enter Tryz.func33, Tryz.ntmps33
  go_wp2_with fail
  refine HS.out.mono ?_
  rintro e w1 ⟨⟨n, rfl, hn, hp, h0⟩, hb⟩
  have HP := Lib.hid hp
  clear hp
  go_wp2
  go_ret
  exact ⟨⟨decide (n ≤ 40), rfl, fun h => by have := HP.out (of_decide_eq_true h); have := of_decide_eq_true h; omega⟩, hb⟩
/-- the bounds that law36.small tells -/
structure Sm36 (p : ProgD) : Prop where
  headers : p.headers.l.length ≤ 12
  fields : ∀ k (h : k < p.headers.l.length), p.headers.l[k].fields.l.length ≤ 16
  metadata : p.metadata.l.length ≤ 16
  registers : p.registers.l.length ≤ 8
  nodes : (presM p.control.l).length ≤ 40
theorem Sm36.acc {p : ProgD} (h : Sm36 p) (hc : p.headers.l.length ≤ p.headers.c) : AccSm p :=
  ⟨Nat.le_trans h.headers (by decide), fun k => by
    by_cases hk : k < p.headers.l.length
    · rw [nF_at hk]; exact Nat.le_trans (h.fields k hk) (by decide)
    · rw [nF, List.getElem?_eq_none (by omega)]; exact Nat.zero_le _, Nat.le_trans h.metadata (by decide), Nat.le_trans h.registers (by decide), hc⟩
set_option maxRecDepth 100000 in
set_option maxHeartbeats 4000000 in
theorem small36_any (p : ProgD) (w : World) (o : ProgOk w p) :
    Calls Tryz.prog 9 #[.agg (progCells p)] w fun e w' => Yes e (Sm36 p) ∧ Below w.heap.size w w' := by
  obtain ⟨W, hW, hw, HB, hp⟩ := box1 w (progCells p) 31
  have HW := Lib.hid hw
  have HS1 := Lib.hid (fun u (hb : Below W.heap.size W u) => lsmall_any p u (o.below (below_step hw hb)))
  have HS2 := Lib.hid (fun u (hb : Below W.heap.size W u) => csmall_any p.control u (o.control.below (below_step hw hb) (Nat.le_refl _)) (CtlsOk.below (below_step hw hb) o.ctl))
  clear o hw
  go_enter Tryz.func9, Tryz.ntmps9
  go_upto_region 1 with fail
  rw [← hW]
  clear hW
  have hp3 := hp W HB
  go_wp2_with fail
  refine (HS1.out _ HB).mono ?_
  rintro e w1 ⟨⟨b, rfl, hb⟩, hb1⟩
  replace HB := below_step HB hb1
  clear hp3
  have hp3 := hp w1 HB
  cases b with
  | false =>
    go_wp2
    go_ret
    exact ⟨Yes.no, below_step HW.out HB⟩
  | true =>
  have HY := Lib.hid (hb rfl)
  clear hb
  go_wp2_with fail
  refine (HS2.out _ HB).mono ?_
  rintro e w2 ⟨⟨c, rfl, hc⟩, hb2⟩
  replace HB := below_step HB hb2
  cases c with
  | false =>
    go_wp2
    go_ret
    exact ⟨Yes.no, below_step HW.out HB⟩
  | true =>
  have HZ := Lib.hid (hc rfl)
  clear hc
  go_wp2
  go_ret
  exact ⟨Yes.yes ⟨HY.out.1, HY.out.2.1, HY.out.2.2.1, HY.out.2.2.2, HZ.out⟩, below_step HW.out HB⟩
end Go.Proofs.YtbfjknidinkafaaGreat
namespace Go.Proofs.YtbfjknidinkafaaGreat
open Go.RowKit

set_option maxRecDepth 100000 in
set_option maxHeartbeats 4000000 in
theorem rfields31_any (p : ProgD) (h : Nat) (hh : h ≤ p.headers.l.length) (w : World) (o : ProgOk w p) (hs : AccSm p) :
    Calls Tryz.prog 44 #[.agg (progCells p), .int .i64 h] w fun e w' => e = .returned (.int .i64 (preF p h)) ∧ Below w.heap.size w w' := by
  obtain ⟨W, hW⟩ : ∃ W, W = w.alloc (.cells (progCells p) 31) := ⟨_, rfl⟩
  have HW : Hid (Below w.heap.size w W) := Lib.hid (by rw [hW]; exact below1 _ _)
  have HP : Hid (Blk W w.heap.size 31 (progCells p)) := Lib.hid (by rw [hW]; exact Blk.new _ _ _)
  have s1 : W.cell? ⟨w.heap.size, 1, none⟩ = some (.slice p.headers.A p.headers.l.length p.headers.c) := HP.out.cell 1
  have HO := Lib.hid (o.headers.below HW.out (Nat.le_refl _))
  have HF : Hid (∀ k (h : k < p.headers.l.length), nF p k = p.headers.l[k].fields.l.length) := Lib.hid (fun k h => nF_at h)
  have HFS := Lib.hid hs.fields
  have hH := hs.headers
  clear o hs HP
  go_enter Tryz.func44, Tryz.ntmps44
  go_upto_region 1 with fail
  rw [← hW]
  clear hW
  go_wp2
  go_loopw [5, 6] (fun nv iv wr => ∃ k n : Nat, k ≤ h ∧ iv = .int .i64 k ∧ nv = .int .i64 n ∧ n ≤ 100 * k ∧ Hid (n = preF p k) ∧ W = wr) (fun _ i _ => h - (intOf i).toNat)
  case atStart => exact ⟨0, 0, Nat.zero_le _, rfl, rfl, Nat.zero_le _, Lib.hid rfl, rfl⟩
  case round =>
  obtain ⟨k, n, hk, rfl, rfl, hn, HN, rfl⟩ := hrel
  by_cases hlt : k < h
  · have hlk : k < p.headers.l.length := by omega
    obtain ⟨g0, of0, hA, hall⟩ := HeaderD.atA HO.out hlk
    obtain ⟨d0, d1⟩ := hall W (Below.refl _ _)
    have HNk := Lib.hid (HF.out k hlk)
    have HFk := HFS.out k
    rw [HNk.out] at HFk
    rw [hA] at s1
    generalize p.headers.l[k] = x at *
    obtain ⟨xn, ⟨fl, fA, fc⟩⟩ := x
    simp only at d0 d1 HNk HFk
    clear hall hA
    go_wp2
    go_roundw
    case rel => exact ⟨k + 1, n + fl.length, by omega, by go_num, by go_num, by omega, Lib.hid (by rw [preF, ← HN.out, HNk.out]), trivial⟩
    case measure => simp [intOf]; omega
  · have e : k = h := by omega
    subst e
    have HR : Hid (preF p k = n) := Lib.hid HN.out.symm
    go_wp2
    go_ret
    exact ⟨by rw [HR.out]; rfl, HW.out⟩
set_option maxRecDepth 100000 in
set_option maxHeartbeats 8000000 in
theorem rcells31_any (p : ProgD) (w : World) (o : ProgOk w p) (hs : AccSm p) :
    Calls Tryz.prog 14 #[.agg (progCells p)] w fun e w' => e = .returned (.int .i64 (firstN p 4)) ∧ Below w.heap.size w w' := by
  obtain ⟨W, hW, hw, HB, hp⟩ := box1 w (progCells p) 31
  have HW := Lib.hid hw
  have HC := Lib.hid (fun u (hb : Below W.heap.size W u) => rfields31_any p _ (Nat.le_refl _) u (o.below (below_step hw hb)) hs)
  have hf := fN_le hs
  have hH := hs.headers
  have hM := hs.metadata
  have hRg := hs.registers
  have HBw := Lib.hid HB
  have HR : Hid (firstN p 4 = fN p + p.headers.l.length + p.metadata.l.length + p.registers.l.length) := Lib.hid rfl
  have HPf : Hid (preF p p.headers.l.length = fN p) := Lib.hid rfl
  rw [HPf.out] at HC
  generalize fN p = n at *
  clear o hs hw HPf
  go_enter Tryz.func14, Tryz.ntmps14
  go_upto_region 1 with fail
  rw [← hW]
  clear hW HB
  go_region_held3 (fun w' => Below W.heap.size W w') (first | exact HBw.out | exact below_drew HBw.out | (exact below_step (by assumption) (by assumption)) | assumption)
      (first
      | (go_at_call 44; refine (HC.out _ (by assumption)).mono ?_; rintro e w5 ⟨rfl, hb1⟩))
  have HB5 : Hid (Below W.heap.size W _) := Lib.hid (by assumption)
  go_wp2
  go_ret
  refine ⟨?_, below_step HW.out HB5.out⟩
  show Ending.returned (Value.int .i64 (IntKind.i64.wrap (IntKind.i64.wrap (IntKind.i64.wrap ((n : Int) + (p.headers.l.length : Int)) + (p.metadata.l.length : Int)) + (p.registers.l.length : Int)))) = _
  rw [IntWalk.i64_in ((n : Int) + (p.headers.l.length : Int)) (by omega), IntWalk.i64_in ((n : Int) + (p.headers.l.length : Int) + (p.metadata.l.length : Int)) (by omega), IntWalk.i64_in ((n : Int) + (p.headers.l.length : Int) + (p.metadata.l.length : Int) + (p.registers.l.length : Int)) (by omega), HR.out]
  congr 2
set_option maxRecDepth 100000 in
set_option maxHeartbeats 4000000 in
theorem rvalidCell_any (p : ProgD) (i : Nat) (hi : i < p.headers.l.length) (w : World) (o : ProgOk w p) (hs : AccSm p) :
    Calls Tryz.prog 53 #[.agg (progCells p), .int .i64 i] w fun e w' => e = .returned (.int .i64 (fN p + i : Nat)) ∧ Below w.heap.size w w' := by
  obtain ⟨W, hW, hw, HB, hp⟩ := box1 w (progCells p) 31
  have HW := Lib.hid hw
  have HC := Lib.hid (fun u (hb : Below W.heap.size W u) => rfields31_any p _ (Nat.le_refl _) u (o.below (below_step hw hb)) hs)
  have hf := fN_le hs
  have hH := hs.headers
  have HPf : Hid (preF p p.headers.l.length = fN p) := Lib.hid rfl
  rw [HPf.out] at HC
  generalize fN p = n at *
  clear o hs hw HPf
  have hi' : (i : Int) < (p.headers.l.length : Int) := by omega
  have hi0 : ¬ (i : Int) < 0 := by omega
  go_enter Tryz.func53, Tryz.ntmps53
  go_upto_region 1 with fail
  rw [← hW]
  clear hW
  have hp3 := hp W HB
  go_wp2_with fail
  refine (HC.out _ HB).mono ?_
  rintro e w5 ⟨rfl, hb1⟩
  replace HB := below_step HB hb1
  go_wp2
  go_ret
  exact ⟨by first | done | go_num | rfl, below_step HW.out HB⟩
set_option maxRecDepth 100000 in
set_option maxHeartbeats 8000000 in
theorem rmetaCell_any (p : ProgD) (i : Nat) (hi : i < p.metadata.l.length) (w : World) (o : ProgOk w p) (hs : AccSm p) :
    Calls Tryz.prog 54 #[.agg (progCells p), .agg #[.int .i64 (-1), .int .i64 i]] w fun e w' => e = .returned (.int .i64 (fN p + p.headers.l.length + i : Nat)) ∧ Below w.heap.size w w' := by
  obtain ⟨W, hW, hw, HB, hp⟩ := box2 w (progCells p) 31 #[.int .i64 (-1), .int .i64 i] 98
  have HW := Lib.hid hw
  have HC := Lib.hid (fun u (hb : Below W.heap.size W u) => rfields31_any p _ (Nat.le_refl _) u (o.below (below_step hw hb)) hs)
  have hf := fN_le hs
  have hH := hs.headers
  have hM := hs.metadata
  have HPf : Hid (preF p p.headers.l.length = fN p) := Lib.hid rfl
  rw [HPf.out] at HC
  generalize fN p = n at *
  clear o hs hw HPf
  have HBw := Lib.hid HB
  have hi' : (i : Int) < (p.metadata.l.length : Int) := by omega
  have hi0 : (0 : Int) ≤ (i : Int) := by omega
  go_enter Tryz.func54, Tryz.ntmps54
  go_upto_region 1 with fail
  rw [← hW]
  clear hW
  have hp3 := hp W HB
  go_upto_region 2 with fail
  clear hp3 HB
  go_region_held3 (fun w' => Below W.heap.size W w') (first | exact HBw.out | exact below_drew HBw.out | (exact below_step (by assumption) (by assumption)) | assumption)
      (first
      | (go_at_call 44; refine (HC.out _ (by assumption)).mono ?_; rintro e w5 ⟨rfl, hb1⟩))
  have HB5 : Hid (Below W.heap.size W _) := Lib.hid (by assumption)
  go_wp2
  go_ret
  refine ⟨?_, below_step HW.out HB5.out⟩
  show Ending.returned (Value.int .i64 (IntKind.i64.wrap (IntKind.i64.wrap ((n : Int) + (p.headers.l.length : Int)) + (i : Int)))) = _
  rw [IntWalk.i64_in ((n : Int) + (p.headers.l.length : Int)) (by omega), IntWalk.i64_in ((n : Int) + (p.headers.l.length : Int) + (i : Int)) (by omega)]
  congr 2
set_option maxRecDepth 100000 in
set_option maxHeartbeats 8000000 in
theorem rfieldCell_any (p : ProgD) (h f : Nat) (hh : h < p.headers.l.length) (hf : f < nF p h) (w : World) (o : ProgOk w p) (hs : AccSm p) :
    Calls Tryz.prog 54 #[.agg (progCells p), .agg #[.int .i64 h, .int .i64 f]] w fun e w' => e = .returned (.int .i64 (preF p h + f : Nat)) ∧ Below w.heap.size w w' := by
  obtain ⟨W, hW, hw, HB, hp⟩ := box2 w (progCells p) 31 #[.int .i64 h, .int .i64 f] 98
  have HW := Lib.hid hw
  have HC := Lib.hid (fun u (hb : Below W.heap.size W u) => rfields31_any p h (by omega) u (o.below (below_step hw hb)) hs)
  have hpl := preF_le hs h
  have hfs := hs.fields h
  have hH := hs.headers
  obtain ⟨g0, of0, hA, hall⟩ := HeaderD.allA (o.headers.below hw (Nat.le_refl _)) (show 0 < p.headers.l.length by omega)
  have dh := (hall W HB h hh).2
  have dq := fun w' h' => (hall w' h' h hh).2
  have hn := nF_at hh
  rw [hn] at hf hfs
  simp only [progCells, hA] at hp hW HC ⊢
  have hh' : (h : Int) < (p.headers.l.length : Int) := by omega
  generalize preF p h = n at *
  clear o hs hw hall hA hn
  generalize p.headers.l[h].fields = fx at *
  obtain ⟨fl, fA, fc⟩ := fx
  simp only at dh dq hf hfs
  have h1 : ((h : Int) == -1) = false := beq_eq_false_iff_ne.2 (by omega)
  have b0 : decide ((h : Int) < 0) = false := decide_eq_false (by omega)
  have b1 : decide ((p.headers.l.length : Int) ≤ (h : Int)) = false := decide_eq_false (by omega)
  have b2 : decide ((f : Int) < 0) = false := decide_eq_false (by omega)
  have b3 : decide ((fl.length : Int) ≤ (f : Int)) = false := decide_eq_false (by omega)
  go_enter Tryz.func54, Tryz.ntmps54
  go_upto_region 1 with fail
  rw [← hW]
  clear hW
  have hp3 := hp W HB
  go_upto_region 3 with fail
  go_quiet (fail)
  go_upto_region 5 with fail
  have HBw := Lib.hid HB
  clear hp3 HB dh dq
  go_region_held3 (fun w' => Below W.heap.size W w') (first | exact below_drewN HBw.out _ | exact below_drew (below_drewN HBw.out _) | (exact below_step (by assumption) (by assumption)) | assumption)
      (first
      | (go_at_call 44; refine (HC.out _ (by assumption)).mono ?_; rintro e w5 ⟨rfl, hb1⟩))
  have HB5 : Hid (Below W.heap.size W _) := Lib.hid (by assumption)
  go_wp2
  go_ret
  refine ⟨?_, below_step HW.out HB5.out⟩
  show Ending.returned (Value.int .i64 (IntKind.i64.wrap ((n : Int) + (f : Int)))) = _
  rw [IntWalk.i64_in ((n : Int) + (f : Int)) (by omega)]
  congr 2
set_option maxRecDepth 100000 in
set_option maxHeartbeats 4000000 in
theorem rcells36_any (p : ProgD) (w : World) (o : ProgOk w p) (hs : AccSm p) :
    Calls Tryz.prog 42 #[.agg (progCells p)] w fun e w' => e = .returned (.int .i64 (cellsN p)) ∧ Below w.heap.size w w' := by
  obtain ⟨W, hW, hw, HB, hp⟩ := box1 w (progCells p) 31
  have HW := Lib.hid hw
  have HC := Lib.hid (fun u (hb : Below W.heap.size W u) => rcells31_any p u (o.below (below_step hw hb)) hs)
  have hf := fN_le hs
  have hH := hs.headers
  have hM := hs.metadata
  have hRg := hs.registers
  have hsum : firstN p 4 = cellsN p + p.registers.l.length := by show fN p + p.headers.l.length + p.metadata.l.length + p.registers.l.length = _; unfold cellsN; omega
  rw [hsum] at HC
  have hcn : cellsN p ≤ 10200 := by unfold cellsN; omega
  generalize cellsN p = n at *
  clear o hs hw hsum
  have HBw := Lib.hid HB
  go_enter Tryz.func42, Tryz.ntmps42
  go_upto_region 1 with fail
  rw [← hW]
  clear hW HB
  go_region_held3 (fun w' => Below W.heap.size W w') (first | exact HBw.out | exact below_drew HBw.out | (exact below_step (by assumption) (by assumption)) | assumption)
      (first
      | (go_at_call 14; refine (HC.out _ (by assumption)).mono ?_; rintro e w5 ⟨rfl, hb1⟩))
  have HB5 : Hid (Below W.heap.size W _) := Lib.hid (by assumption)
  go_wp2
  go_ret
  refine ⟨?_, below_step HW.out HB5.out⟩
  show Ending.returned (Value.int .i64 (IntKind.i64.wrap (n : Int))) = _
  rw [IntWalk.i64_in (n : Int) (by omega)]
end Go.Proofs.YtbfjknidinkafaaGreat
namespace Go.Proofs.YtbfjknidinkafaaGreat
open Go.RowKit

theorem rwidthC_any (p : ProgD) (h f : Int) (w : World) (o : ProgOk w p) : Calls Tryz.prog 55 #[.agg (progCells p), .agg #[.int .i64 h, .int .i64 f]] w fun e w' => e = .returned (.int .i64 (widthAt p h f)) ∧ Below w.heap.size w w' := rwidth12_any p h f w o
theorem eq_nat_t {a b : Nat} (h : a = b) : ((a : Int) == (b : Int)) = true := by subst h; exact beq_self_eq_true _
theorem eq_int_t {a b : Nat} {c : Int} (hc : (b : Int) = c) (h : a = b) : ((a : Int) == c) = true := by subst h; rw [hc]; exact beq_self_eq_true _
theorem eq_int_f {a b : Nat} {c : Int} (hc : (b : Int) = c) (h : a ≠ b) : ((a : Int) == c) = false := beq_eq_false_iff_ne.2 (by omega)
theorem eq_nat_f {a b : Nat} (h : a ≠ b) : ((a : Int) == (b : Int)) = false := beq_eq_false_iff_ne.2 (by omega)
set_option maxRecDepth 100000 in
set_option maxHeartbeats 2000000 in
theorem rcellWidth_any (p : ProgD) (i : Nat) (hi : i < cellsN p) (w : World) (o : ProgOk w p) (hs : AccSm p) :
    Calls Tryz.prog 17 #[.agg (progCells p), .int .i64 i] w fun e w' => e = .returned (.int .i64 ((wsM p).getD i 0)) ∧ Below w.heap.size w w' := by
  obtain ⟨W, hW, hw, HB, hp⟩ := box1 w (progCells p) 31
  have HW := Lib.hid hw
  have HCv := Lib.hid (fun u (hb : Below W.heap.size W u) i hi => rvalidCell_any p i hi u (o.below (below_step hw hb)) hs)
  have HCm := Lib.hid (fun u (hb : Below W.heap.size W u) i hi => rmetaCell_any p i hi u (o.below (below_step hw hb)) hs)
  have HCf := Lib.hid (fun u (hb : Below W.heap.size W u) h f hh hf => rfieldCell_any p h f hh hf u (o.below (below_step hw hb)) hs)
  have HCw := Lib.hid (fun u (hb : Below W.heap.size W u) (h f : Int) => rwidthC_any p h f u (o.below (below_step hw hb)))
  have HLO := Lib.hid (o.headers.below hw (Nat.le_refl _))
  have HF : Hid (∀ k (h : k < p.headers.l.length), nF p k = p.headers.l[k].fields.l.length) := Lib.hid (fun k h => nF_at h)
  have HWv : Hid (∀ k, k < p.headers.l.length → i = fN p + k → (wsM p).getD i 0 = 1) := Lib.hid (fun k hk e => by
    rw [List.getD_eq_getElem?_getD, e, wsM, cells_val p _ _ hk, Option.getD_some])
  have HWf : Hid (∀ k f, k < p.headers.l.length → f < nF p k → i = preF p k + f → (wsM p).getD i 0 = widthAt p k f) := Lib.hid (fun k f hk hf e => by
    rw [List.getD_eq_getElem?_getD, e, wsM, cells_fld p _ _ hk hf, Option.getD_some])
  have HWm : Hid (∀ f, f < p.metadata.l.length → i = fN p + p.headers.l.length + f → (wsM p).getD i 0 = widthAt p (-1) f) := Lib.hid (fun f hf e => by
    rw [List.getD_eq_getElem?_getD, e, wsM, cells_meta p _ _ hf, Option.getD_some])
  have HR := Lib.hid (cell_cases p hi)
  have hH := hs.headers
  have hM := hs.metadata
  have HFS := Lib.hid hs.fields
  have HB0 := Lib.hid HB
  clear o hs hw hi
  have hs0 : Hid (∀ w', Below W.heap.size W w' → ∀ j, j < 9 → w'.cell? ⟨w.heap.size, j, none⟩ = (progCells p)[j]?) := Lib.hid (fun w' h j hj => hp w' h j hj)
  generalize (wsM p).getD i 0 = R at *
  go_enter Tryz.func17, Tryz.ntmps17
  go_upto_region 1 with fail
  rw [← hW]
  clear hW HB
  go_wp2
  go_loopw [5, 6, 7] (fun hv _ _ wr => ∃ k : Nat, k ≤ p.headers.l.length ∧ hv = .int .i64 k ∧ Hid (∀ j, j < k → i ≠ fN p + j ∧ ∀ f, f < nF p j → i ≠ preF p j + f) ∧ Below W.heap.size W wr) (fun h _ _ _ => p.headers.l.length - (intOf h).toNat)
  case atStart => exact ⟨0, Nat.zero_le _, rfl, Lib.hid (fun j h => absurd h (Nat.not_lt_zero _)), HB0.out⟩
  case round =>
  obtain ⟨k, hk, rfl, HN, HB⟩ := hrel
  by_cases hlt : k < p.headers.l.length
  case neg =>
    have HX : Hid (∃ f, f < p.metadata.l.length ∧ i = fN p + p.headers.l.length + f) := Lib.hid (by
      rcases HR.out with ⟨a, f, ha, hf, e⟩ | ⟨a, ha, e⟩ | h
      · exact absurd e ((HN.out a (by omega)).2 f hf)
      · exact absurd e (HN.out a (by omega)).1
      · exact h)
    have hp3 := hp wr HB
    have HBk := Lib.hid HB
    clear HR HN HCv HCf HWv HWf
    go_wp2
    clear hp3 HB
    go_loopw [8, 9] (fun fv _ wr => ∃ f : Nat, f ≤ p.metadata.l.length ∧ fv = .int .i64 f ∧ Hid (∀ j, j < f → i ≠ fN p + p.headers.l.length + j) ∧ Below W.heap.size W wr) (fun f _ _ => p.metadata.l.length - (intOf f).toNat)
    case atStart => exact ⟨0, Nat.zero_le _, rfl, Lib.hid (fun j h => absurd h (Nat.not_lt_zero _)), HBk.out⟩
    case round =>
    obtain ⟨f, hf, rfl, HN, HB⟩ := hrel
    have hp3 := hp wr HB
    by_cases hlf : f < p.metadata.l.length
    case neg =>
      exfalso
      obtain ⟨j, hj, e⟩ := HX.out
      exact HN.out j (by omega) e
    have hca := @World.cell?_alloc_some
    have HK := Lib.hid (Blk.new wr 98 #[.int .i64 (-1), .int .i64 f])
    have HBw := Lib.hid (below_alloc HB (.cells #[.int .i64 (-1), .int .i64 f] 98))
    go_upto_region 16 with fail
    clear hca HB
    have hp4 := hp _ HBw.out
    go_wp2_with fail
    refine (HCm.out _ HBw.out f hlf).mono ?_
    rintro e w5 ⟨rfl, hb5⟩
    have HB5 := Lib.hid (below_step HBw.out hb5)
    have HK5 := Lib.hid (HK.out.below hb5 HK.out.lt)
    have k0 : w5.cell? ⟨wr.heap.size, 0, none⟩ = some (.int .i64 (-1)) := HK5.out.cell 0
    have k1 : w5.cell? ⟨wr.heap.size, 1, none⟩ = some (.int .i64 f) := HK5.out.cell 1
    clear hp3 hp4 hb5
    have hp3 := hp w5 HB5.out
    by_cases he : i = fN p + p.headers.l.length + f
    · have hq := eq_nat_t he
      have hqi := eq_int_t (c := (fN p : Int) + (p.headers.l.length : Int) + (f : Int)) (by omega) he
      have HRw : Hid (R = widthAt p (-1) f) := Lib.hid (HWm.out f hlf he)
      clear he
      go_wp2_with fail
      refine (HCw.out _ HB5.out _ _).mono ?_
      rintro e w6 ⟨rfl, hb6⟩
      go_wp2
      go_ret
      exact ⟨by rw [HRw.out]; rfl, below_step HW.out (below_step HB5.out hb6)⟩
    · have hq := eq_nat_f he
      have hqi := eq_int_f (c := (fN p : Int) + (p.headers.l.length : Int) + (f : Int)) (by omega) he
      have HN2 : Hid (∀ j, j < f + 1 → i ≠ fN p + p.headers.l.length + j) := Lib.hid (fun j hj => if e : j = f then (by subst e; exact he) else HN.out j (by omega))
      clear he
      go_wp2
      go_roundw
      case rel => exact ⟨f + 1, by omega, by go_num, HN2, HB5.out⟩
      case measure => simp [intOf]; omega
  have hp3 := hp wr HB
  have HBk := Lib.hid HB
  go_wp2_with fail
  refine (HCv.out _ HBk.out k hlt).mono ?_
  rintro e w5 ⟨rfl, hb5⟩
  have HB5 := Lib.hid (below_step HBk.out hb5)
  clear hp3 hb5 HB
  have hp3 := hp w5 HB5.out
  by_cases he : i = fN p + k
  · have hq := eq_nat_t he
    have hqi := eq_int_t (c := (fN p : Int) + (k : Int)) (by omega) he
    have HRw : Hid (R = 1) := Lib.hid (HWv.out k hlt he)
    clear he
    go_wp2
    go_ret
    exact ⟨by rw [HRw.out]; rfl, below_step HW.out HB5.out⟩
  have hq := eq_nat_f he
  have hqi := eq_int_f (c := (fN p : Int) + (k : Int)) (by omega) he
  have HNe := Lib.hid he
  clear he
  go_wp2
  clear hp3 hq hqi
  go_loopw [6, 7] (fun fv _ wr => ∃ f : Nat, f ≤ nF p k ∧ fv = .int .i64 f ∧ Hid (∀ j, j < f → i ≠ preF p k + j) ∧ Below W.heap.size W wr) (fun f _ _ => nF p k - (intOf f).toNat)
  case atStart => exact ⟨0, Nat.zero_le _, rfl, Lib.hid (fun j h => absurd h (Nat.not_lt_zero _)), HB5.out⟩
  case round =>
  obtain ⟨f, hf, rfl, HM, HB⟩ := hrel
  obtain ⟨g0, of0, hA, hall⟩ := HeaderD.atA HLO.out hlt
  obtain ⟨d0, d1⟩ := hall wr HB
  have s1 : wr.cell? ⟨w.heap.size, 1, none⟩ = some (.slice p.headers.A p.headers.l.length p.headers.c) := hp wr HB 1 (by show (1 : Nat) < 9; decide)
  have HNk := Lib.hid (HF.out k hlt)
  have hnk := HNk.out
  have HFk := HFS.out k
  rw [← hnk] at d1
  rw [hA] at s1
  have HPp := Lib.hid hp
  clear hp
  have HA := Lib.hid hA
  clear hA
  generalize p.headers.l[k].fields.A = fA at *
  generalize p.headers.l[k].fields.c = fc at *
  clear hnk hall
  by_cases hlf : f < nF p k
  case neg =>
    have HN2 : Hid (∀ j, j < k + 1 → i ≠ fN p + j ∧ ∀ f, f < nF p j → i ≠ preF p j + f) := Lib.hid (fun j hj => if e : j = k then (by subst e; exact ⟨HNe.out, fun g hg => HM.out g (by omega)⟩) else HN.out j (by omega))
    have HBw := Lib.hid HB
    clear HB
    go_wp2
    go_roundw
    case rel => exact ⟨k + 1, by omega, by go_num, HN2, HBw.out⟩
    case measure => simp [intOf]; omega
  have hca := @World.cell?_alloc_some
  have HK := Lib.hid (Blk.new wr 98 #[.int .i64 k, .int .i64 f])
  have HBw := Lib.hid (below_alloc HB (.cells #[.int .i64 k, .int .i64 f] 98))
  go_upto_region 10 with fail
  clear hca HB s1 d0 d1
  have hp4 := HPp.out _ HBw.out
  go_wp2_with fail
  refine (HCf.out _ HBw.out k f hlt hlf).mono ?_
  rintro e w6 ⟨rfl, hb6⟩
  have HB6 := Lib.hid (below_step HBw.out hb6)
  have HK6 := Lib.hid (HK.out.below hb6 HK.out.lt)
  have k0 : w6.cell? ⟨wr.heap.size, 0, none⟩ = some (.int .i64 k) := HK6.out.cell 0
  have k1 : w6.cell? ⟨wr.heap.size, 1, none⟩ = some (.int .i64 f) := HK6.out.cell 1
  clear hp4 hb6
  have hp3 := HPp.out w6 HB6.out
  by_cases he : i = preF p k + f
  · have hq := eq_nat_t he
    have hqi := eq_int_t (c := (preF p k : Int) + (f : Int)) (by omega) he
    have HRw : Hid (R = widthAt p k f) := Lib.hid (HWf.out k f hlt hlf he)
    clear he
    go_wp2_with fail
    refine (HCw.out _ HB6.out _ _).mono ?_
    rintro e w7 ⟨rfl, hb7⟩
    go_wp2
    go_ret
    exact ⟨by rw [HRw.out]; rfl, below_step HW.out (below_step HB6.out hb7)⟩
  · have hq := eq_nat_f he
    have hqi := eq_int_f (c := (preF p k : Int) + (f : Int)) (by omega) he
    have HN2 : Hid (∀ j, j < f + 1 → i ≠ preF p k + j) := Lib.hid (fun j hj => if e : j = f then (by subst e; exact he) else HM.out j (by omega))
    clear he
    go_wp2
    go_roundw
    case rel => exact ⟨f + 1, by omega, by go_num, HN2, HB6.out⟩
    case measure => simp [intOf]; omega
end Go.Proofs.YtbfjknidinkafaaGreat
namespace Go.Proofs.YtbfjknidinkafaaGreat
open Go.RowKit

theorem results_row_tmp2 {P : Program} {fn : Func} {p u v : Tmp} {ty : TypeId} (h : fn.results = #[.cell p ty, .tmp u, .tmp v]) (tmps : Array Value) (w : World) (g : Nat) (t : TypeId) (cs : Array Value) (d : TypeDesc)
    (hp : tmps.getD p undef = .pointer (some ⟨g, 0, none⟩)) (hg : Blk w g t cs)
    (hu : P.underlying ty = some d) (hd : (match d with | .struct _ | .array _ _ => true | _ => false) = true) (hi : (P.info? ty).map (·.size) = some cs.size) :
    (results fn tmps).run P w = .ok (.tuple #[.agg cs, tmps.getD u undef, tmps.getD v undef]) w := by
  have hp' : tmps[p]?.getD undef = .pointer (some ⟨g, 0, none⟩) := by simpa using hp
  simp [results, h, hp', asAddr, run_loadVar_row w g t ty cs (0, 0) d hg hu hd hi, Result.andThen]
theorem put6 {w : World} {k : Nat} {t : TypeId} {a b c d e f : Value} (h : Blk w k t #[a, b, c, d, e, f]) (x0 x1 x2 x3 x4 x5 : Value) :
    Blk ((((((w.setCell ⟨k, 0, none⟩ x0).setCell ⟨k, 1, none⟩ x1).setCell ⟨k, 2, none⟩ x2).setCell ⟨k, 3, none⟩ x3).setCell ⟨k, 4, none⟩ x4).setCell ⟨k, 5, none⟩ x5) k t #[x0, x1, x2, x3, x4, x5] := (((((h.set_ 0 x0).set_ 1 x1).set_ 2 x2).set_ 3 x3).set_ 4 x4).set_ 5 x5
theorem put6_below {w w1 : World} {B k : Nat} (hb : Below B w w1) (hk : B ≤ k) (x0 x1 x2 x3 x4 x5 : Value) :
    Below B w ((((((w1.setCell ⟨k, 0, none⟩ x0).setCell ⟨k, 1, none⟩ x1).setCell ⟨k, 2, none⟩ x2).setCell ⟨k, 3, none⟩ x3).setCell ⟨k, 4, none⟩ x4).setCell ⟨k, 5, none⟩ x5) := (((((hb.setCell hk _).setCell hk _).setCell hk _).setCell hk _).setCell hk _).setCell hk _
/-- the pool of the reference: left and next, of each size -/
@[reducible] def rpoolCells (c : ChipD) (s : AllocS) : Array Value := #[.int .i64 (c.c8 - s.u0), .int .i64 (c.c16 - s.u1), .int .i64 (c.c32 - s.u2), .int .i64 s.u0, .int .i64 s.u1, .int .i64 s.u2]
/-- what the reference's 'take' returns -/
def rtakeV (c : ChipD) (s : AllocS) : Option (Int × Int × AllocS) → Value
  | none => .tuple #[.agg (rpoolCells c s), .int .i64 0, .int .i64 0]
  | some (z, n, t) => .tuple #[.agg (rpoolCells c t), .int .i64 z, .int .i64 n]
set_option maxRecDepth 100000 in
set_option maxHeartbeats 16000000 in
theorem rtake_any (c : ChipD) (s : AllocS) (ws : Int) (w : World) (h0 : 0 ≤ s.u0 ∧ s.u0 ≤ 64) (h1 : 0 ≤ s.u1 ∧ s.u1 ≤ 64) (h2 : 0 ≤ s.u2 ∧ s.u2 ≤ 64) (hc : c.c8 ≤ 64 ∧ c.c16 ≤ 64 ∧ c.c32 ≤ 64) (hd : 0 ≤ c.c8 ∧ 0 ≤ c.c16 ∧ 0 ≤ c.c32) :
    Calls Tryz.prog 43 #[.agg (rpoolCells c s), .int .i64 ws] w fun e w' => e = .returned (rtakeV c s (takeC c s ws)) ∧ Below w.heap.size w w' := by
  obtain ⟨u0, u1, u2, op⟩ := s
  obtain ⟨k1, k2, k3, k4, k5, c8, c16, c32⟩ := c
  simp only [rpoolCells] at h0 h1 h2 hc hd ⊢
  have HT := Lib.hid (takeC.eq_1 ⟨k1, k2, k3, k4, k5, c8, c16, c32⟩ ⟨u0, u1, u2, op⟩ ws)
  simp only at HT
  generalize takeC ⟨k1, k2, k3, k4, k5, c8, c16, c32⟩ ⟨u0, u1, u2, op⟩ ws = R at *
  go_enter Tryz.func43, Tryz.ntmps43
  go_wp2_with fail
  refine (sizes_any _).mono ?_
  rintro e w1 ⟨rfl, hb1⟩
  have hX1 : Blk w1 w.heap.size 91 #[.int .i64 (c8 - u0), .int .i64 (c16 - u1), .int .i64 (c32 - u2), .int .i64 u0, .int .i64 u1, .int .i64 u2] := ((Blk.new w 91 #[.int .i64 (c8 - u0), .int .i64 (c16 - u1), .int .i64 (c32 - u2), .int .i64 u0, .int .i64 u1, .int .i64 u2]).alloc _).below hb1 (by simp; omega)
  have hR1 : Blk w1 (w.heap.size + 1) 91 #[.int .i64 0, .int .i64 0, .int .i64 0, .int .i64 0, .int .i64 0, .int .i64 0] := (by simpa using Blk.new (w.alloc (.cells #[.int .i64 (c8 - u0), .int .i64 (c16 - u1), .int .i64 (c32 - u2), .int .i64 u0, .int .i64 u1, .int .i64 u2] 91)) 91 #[.int .i64 0, .int .i64 0, .int .i64 0, .int .i64 0, .int .i64 0, .int .i64 0] : Blk _ (w.heap.size + 1) 91 #[.int .i64 0, .int .i64 0, .int .i64 0, .int .i64 0, .int .i64 0, .int .i64 0]).below hb1 (by simp)
  have HB : Below w.heap.size w w1 := below_step (below_alloc (below1 _ _) _) hb1
  have hsz : w.heap.size + 1 < w1.heap.size := hR1.lt
  clear hb1
  refine Exists.elim (⟨_, rfl⟩ : ∃ U, U = w1.alloc (.cells #[.int .i64 8, .int .i64 16, .int .i64 32] 85)) fun U hU => ?_
  have hS : Blk U w1.heap.size 85 #[.int .i64 8, .int .i64 16, .int .i64 32] := by rw [hU]; exact Blk.new _ _ _
  have hX := Lib.hid (show Blk U w.heap.size 91 #[.int .i64 (c8 - u0), .int .i64 (c16 - u1), .int .i64 (c32 - u2), .int .i64 u0, .int .i64 u1, .int .i64 u2] by rw [hU]; exact hX1.alloc _)
  have hR := Lib.hid (show Blk U (w.heap.size + 1) 91 #[.int .i64 0, .int .i64 0, .int .i64 0, .int .i64 0, .int .i64 0, .int .i64 0] by rw [hU]; exact hR1.alloc _)
  have HBU := Lib.hid (show Below w.heap.size w U by rw [hU]; exact below_alloc HB _)
  have p0 : U.cell? ⟨w.heap.size, 0, none⟩ = some (.int .i64 (c8 - u0)) := hX.out.cell 0
  have p1 : U.cell? ⟨w.heap.size, 1, none⟩ = some (.int .i64 (c16 - u1)) := hX.out.cell 1
  have p2 : U.cell? ⟨w.heap.size, 2, none⟩ = some (.int .i64 (c32 - u2)) := hX.out.cell 2
  have p3 : U.cell? ⟨w.heap.size, 3, none⟩ = some (.int .i64 u0) := hX.out.cell 3
  have p4 : U.cell? ⟨w.heap.size, 4, none⟩ = some (.int .i64 u1) := hX.out.cell 4
  have p5 : U.cell? ⟨w.heap.size, 5, none⟩ = some (.int .i64 u2) := hX.out.cell 5
  have f0 : ∀ j, U.frozen? ⟨w.heap.size, j, none⟩ = false := fun j => hX.out.frozen j
  have q0 : U.cell? ⟨w.heap.size + 1, 0, none⟩ = some (.int .i64 0) := hR.out.cell 0
  have q1 : U.cell? ⟨w.heap.size + 1, 1, none⟩ = some (.int .i64 0) := hR.out.cell 1
  have q2 : U.cell? ⟨w.heap.size + 1, 2, none⟩ = some (.int .i64 0) := hR.out.cell 2
  have q3 : U.cell? ⟨w.heap.size + 1, 3, none⟩ = some (.int .i64 0) := hR.out.cell 3
  have q4 : U.cell? ⟨w.heap.size + 1, 4, none⟩ = some (.int .i64 0) := hR.out.cell 4
  have q5 : U.cell? ⟨w.heap.size + 1, 5, none⟩ = some (.int .i64 0) := hR.out.cell 5
  have g0 : ∀ j, U.frozen? ⟨w.heap.size + 1, j, none⟩ = false := fun j => hR.out.frozen j
  have r0 : U.cell? ⟨w1.heap.size, 0, none⟩ = some (.int .i64 8) := hS.cell 0
  have r1 : U.cell? ⟨w1.heap.size, 1, none⟩ = some (.int .i64 16) := hS.cell 1
  have r2 : U.cell? ⟨w1.heap.size, 2, none⟩ = some (.int .i64 32) := hS.cell 2
  clear hX1 hR1 HB hS
  go_upto_region 2 with fail
  rw [← hU]
  clear hU
  go_wp2
  go_loopw [8, 9] (fun iv _ wr => ∃ k : Nat, (k = 0 ∨ k = 1 ∨ k = 2 ∨ k = 3) ∧ iv = .int .i64 (k : Nat) ∧ Hid (0 < k → ¬ (ws ≤ 8 ∧ u0 < c8)) ∧ Hid (1 < k → ¬ (ws ≤ 16 ∧ u1 < c16)) ∧ Hid (2 < k → ¬ (ws ≤ 32 ∧ u2 < c32)) ∧ U = wr) (fun i _ _ => 3 - (intOf i).toNat)
  case atStart => exact ⟨0, by omega, rfl, Lib.hid (fun h => absurd h (by decide)), Lib.hid (fun h => absurd h (by decide)), Lib.hid (fun h => absurd h (by decide)), rfl⟩
  case round =>
  obtain ⟨k, hk, rfl, X0, X1, X2, rfl⟩ := hrel
  rcases hk with rfl | rfl | rfl | rfl
  · skip
    by_cases ha : ws ≤ 8
    case neg =>
      go_wp2
      go_roundw
      case rel => exact ⟨1, by omega, by go_num, Lib.hid (fun _ => (by omega)), Lib.hid (fun h => absurd h (by omega)), Lib.hid (fun h => absurd h (by omega)), trivial⟩
      case measure => simp [intOf]
    by_cases hb : 0 < c8 - u0
    case neg =>
      go_wp2
      go_roundw
      case rel => exact ⟨1, by omega, by go_num, Lib.hid (fun _ => (by omega)), Lib.hid (fun h => absurd h (by omega)), Lib.hid (fun h => absurd h (by omega)), trivial⟩
      case measure => simp [intOf]
    have HR : Hid (R = some (8, u0, ⟨u0 + 1, u1, u2, op⟩)) := Lib.hid (by rw [HT.out]; simp only [if_pos (show ws ≤ 8 ∧ u0 < c8 from ⟨ha, by omega⟩)])
    have e1 : c8 - u0 - 1 = c8 - (u0 + 1) := by omega
    go_upto_region 9 with fail
    go_region
    go_wp2
    try rw [Exit.noGoto_ret]
    try simp only [Exit.jump]
    refine bodyPost_ret (v := .tuple #[.agg #[.int .i64 (c8 - (u0 + 1)), .int .i64 (c16 - (u1)), .int .i64 (c32 - (u2)), .int .i64 (u0 + 1), .int .i64 (u1), .int .i64 (u2)], .int .i64 8, .int .i64 u0]) ?_ rfl ?_
    · refine results_row_tmp2 (fn := Tryz.f43) (p := 4) (u := 5) (v := 6) (ty := 91) rfl _ _ (w.heap.size + 1) 91 #[.int .i64 (c8 - (u0 + 1)), .int .i64 (c16 - (u1)), .int .i64 (c32 - (u2)), .int .i64 (u0 + 1), .int .i64 (u1), .int .i64 (u2)] _ rfl ?_ Tryz.underlying91 rfl (by kernel_rfl)
      exact (put6 ((hR.out.far (by show w.heap.size + 1 ≠ w.heap.size; omega) _).far (by show w.heap.size + 1 ≠ w.heap.size; omega) _) _ _ _ _ _ _).drew
    · exact ⟨by rw [HR.out]; rfl, below_drew (put6_below ((HBU.out.setCell (by exact Nat.le_refl _) _).setCell (by exact Nat.le_refl _) _) (by omega) _ _ _ _ _ _)⟩
  · skip
    have hx0 := X0.out (by omega)
    by_cases ha : ws ≤ 16
    case neg =>
      go_wp2
      go_roundw
      case rel => exact ⟨2, by omega, by go_num, Lib.hid (fun _ => hx0), Lib.hid (fun _ => (by omega)), Lib.hid (fun h => absurd h (by omega)), trivial⟩
      case measure => simp [intOf]
    by_cases hb : 0 < c16 - u1
    case neg =>
      go_wp2
      go_roundw
      case rel => exact ⟨2, by omega, by go_num, Lib.hid (fun _ => hx0), Lib.hid (fun _ => (by omega)), Lib.hid (fun h => absurd h (by omega)), trivial⟩
      case measure => simp [intOf]
    have HR : Hid (R = some (16, u1, ⟨u0, u1 + 1, u2, op⟩)) := Lib.hid (by rw [HT.out]; simp only [if_neg hx0, if_pos (show ws ≤ 16 ∧ u1 < c16 from ⟨ha, by omega⟩)])
    have e1 : c16 - u1 - 1 = c16 - (u1 + 1) := by omega
    go_upto_region 9 with fail
    go_region
    go_wp2
    try rw [Exit.noGoto_ret]
    try simp only [Exit.jump]
    refine bodyPost_ret (v := .tuple #[.agg #[.int .i64 (c8 - (u0)), .int .i64 (c16 - (u1 + 1)), .int .i64 (c32 - (u2)), .int .i64 (u0), .int .i64 (u1 + 1), .int .i64 (u2)], .int .i64 16, .int .i64 u1]) ?_ rfl ?_
    · refine results_row_tmp2 (fn := Tryz.f43) (p := 4) (u := 5) (v := 6) (ty := 91) rfl _ _ (w.heap.size + 1) 91 #[.int .i64 (c8 - (u0)), .int .i64 (c16 - (u1 + 1)), .int .i64 (c32 - (u2)), .int .i64 (u0), .int .i64 (u1 + 1), .int .i64 (u2)] _ rfl ?_ Tryz.underlying91 rfl (by kernel_rfl)
      exact (put6 ((hR.out.far (by show w.heap.size + 1 ≠ w.heap.size; omega) _).far (by show w.heap.size + 1 ≠ w.heap.size; omega) _) _ _ _ _ _ _).drew
    · exact ⟨by rw [HR.out]; rfl, below_drew (put6_below ((HBU.out.setCell (by exact Nat.le_refl _) _).setCell (by exact Nat.le_refl _) _) (by omega) _ _ _ _ _ _)⟩
  · skip
    have hx0 := X0.out (by omega)
    have hx1 := X1.out (by omega)
    by_cases ha : ws ≤ 32
    case neg =>
      go_wp2
      go_roundw
      case rel => exact ⟨3, by omega, by go_num, Lib.hid (fun _ => hx0), Lib.hid (fun _ => hx1), Lib.hid (fun _ => (by omega)), trivial⟩
      case measure => simp [intOf]
    by_cases hb : 0 < c32 - u2
    case neg =>
      go_wp2
      go_roundw
      case rel => exact ⟨3, by omega, by go_num, Lib.hid (fun _ => hx0), Lib.hid (fun _ => hx1), Lib.hid (fun _ => (by omega)), trivial⟩
      case measure => simp [intOf]
    have HR : Hid (R = some (32, u2, ⟨u0, u1, u2 + 1, op⟩)) := Lib.hid (by rw [HT.out]; simp only [if_neg hx0, if_neg hx1, if_pos (show ws ≤ 32 ∧ u2 < c32 from ⟨ha, by omega⟩)])
    have e1 : c32 - u2 - 1 = c32 - (u2 + 1) := by omega
    go_upto_region 9 with fail
    go_region
    go_wp2
    try rw [Exit.noGoto_ret]
    try simp only [Exit.jump]
    refine bodyPost_ret (v := .tuple #[.agg #[.int .i64 (c8 - (u0)), .int .i64 (c16 - (u1)), .int .i64 (c32 - (u2 + 1)), .int .i64 (u0), .int .i64 (u1), .int .i64 (u2 + 1)], .int .i64 32, .int .i64 u2]) ?_ rfl ?_
    · refine results_row_tmp2 (fn := Tryz.f43) (p := 4) (u := 5) (v := 6) (ty := 91) rfl _ _ (w.heap.size + 1) 91 #[.int .i64 (c8 - (u0)), .int .i64 (c16 - (u1)), .int .i64 (c32 - (u2 + 1)), .int .i64 (u0), .int .i64 (u1), .int .i64 (u2 + 1)] _ rfl ?_ Tryz.underlying91 rfl (by kernel_rfl)
      exact (put6 ((hR.out.far (by show w.heap.size + 1 ≠ w.heap.size; omega) _).far (by show w.heap.size + 1 ≠ w.heap.size; omega) _) _ _ _ _ _ _).drew
    · exact ⟨by rw [HR.out]; rfl, below_drew (put6_below ((HBU.out.setCell (by exact Nat.le_refl _) _).setCell (by exact Nat.le_refl _) _) (by omega) _ _ _ _ _ _)⟩
  · have hx0 := X0.out (by omega)
    have hx1 := X1.out (by omega)
    have hx2 := X2.out (by omega)
    have HR : Hid (R = none) := Lib.hid (by rw [HT.out]; simp only [if_neg hx0, if_neg hx1, if_neg hx2])
    go_wp2
    try rw [Exit.noGoto_ret]
    try simp only [Exit.jump]
    refine bodyPost_ret (v := .tuple #[.agg #[.int .i64 (c8 - u0), .int .i64 (c16 - u1), .int .i64 (c32 - u2), .int .i64 u0, .int .i64 u1, .int .i64 u2], .int .i64 0, .int .i64 0]) ?_ rfl ?_
    · refine results_row_tmp2 (fn := Tryz.f43) (p := 4) (u := 5) (v := 6) (ty := 91) rfl _ _ (w.heap.size + 1) 91 #[.int .i64 (c8 - u0), .int .i64 (c16 - u1), .int .i64 (c32 - u2), .int .i64 u0, .int .i64 u1, .int .i64 u2] _ rfl ?_ Tryz.underlying91 rfl (by kernel_rfl)
      exact put6 hR.out _ _ _ _ _ _
    · exact ⟨by rw [HR.out]; rfl, put6_below HBU.out (by omega) _ _ _ _ _ _⟩
end Go.Proofs.YtbfjknidinkafaaGreat
namespace Go.Proofs.YtbfjknidinkafaaGreat
open Go.RowKit

/-- the slot that the reference shares, and the container that the allocation holds open -/
def ShOk (s : AllocS) (sh : SlotD) : Prop := (s.op = slot0 ∧ sh = slot0) ∨ s.op = ⟨sh.size, sh.index, sh.off + 1, sh.width⟩
theorem ShOk.iff {s : AllocS} {sh : SlotD} (h : ShOk s sh) : s.op.off < s.op.size ↔ sh.off + 1 < sh.size := by
  rcases h with ⟨h1, h2⟩ | h1
  · rw [h1, h2]; decide
  · rw [h1]
theorem ShOk.eq {s : AllocS} {sh : SlotD} (h : ShOk s sh) (hl : s.op.off < s.op.size) : s.op = ⟨sh.size, sh.index, sh.off + 1, sh.width⟩ := by
  rcases h with ⟨h1, h2⟩ | h1
  · rw [h1] at hl; exact absurd hl (by decide)
  · exact h1
theorem rchip_any' (c : ChipD) (w : World) : Calls Tryz.prog 16 #[.agg (chipCells c)] w fun e w' => e = .returned (.int .i64 (chipM c)) ∧ Below w.heap.size w w' := rchip_any c.stages c.tables c.gates c.sram c.tcam c.c8 c.c16 c.c32 w
theorem chip_ge {c : ChipD} (h : chipM c = 0) : 0 ≤ c.c8 ∧ 0 ≤ c.c16 ∧ 0 ≤ c.c32 := by
  unfold chipM at h
  split at h
  · rename_i h1
    obtain ⟨_, _, _, ⟨h8, _⟩, ⟨h16, _⟩, ⟨h32, _⟩, _⟩ := h1
    exact ⟨h8, h16, h32⟩
  · cases h
theorem own_set6 {w : World} {B k : Nat} {te : TypeId} {q : Nat} {v : Value} {n : Nat} {xs : List Value} (h : w.ownsRow B te q v n xs) (hk : k < B) (x0 x1 x2 x3 x4 x5 : Value) :
    ((((((w.setCell ⟨k, 0, none⟩ x0).setCell ⟨k, 1, none⟩ x1).setCell ⟨k, 2, none⟩ x2).setCell ⟨k, 3, none⟩ x3).setCell ⟨k, 4, none⟩ x4).setCell ⟨k, 5, none⟩ x5).ownsRow B te q v n xs :=
  ownsRow_setCell_below (ownsRow_setCell_below (own_set4 h hk _ _ _ _) (by exact hk) x4) (by exact hk) x5
theorem far6 {w : World} {g k : Nat} {t : TypeId} {cs : Array Value} (h : Blk w g t cs) (hk : g ≠ k) (x0 x1 x2 x3 x4 x5 : Value) :
    Blk ((((((w.setCell ⟨k, 0, none⟩ x0).setCell ⟨k, 1, none⟩ x1).setCell ⟨k, 2, none⟩ x2).setCell ⟨k, 3, none⟩ x3).setCell ⟨k, 4, none⟩ x4).setCell ⟨k, 5, none⟩ x5) g t cs := ((far4 h hk _ _ _ _).far (by exact hk) x4).far (by exact hk) x5
set_option maxRecDepth 100000 in
set_option maxHeartbeats 8000000 in
theorem ralloc_any (p : ProgD) (n : Int) (c : ChipD) (w : World) (o : ProgOk w p) (hs : AccSm p) (hc : ProgCap p) (hN : (presM p.control.l).length ≤ 90000) :
    Calls Tryz.prog 12 #[.agg (progCells p), .int .i64 n, .agg (chipCells c)] w fun e w' => AllocEnd p n c w e w' := by
  obtain ⟨W, hW, hw, HB, hp⟩ := box2 w (progCells p) 31 (chipCells c) 33
  have HW := Lib.hid hw
  have HCk := Lib.hid (fun u (hb : Below W.heap.size W u) => show Calls _ _ _ u (fun e w' => e = .returned (diagM p).val ∧ Below u.heap.size u w') from rcheck_any p u (o.below (below_step hw hb)) hc hN)
  have HCc := Lib.hid (fun u (hb : Below W.heap.size W u) => rcells36_any p u (o.below (below_step hw hb)) hs)
  have HCw := Lib.hid (fun u (hb : Below W.heap.size W u) i hi => rcellWidth_any p i hi u (o.below (below_step hw hb)) hs)
  have HR := Lib.hid (alloc_out p n c)
  have HV := Lib.hid (fun h => allW_pos (n := n.toNat) (diag_zero (p := p) h))
  have hcl : cellsN p ≤ 10200 := by have := fN_le hs; have := hs.headers; have := hs.metadata; unfold cellsN; omega
  clear o hs hc hN hw
  generalize hdg : diagM p = dg at *
  obtain ⟨dc, dp, di, ds⟩ := dg
  simp only [DiagD.val] at HCk HR HV
  clear hdg
  have hp1 := hp W HB
  go_enter Tryz.func12, Tryz.ntmps12
  go_upto_region 1 with fail
  rw [← hW]
  clear hW
  go_wp2_with fail
  refine (HCk.out _ (by first | exact HB | exact below_alloc HB _ | exact below_alloc (below_alloc HB _) _ | exact below_alloc (below_alloc (below_alloc HB _) _) _)).mono ?_
  rintro e w1 ⟨rfl, hbN⟩
  replace HB := below_step (by first | exact HB | exact below_alloc HB _ | exact below_alloc (below_alloc HB _) _ | exact below_alloc (below_alloc (below_alloc HB _) _) _) hbN
  clear hbN
  clear hp1
  by_cases hd0 : dc = 0
  case neg =>
    have hdb : (dc != 0) = true := bne_iff_ne.2 hd0
    have HR1 := Lib.hid (HR.out.trans (if_pos hd0))
    clear hd0 HR HV HCk HCc HCw hp
    go_wp2
    go_quiet (fail)
    go_wp2
    go_ret2
    exact end_none HR1.out rfl (below_step HW.out (below_drewN (below_alloc HB _) _))
  have hdb : (dc != 0) = false := by rw [hd0]; rfl
  replace HR := Lib.hid (HR.out.trans (if_neg (by simpa using hd0)))
  replace HV := Lib.hid (HV.out hd0)
  subst hd0
  have hp1 := hp _ (below_alloc HB (.cells #[.int .i64 0, .int .i64 dp, .int .i64 di, .int .i64 ds] 44))
  replace HB := below_alloc HB (.cells #[.int .i64 0, .int .i64 dp, .int .i64 di, .int .i64 ds] 44)
  go_wp2_with fail
  refine (rchip_any' c _).mono ?_
  rintro e w2 ⟨rfl, hbN⟩
  replace HB := below_step HB hbN
  have hw2 : W.heap.size ≤ w2.heap.size := HB.size
  clear hbN hp1
  generalize hch : chipM c = ch at *
  by_cases hc0 : ch = 0
  case neg =>
    have hcb : (ch != 0) = true := bne_iff_ne.2 hc0
    have HR1 := Lib.hid (HR.out.trans (if_pos hc0))
    have hp1 := hp _ HB
    have HC2 : Hid (∀ w, Calls Tryz.prog 16 #[.agg (chipCells c)] w fun e w' => e = .returned (.int .i64 ch) ∧ Below w.heap.size w w') := Lib.hid (fun w => by rw [← hch]; exact rchip_any' c w)
    clear hc0 HR HV HCc HCw hp HCk hch
    go_wp2_with fail
    refine (HC2.out _).mono ?_
    rintro e w3 ⟨rfl, hbN⟩
    go_wp2
    go_ret2
    exact end_none HR1.out rfl (below_step HW.out (below_step HB hbN))
  have hcb : (ch != 0) = false := by rw [hc0]; rfl
  replace HR := Lib.hid (HR.out.trans (if_neg (by simpa using hc0)))
  have HI0 : Hid (AInv c alloc0) := Lib.hid (alloc0_inv (by rw [hch]; exact hc0))
  have HCh : Hid (c.c8 ≤ 64 ∧ c.c16 ≤ 64 ∧ c.c32 ≤ 64) := Lib.hid (chip_le (by rw [hch]; exact hc0))
  have HCg : Hid (0 ≤ c.c8 ∧ 0 ≤ c.c16 ∧ 0 ≤ c.c32) := Lib.hid (chip_ge (by rw [hch]; exact hc0))
  subst hc0
  clear hch
  by_cases hn0 : n < 0
  · have HR1 := Lib.hid (HR.out.trans (if_pos (.inl hn0)))
    clear HR HV HCc HCw hp HCk HI0 HCh
    go_wp2
    go_ret2
    exact end_none HR1.out rfl (below_step HW.out HB)
  by_cases hn1 : 24 < n
  · have HR1 := Lib.hid (HR.out.trans (if_pos (.inr hn1)))
    clear HR HV HCc HCw hp HCk HI0 HCh
    go_wp2
    go_ret2
    exact end_none HR1.out rfl (below_step HW.out HB)
  replace HR := Lib.hid (HR.out.trans (if_neg (by omega)))
  obtain ⟨N, rfl⟩ : ∃ N : Nat, n = N := ⟨n.toNat, by omega⟩
  have HRun : Hid (∀ r, runR c alloc0 (allW p N) [] = r → allocRes p N c = match r with | none => ([], 10) | some l => (l, 0)) := Lib.hid (fun r hr => by
    rw [HR.out, ← hr, slotsM, runR, Int.toNat_natCast]
    show (match runC c alloc0 (allW p N) with | none => _ | some l => _) = _
    cases runC c alloc0 (allW p N) with
    | none => rfl
    | some l => rfl)
  clear HR HCk
  have hp2 := hp _ (below_alloc (below_alloc HB (.cells #[.int .i64 c.c8, .int .i64 c.c16, .int .i64 c.c32, .int .i64 0, .int .i64 0, .int .i64 0] 91)) (.cells #[.int .i64 0, .int .i64 0, .int .i64 0, .int .i64 0] 48))
  have hp1 := hp _ HB
  refine Exists.elim (⟨_, rfl⟩ : ∃ U, U = (w2.alloc (.cells #[.int .i64 c.c8, .int .i64 c.c16, .int .i64 c.c32, .int .i64 0, .int .i64 0, .int .i64 0] 91)).alloc (.cells #[.int .i64 0, .int .i64 0, .int .i64 0, .int .i64 0] 48)) fun U hU => ?_
  have HPo : Hid (Blk U w2.heap.size 91 (rpoolCells c alloc0)) := Lib.hid (by rw [hU]; show Blk _ _ _ #[.int .i64 (c.c8 - 0), .int .i64 (c.c16 - 0), .int .i64 (c.c32 - 0), .int .i64 0, .int .i64 0, .int .i64 0]; rw [Int.sub_zero, Int.sub_zero, Int.sub_zero]; exact (Blk.new _ _ _).alloc _)
  have HOp : Hid (Blk U (w2.heap.size + 1) 48 (slotCells slot0)) := Lib.hid (by rw [hU]; show Blk _ _ _ #[.int .i64 0, .int .i64 0, .int .i64 0, .int .i64 0]; simpa using Blk.new (w2.alloc (.cells #[.int .i64 c.c8, .int .i64 c.c16, .int .i64 c.c32, .int .i64 0, .int .i64 0, .int .i64 0] 91)) 48 #[.int .i64 0, .int .i64 0, .int .i64 0, .int .i64 0])
  have HBU : Hid (Below W.heap.size W U) := Lib.hid (by rw [hU]; exact below_alloc (below_alloc HB _) _)
  have hgp : w2.heap.size + 1 < U.heap.size := HOp.out.lt
  rw [← hU] at hp2
  clear HB
  go_upto_region 11 with fail
  rw [← hU]
  clear hp1 hU hp2
  obtain ⟨i0, hi, hz0, hz1, hz2⟩ := info_parts info_slot
  have HLen := Lib.hid (allW_len p N)
  go_wp2
  go_loopw [10, 12, 13, 14, 15, 16, 17] (fun out iv _ _ _ _ _ wr => ∃ (k m : Nat) (A : Option Addr) (cp : Nat) (s : AllocS) (sh : SlotD) (Ls : List SlotD), k ≤ cellsN p + N ∧ iv = .int .i64 k ∧ out = .slice A m cp ∧ m ≤ k ∧ Hid (m = Ls.length ∧ wr.ownsRow U.heap.size 48 4 (.slice A m cp) m (Ls.flatMap SlotD.cells)) ∧ Hid (AInv c s ∧ runR c s ((allW p N).drop k) Ls = runR c alloc0 (allW p N) []) ∧ Hid (ShOk s sh) ∧ s.op.off ≤ 32 ∧ U.heap.size ≤ wr.heap.size ∧ Blk wr w2.heap.size 91 (rpoolCells c s) ∧ Blk wr (w2.heap.size + 1) 48 (slotCells sh) ∧ Below W.heap.size W wr) (fun _ i _ _ _ _ _ _ => cellsN p + N - (intOf i).toNat)
  case atStart => exact ⟨0, 0, none, 0, alloc0, slot0, [], Nat.zero_le _, rfl, rfl, Nat.le_refl _, Lib.hid ⟨rfl, World.ownsRow_nil _ _ _ _⟩, Lib.hid ⟨HI0.out, rfl⟩, Lib.hid (.inl ⟨rfl, rfl⟩), by decide, Nat.le_refl _, HPo.out, HOp.out, HBU.out⟩
  case round =>
  clear HPo HOp
  obtain ⟨k, m, A, cp, s, sh, Ls, hk, rfl, rfl, hm, HG, HRn, HSh, hof, hws, hPo, hOp, HB⟩ := hrel
  have hp1 := hp wr HB
  have HBr := Lib.hid HB
  have HPr := Lib.hid hPo
  have HOr := Lib.hid hOp
  clear HB hPo hOp
  go_wp2_with fail
  refine (HCc.out _ HBr.out).mono ?_
  rintro e wa ⟨rfl, hba⟩
  have HBa := Lib.hid (below_step HBr.out hba)
  have HPa := Lib.hid (HPr.out.below hba HPr.out.lt)
  have HOa := Lib.hid (HOr.out.below hba HOr.out.lt)
  have HGa : Hid (m = Ls.length ∧ wa.ownsRow U.heap.size 48 4 (.slice A m cp) m (Ls.flatMap SlotD.cells)) := Lib.hid ⟨HG.out.1, own_below HG.out.2 hba⟩
  have hwa : U.heap.size ≤ wa.heap.size := Nat.le_trans hws hba.size
  clear hba hp1 HBr HPr HOr HG hws
  by_cases hlt : k < cellsN p + N
  case neg =>
    have hlt' : ¬ (k : Int) < (cellsN p : Int) + (N : Int) := by omega
    have HRd : Hid (allocRes p N c = (Ls, 0)) := Lib.hid (HRun.out (some Ls) (by rw [← HRn.out.2, List.drop_eq_nil_of_le (by rw [HLen.out]; omega), runR_nil]))
    go_wp2
    go_ret2
    have h1 := HGa.out.1
    have h2 := HGa.out.2
    subst h1
    have hsz : w.heap.size ≤ U.heap.size := (below_step HW.out HBU.out).size
    refine ⟨A, cp, by rw [HRd.out]; rfl, ?_, below_step HW.out HBa.out⟩
    rw [HRd.out]
    exact ⟨h2.1, by
      rcases h2.2 with h0 | ⟨g, cap, cur, e, hbg, hr⟩
      · exact .inl h0
      · exact .inr ⟨g, cap, cur, e, Nat.le_trans hsz hbg, hr⟩⟩
  have hlt' : (k : Int) < (cellsN p : Int) + (N : Int) := by omega
  have hp1 := hp wa HBa.out
  go_wp2_with fail
  refine (HCc.out _ HBa.out).mono ?_
  rintro e wb ⟨rfl, hbb⟩
  have HBb := Lib.hid (below_step HBa.out hbb)
  have HPb := Lib.hid (HPa.out.below hbb HPa.out.lt)
  have HOb := Lib.hid (HOa.out.below hbb HOa.out.lt)
  have HGb : Hid (m = Ls.length ∧ wb.ownsRow U.heap.size 48 4 (.slice A m cp) m (Ls.flatMap SlotD.cells)) := Lib.hid ⟨HGa.out.1, own_below HGa.out.2 hbb⟩
  have hwb : U.heap.size ≤ wb.heap.size := Nat.le_trans hwa hbb.size
  clear hbb hp1 HBa HPa HOa HGa hwa hlt'
  go_upto_if 59 with fail
  go_cut [13] from 48 to 62 (fun v wx => ∃ z : Int, v = .int .i64 z ∧ Hid ((allW p N)[k]? = some z) ∧ Below wb.heap.size wb wx)
  case first =>
    by_cases hkc : k < cellsN p
    · have hkc' : (k : Int) < (cellsN p : Int) := by omega
      have hp3 := hp wb HBb.out
      have HZ := Lib.hid (allW_low (p := p) (n := N) hkc)
      go_wp2_with fail
      refine (HCw.out _ HBb.out k hkc).mono ?_
      rintro e w5 ⟨rfl, hbN⟩
      clear hp3
      go_wp2
      go_meet
      case rel => exact ⟨_, rfl, HZ, hbN⟩
    · have hkc' : ¬ (k : Int) < (cellsN p : Int) := by omega
      have HZ := Lib.hid (allW_high (p := p) (n := N) (k := k) (by omega) (by omega))
      have HBe := Lib.hid (Below.refl wb.heap.size wb)
      go_wp2
      go_meet
      case rel => exact ⟨1, rfl, HZ, HBe.out⟩
  case rest =>
  obtain ⟨z, rfl, HZ, hbx⟩ := hcut
  have HPc := Lib.hid (HPb.out.below hbx HPb.out.lt)
  have HOc := Lib.hid (HOb.out.below hbx HOb.out.lt)
  have HGc : Hid (m = Ls.length ∧ wc.ownsRow U.heap.size 48 4 (.slice A m cp) m (Ls.flatMap SlotD.cells)) := Lib.hid ⟨HGb.out.1, own_below HGb.out.2 hbx⟩
  have HBc := Lib.hid (below_step HBb.out hbx)
  have hs3 : U.heap.size ≤ wc.heap.size := Nat.le_trans hwb hbx.size
  have hz1' : Hid (1 ≤ z) := Lib.hid (HV.out z (List.mem_of_getElem? HZ.out))
  clear HGb HBb hbx HPb HOb hwb
  have HSt := Lib.hid (fun x t' (h : stepC c s z = some (x, t')) => And.intro (step_inv hz1'.out HRn.out.1 h) ((runR_some (L := Ls) HZ.out h).symm.trans HRn.out.2))
  have HSn := Lib.hid (fun (h : stepC c s z = none) => (runR_none (L := Ls) HZ.out h).symm.trans HRn.out.2)
  have HIv := Lib.hid HRn.out.1
  have HSe := Lib.hid (stepC.eq_1 c s z)
  clear HRn HZ
  have hsl := HCh.out
  have hsg := HCg.out
  have hu0 := HIv.out.u0
  have hu1 := HIv.out.u1
  have hu2 := HIv.out.u2
  have HOs := Lib.hid HIv.out.op
  have hiff := HSh.out.iff
  have HSq := Lib.hid (fun h => HSh.out.eq h)
  obtain ⟨u0, u1, u2, op⟩ := s
  obtain ⟨sz, si, so, sw⟩ := sh
  simp only at hu0 hu1 hu2 HOs hof HSt HSn HSe HIv hiff HSq
  have HSz : Hid (op.off < op.size → sz ≤ 32 ∧ 0 ≤ so + 1) := Lib.hid (fun h => by
    have h2 := HSq.out h
    rcases HOs.out with h3 | ⟨h3, _, _, h4, _⟩
    · rw [h3] at h; exact absurd h (by decide)
    · rw [h2] at h3 h4; simp only at h3 h4; omega)
  have HOff : Hid (-1 ≤ so ∧ so ≤ 32) := Lib.hid (by
    rcases HSh.out with ⟨h1, h2⟩ | h1
    · injection h2 with _ _ h3 _; subst h3; omega
    · simp only at h1
      rcases HOs.out with h3 | ⟨h3, _, _, h4, _⟩
      · rw [h3] at h1; injection h1 with _ _ h5 _; omega
      · rw [h1] at h4 hof; simp only at h4 hof; omega)
  have ho1 := HOff.out.1
  have ho2 := HOff.out.2
  have o0 : wc.cell? ⟨w2.heap.size + 1, 0, none⟩ = some (.int .i64 sz) := HOc.out.cell 0
  have o1 : wc.cell? ⟨w2.heap.size + 1, 1, none⟩ = some (.int .i64 si) := HOc.out.cell 1
  have o2 : wc.cell? ⟨w2.heap.size + 1, 2, none⟩ = some (.int .i64 so) := HOc.out.cell 2
  have o3 : wc.cell? ⟨w2.heap.size + 1, 3, none⟩ = some (.int .i64 sw) := HOc.out.cell 3
  have fz : ∀ j, wc.frozen? ⟨w2.heap.size + 1, j, none⟩ = false := fun j => HOc.out.frozen j
  by_cases hsh : z = 1 ∧ op.off < op.size
  · have HSs := Lib.hid (HSt.out _ _ (HSe.out.trans (if_pos hsh)))
    obtain ⟨rfl, hlo⟩ := hsh
    have hop := HSq.out hlo
    have hb := HSz.out hlo
    subst hop
    simp only at hlo HSs hof
    clear HSt HSn HSe HIv hiff HSq HSz HOs
    refine Exists.elim (⟨_, rfl⟩ : ∃ V, V = wc.setCell ⟨w2.heap.size + 1, 2, none⟩ (.int .i64 (so + 1))) fun V hV => ?_
    have HPV : Hid (Blk V w2.heap.size 91 (rpoolCells c ⟨u0, u1, u2, ⟨sz, si, so + 1, sw⟩⟩)) := Lib.hid (by rw [hV]; exact HPc.out.far (by show w2.heap.size ≠ w2.heap.size + 1; omega) _)
    have HOV : Hid (Blk V (w2.heap.size + 1) 48 #[.int .i64 sz, .int .i64 si, .int .i64 (so + 1), .int .i64 sw]) := Lib.hid (by rw [hV]; exact HOc.out.set_ 2 _)
    have hown1 : V.ownsRow U.heap.size 48 4 (.slice A m cp) m (Ls.flatMap SlotD.cells) := by rw [hV]; exact ownsRow_setCell_below HGc.out.2 (by show w2.heap.size + 1 < U.heap.size; exact hgp) _
    have HBV : Hid (Below W.heap.size W V) := Lib.hid (by rw [hV]; exact HBc.out.setCell (by show W.heap.size ≤ w2.heap.size + 1; omega) _)
    have hsV : U.heap.size ≤ V.heap.size := by rw [hV]; simpa using hs3
    have HGl := Lib.hid HGc.out.1
    go_upto_region 19 with fail
    rw [← hV]
    clear hV o0 o1 o2 o3 fz HPc HOc HBc HGc
    have o0 : V.cell? ⟨w2.heap.size + 1, 0, none⟩ = some (.int .i64 sz) := HOV.out.cell 0
    have o1 : V.cell? ⟨w2.heap.size + 1, 1, none⟩ = some (.int .i64 si) := HOV.out.cell 1
    have o2 : V.cell? ⟨w2.heap.size + 1, 2, none⟩ = some (.int .i64 (so + 1)) := HOV.out.cell 2
    have o3 : V.cell? ⟨w2.heap.size + 1, 3, none⟩ = some (.int .i64 sw) := HOV.out.cell 3
    go_wp2_with (first
        | (at_builtin; refine wpList_append_own_at _ rfl _ _ 36 rfl U.heap.size 48 i0 _ 4 32 Tryz.underlying36 hi hz0 hz1 hz2 rfl (by decide) _ _ _ rfl (hown1.alloc _) ⟨V.heap.size, 0, none⟩ 1 1 [.int .i64 sz, .int .i64 si, .int .i64 (so + 1), .int .i64 sw] rfl rfl ?f01 ?f02 ?f03 ?f04 ?f05 ?_))
    case f01 => exact new_cells _ _ _
    case f02 => intro u hu; simp only [List.mem_cons, List.not_mem_nil, or_false] at hu; rcases hu with rfl | rfl | rfl | rfl <;> rfl
    case f03 => unfold maxLen; omega
    case f04 => omega
    case f05 => first | omega | (simp; omega)
    intro v1 w6 hown2 hgrow _ _
    obtain ⟨A1, c1, rfl⟩ := row_slice hown2
    have hoa := hown1.alloc (.cells #[.int .i64 sz, .int .i64 si, .int .i64 (so + 1), .int .i64 sw] 48)
    have HP6 := Lib.hid (blk_grown (HPV.out.alloc _) hgrow hoa (by omega))
    have HO6 := Lib.hid (blk_grown (HOV.out.alloc _) hgrow hoa hgp)
    have HB6 : Hid (Below W.heap.size W w6) := Lib.hid ((below_alloc HBV.out _).grown hgrow (below_alloc HBV.out _).size fun j hj => Nat.le_trans HBU.out.size (own_lt hoa j hj).1)
    have hs6 : U.heap.size ≤ w6.heap.size := by have := hgrow.size; simp at this; omega
    have HL6 : Hid (m + 1 = (Ls ++ [(⟨sz, si, so + 1, sw⟩ : SlotD)]).length ∧ w6.ownsRow U.heap.size 48 4 (.slice A1 (m + 1) c1) (m + 1) ((Ls ++ [(⟨sz, si, so + 1, sw⟩ : SlotD)]).flatMap SlotD.cells)) := Lib.hid ⟨by simp [HGl.out], by simpa [SlotD.cells] using hown2⟩
    clear hown1 hown2 hgrow hoa o0 o1 o2 o3 HPV HOV HBV
    go_wp2
    go_roundw
    case rel => exact ⟨k + 1, m + 1, A1, c1, ⟨u0, u1, u2, ⟨sz, si, so + 1 + 1, sw⟩⟩, ⟨sz, si, so + 1, sw⟩, Ls ++ [⟨sz, si, so + 1, sw⟩], by omega, by go_num, rfl, by omega, HL6, Lib.hid ⟨HSs.out.1.1, HSs.out.2⟩, Lib.hid (.inr rfl), by simp only; omega, hs6, HP6.out, HO6.out, HB6.out⟩
    case measure => simp [intOf]; omega
  · have hown0 := HGc.out.2
    have HGl := Lib.hid HGc.out.1
    replace HSe := Lib.hid (HSe.out.trans (if_neg hsh))
    have hcase : (z == 1) = false ∨ ((z == 1) = true ∧ ¬ so + 1 < sz) := by
      by_cases hz : z = 1
      · exact .inr ⟨beq_iff_eq.2 hz, fun h => hsh ⟨hz, hiff.2 h⟩⟩
      · exact .inl (beq_eq_false_iff_ne.2 hz)
    clear hsh hiff HSq HSz
    go_upto_region 17 with fail
    go_cut [72] from 48 to 72 (fun v wx => v = .bool false ∧ wx = wc)
    case first =>
      rcases hcase with hzb | ⟨hzb, hnl⟩
      all_goals
        go_wp2
        go_meet
        case rel => exact ⟨rfl, rfl⟩
    case rest =>
    obtain ⟨rfl, rfl⟩ := hcut
    clear hcase
    have p0 : wc.cell? ⟨w2.heap.size, 0, none⟩ = some (.int .i64 (c.c8 - u0)) := HPc.out.cell 0
    have p1 : wc.cell? ⟨w2.heap.size, 1, none⟩ = some (.int .i64 (c.c16 - u1)) := HPc.out.cell 1
    have p2 : wc.cell? ⟨w2.heap.size, 2, none⟩ = some (.int .i64 (c.c32 - u2)) := HPc.out.cell 2
    have p3 : wc.cell? ⟨w2.heap.size, 3, none⟩ = some (.int .i64 u0) := HPc.out.cell 3
    have p4 : wc.cell? ⟨w2.heap.size, 4, none⟩ = some (.int .i64 u1) := HPc.out.cell 4
    have p5 : wc.cell? ⟨w2.heap.size, 5, none⟩ = some (.int .i64 u2) := HPc.out.cell 5
    have HTk := Lib.hid (rtake_any c ⟨u0, u1, u2, op⟩ z wc ⟨hu0.1, by simp only; omega⟩ ⟨hu1.1, by simp only; omega⟩ ⟨hu2.1, by simp only; omega⟩ HCh.out HCg.out)
    rcases htk : takeC c ⟨u0, u1, u2, op⟩ z with _ | ⟨zz, nn, t⟩
    · rw [htk] at HTk HSe
      simp only [rtakeV] at HTk HSe
      have HRd : Hid (allocRes p N c = ([], 10)) := Lib.hid (HRun.out none (HSn.out HSe.out).symm)
      go_wp2_with fail
      refine HTk.out.mono ?_
      rintro e w6 ⟨rfl, hb6⟩
      have HB6 := Lib.hid (below_step HBc.out hb6)
      clear hown0 HSt HSn HSe HTk hb6 o0 o1 o2 o3 p0 p1 p2 p3 p4 p5 fz
      go_wp2
      go_ret2
      exact end_none HRd.out rfl (below_step HW.out (below_alloc HB6.out _))
    · have hto := take_op htk
      have hzz : zz = 8 ∨ zz = 16 ∨ zz = 32 := by rcases take_cases htk with ⟨h, _⟩ | ⟨h, _⟩ | ⟨h, _⟩ <;> omega
      rw [htk] at HTk HSe
      simp only [rtakeV] at HTk HSe
      have HSs := Lib.hid (HSt.out _ _ HSe.out)
      obtain ⟨t0, t1, t2, top⟩ := t
      simp only at hto
      subst hto
      go_wp2_with fail
      refine HTk.out.mono ?_
      rintro e w6 ⟨rfl, hb6⟩
      have HB6 := Lib.hid (below_step HBc.out hb6)
      have HP6 := Lib.hid (HPc.out.below hb6 HPc.out.lt)
      have HO6 := Lib.hid (HOc.out.below hb6 HOc.out.lt)
      have hown6 := own_below hown0 hb6
      have hs6 : U.heap.size ≤ w6.heap.size := Nat.le_trans hs3 hb6.size
      have hzn : (zz == 0) = false := beq_eq_false_iff_ne.2 (by omega)
      clear hown0 HSt HSn HSe HTk hb6 htk o0 o1 o2 o3 p0 p1 p2 p3 p4 p5 fz HPc HOc HBc HGc
      refine Exists.elim (⟨_, rfl⟩ : ∃ X, X = w6.alloc (.cells #[.int .i64 (c.c8 - t0), .int .i64 (c.c16 - t1), .int .i64 (c.c32 - t2), .int .i64 t0, .int .i64 t1, .int .i64 t2] 91)) fun X hX => ?_
      have HYX : Hid (Blk X w6.heap.size 91 #[.int .i64 (c.c8 - t0), .int .i64 (c.c16 - t1), .int .i64 (c.c32 - t2), .int .i64 t0, .int .i64 t1, .int .i64 t2]) := Lib.hid (by rw [hX]; exact Blk.new _ _ _)
      have HPX := Lib.hid (show Blk X w2.heap.size 91 (rpoolCells c ⟨u0, u1, u2, top⟩) by rw [hX]; exact HP6.out.alloc _)
      have HOX := Lib.hid (show Blk X (w2.heap.size + 1) 48 #[.int .i64 sz, .int .i64 si, .int .i64 so, .int .i64 sw] by rw [hX]; exact HO6.out.alloc _)
      have hownX : X.ownsRow U.heap.size 48 4 (.slice A m cp) m (Ls.flatMap SlotD.cells) := by rw [hX]; exact hown6.alloc _
      have HBX : Hid (Below W.heap.size W X) := Lib.hid (by rw [hX]; exact below_alloc HB6.out _)
      have hsX : U.heap.size ≤ X.heap.size := by rw [hX]; simp; omega
      go_upto_region 21 with fail
      rw [← hX]
      clear hX hown6 HP6 HO6 HB6
      have y0 : X.cell? ⟨w6.heap.size, 0, none⟩ = some (.int .i64 (c.c8 - t0)) := HYX.out.cell 0
      have y1 : X.cell? ⟨w6.heap.size, 1, none⟩ = some (.int .i64 (c.c16 - t1)) := HYX.out.cell 1
      have y2 : X.cell? ⟨w6.heap.size, 2, none⟩ = some (.int .i64 (c.c32 - t2)) := HYX.out.cell 2
      have y3 : X.cell? ⟨w6.heap.size, 3, none⟩ = some (.int .i64 t0) := HYX.out.cell 3
      have y4 : X.cell? ⟨w6.heap.size, 4, none⟩ = some (.int .i64 t1) := HYX.out.cell 4
      have y5 : X.cell? ⟨w6.heap.size, 5, none⟩ = some (.int .i64 t2) := HYX.out.cell 5
      have p0 : X.cell? ⟨w2.heap.size, 0, none⟩ = some (.int .i64 (c.c8 - u0)) := HPX.out.cell 0
      have p1 : X.cell? ⟨w2.heap.size, 1, none⟩ = some (.int .i64 (c.c16 - u1)) := HPX.out.cell 1
      have p2 : X.cell? ⟨w2.heap.size, 2, none⟩ = some (.int .i64 (c.c32 - u2)) := HPX.out.cell 2
      have p3 : X.cell? ⟨w2.heap.size, 3, none⟩ = some (.int .i64 u0) := HPX.out.cell 3
      have p4 : X.cell? ⟨w2.heap.size, 4, none⟩ = some (.int .i64 u1) := HPX.out.cell 4
      have p5 : X.cell? ⟨w2.heap.size, 5, none⟩ = some (.int .i64 u2) := HPX.out.cell 5
      have fx : ∀ j, X.frozen? ⟨w2.heap.size, j, none⟩ = false := fun j => HPX.out.frozen j
      refine Exists.elim (⟨_, rfl⟩ : ∃ Y, Y = (((((X.setCell ⟨w2.heap.size, 0, none⟩ (.int .i64 (c.c8 - t0))).setCell ⟨w2.heap.size, 1, none⟩ (.int .i64 (c.c16 - t1))).setCell ⟨w2.heap.size, 2, none⟩ (.int .i64 (c.c32 - t2))).setCell ⟨w2.heap.size, 3, none⟩ (.int .i64 t0)).setCell ⟨w2.heap.size, 4, none⟩ (.int .i64 t1)).setCell ⟨w2.heap.size, 5, none⟩ (.int .i64 t2)) fun Y hY => ?_
      have HPY : Hid (Blk Y w2.heap.size 91 (rpoolCells c ⟨t0, t1, t2, top⟩)) := Lib.hid (by rw [hY]; exact put6 HPX.out _ _ _ _ _ _)
      have HOY := Lib.hid (show Blk Y (w2.heap.size + 1) 48 #[.int .i64 sz, .int .i64 si, .int .i64 so, .int .i64 sw] by rw [hY]; exact far6 HOX.out (by omega) _ _ _ _ _ _)
      have hownY : Y.ownsRow U.heap.size 48 4 (.slice A m cp) m (Ls.flatMap SlotD.cells) := by rw [hY]; exact own_set6 hownX (by omega) _ _ _ _ _ _
      have HBY : Hid (Below W.heap.size W Y) := Lib.hid (by rw [hY]; exact put6_below HBX.out (by omega) _ _ _ _ _ _)
      have hsY : U.heap.size ≤ Y.heap.size := by rw [hY]; simpa using hsX
      go_upto_region 24 with fail
      rw [← hY]
      clear hY hownX HPX HOX HBX HYX hsX y0 y1 y2 y3 y4 y5 p0 p1 p2 p3 p4 p5 fx
      refine Exists.elim (⟨_, rfl⟩ : ∃ V, V = Y.alloc (.cells #[.int .i64 zz, .int .i64 nn, .int .i64 0, .int .i64 z] 48)) fun V hV => ?_
      have HCV : Hid (Blk V Y.heap.size 48 #[.int .i64 zz, .int .i64 nn, .int .i64 0, .int .i64 z]) := Lib.hid (by rw [hV]; exact Blk.new _ _ _)
      have HPV := Lib.hid (show Blk V w2.heap.size 91 (rpoolCells c ⟨t0, t1, t2, top⟩) by rw [hV]; exact HPY.out.alloc _)
      have HOV := Lib.hid (show Blk V (w2.heap.size + 1) 48 #[.int .i64 sz, .int .i64 si, .int .i64 so, .int .i64 sw] by rw [hV]; exact HOY.out.alloc _)
      have hownV : V.ownsRow U.heap.size 48 4 (.slice A m cp) m (Ls.flatMap SlotD.cells) := by rw [hV]; exact hownY.alloc _
      have HBV : Hid (Below W.heap.size W V) := Lib.hid (by rw [hV]; exact below_alloc HBY.out _)
      have hsV : U.heap.size ≤ V.heap.size := by rw [hV]; simp; omega
      go_upto_region 25 with fail
      rw [← hV]
      clear hV hownY HPY HOY HBY
      have c0 : V.cell? ⟨Y.heap.size, 0, none⟩ = some (.int .i64 zz) := HCV.out.cell 0
      have c1' : V.cell? ⟨Y.heap.size, 1, none⟩ = some (.int .i64 nn) := HCV.out.cell 1
      have c2 : V.cell? ⟨Y.heap.size, 2, none⟩ = some (.int .i64 0) := HCV.out.cell 2
      have c3 : V.cell? ⟨Y.heap.size, 3, none⟩ = some (.int .i64 z) := HCV.out.cell 3
      have o0 : V.cell? ⟨w2.heap.size + 1, 0, none⟩ = some (.int .i64 sz) := HOV.out.cell 0
      have o1 : V.cell? ⟨w2.heap.size + 1, 1, none⟩ = some (.int .i64 si) := HOV.out.cell 1
      have o2 : V.cell? ⟨w2.heap.size + 1, 2, none⟩ = some (.int .i64 so) := HOV.out.cell 2
      have o3 : V.cell? ⟨w2.heap.size + 1, 3, none⟩ = some (.int .i64 sw) := HOV.out.cell 3
      have fz : ∀ j, V.frozen? ⟨w2.heap.size + 1, j, none⟩ = false := fun j => HOV.out.frozen j
      by_cases hz1 : z = 1
      · subst hz1
        refine Exists.elim (⟨_, rfl⟩ : ∃ Q, Q = (((V.setCell ⟨w2.heap.size + 1, 0, none⟩ (.int .i64 zz)).setCell ⟨w2.heap.size + 1, 1, none⟩ (.int .i64 nn)).setCell ⟨w2.heap.size + 1, 2, none⟩ (.int .i64 0)).setCell ⟨w2.heap.size + 1, 3, none⟩ (.int .i64 1)) fun Q hQ => ?_
        have HPQ := Lib.hid (show Blk Q w2.heap.size 91 (rpoolCells c ⟨t0, t1, t2, top⟩) by rw [hQ]; exact far4 HPV.out (by omega) _ _ _ _)
        have HOQ := Lib.hid (show Blk Q (w2.heap.size + 1) 48 #[.int .i64 zz, .int .i64 nn, .int .i64 0, .int .i64 1] by rw [hQ]; exact put4b HOV.out _ _ _ _)
        have HCQ := Lib.hid (show Blk Q Y.heap.size 48 #[.int .i64 zz, .int .i64 nn, .int .i64 0, .int .i64 1] by rw [hQ]; exact far4 HCV.out (by omega) _ _ _ _)
        have hownQ : Q.ownsRow U.heap.size 48 4 (.slice A m cp) m (Ls.flatMap SlotD.cells) := by rw [hQ]; exact own_set4 hownV (by omega) _ _ _ _
        have HBQ : Hid (Below W.heap.size W Q) := Lib.hid (by rw [hQ]; exact put4_below HBV.out (by omega) _ _ _ _)
        have hsQ : U.heap.size ≤ Q.heap.size := by rw [hQ]; simpa using hsV
        have hss := HSs.out
        simp only [if_true] at hss
        have HS3 := Lib.hid hss
        clear hss HSs
        go_upto_region 27 with fail
        rw [← hQ]
        clear hQ HPV HOV HBV hownV c0 c1' c2 c3 o0 o1 o2 o3 fz hsV
        have c0 : Q.cell? ⟨Y.heap.size, 0, none⟩ = some (.int .i64 zz) := HCQ.out.cell 0
        have c1' : Q.cell? ⟨Y.heap.size, 1, none⟩ = some (.int .i64 nn) := HCQ.out.cell 1
        have c2 : Q.cell? ⟨Y.heap.size, 2, none⟩ = some (.int .i64 0) := HCQ.out.cell 2
        have c3 : Q.cell? ⟨Y.heap.size, 3, none⟩ = some (.int .i64 1) := HCQ.out.cell 3
        go_wp2_with (first
                | (at_builtin; refine wpList_append_own_at _ rfl _ _ 36 rfl U.heap.size 48 i0 _ 4 32 Tryz.underlying36 hi hz0 hz1 hz2 rfl (by decide) _ _ _ rfl (hownQ.alloc _) ⟨Q.heap.size, 0, none⟩ 1 1 [.int .i64 zz, .int .i64 nn, .int .i64 0, .int .i64 1] rfl rfl ?k01 ?k02 ?k03 ?k04 ?k05 ?_))
        case k01 => exact new_cells _ _ _
        case k02 => intro u hu; simp only [List.mem_cons, List.not_mem_nil, or_false] at hu; rcases hu with rfl | rfl | rfl | rfl <;> rfl
        case k03 => unfold maxLen; omega
        case k04 => omega
        case k05 => first | omega | (simp; omega)
        intro v1 w7 hown7 hgrow _ _
        obtain ⟨A1, cp1, rfl⟩ := row_slice hown7
        have hoa := hownQ.alloc (.cells #[.int .i64 zz, .int .i64 nn, .int .i64 0, .int .i64 1] 48)
        have HP7 := Lib.hid (blk_grown (HPQ.out.alloc _) hgrow hoa (by omega))
        have HO7 := Lib.hid (blk_grown (HOQ.out.alloc _) hgrow hoa hgp)
        have HB7 : Hid (Below W.heap.size W w7) := Lib.hid ((below_alloc HBQ.out _).grown hgrow (below_alloc HBQ.out _).size fun j hj => Nat.le_trans HBU.out.size (own_lt hoa j hj).1)
        have hs7 : U.heap.size ≤ w7.heap.size := by have := hgrow.size; simp at this; omega
        have HL7 : Hid (m + 1 = (Ls ++ [(⟨zz, nn, 0, 1⟩ : SlotD)]).length ∧ w7.ownsRow U.heap.size 48 4 (.slice A1 (m + 1) cp1) (m + 1) ((Ls ++ [(⟨zz, nn, 0, 1⟩ : SlotD)]).flatMap SlotD.cells)) := Lib.hid ⟨by simp [HGl.out], by simpa [SlotD.cells] using hown7⟩
        clear hown7 hgrow hoa c0 c1' c2 c3 HPQ HOQ HCQ HBQ hownQ hsQ
        go_wp2
        go_roundw
        case rel => exact ⟨k + 1, m + 1, A1, cp1, ⟨t0, t1, t2, ⟨zz, nn, 1, 1⟩⟩, ⟨zz, nn, 0, 1⟩, Ls ++ [⟨zz, nn, 0, 1⟩], by omega, by go_num, rfl, by omega, HL7, Lib.hid ⟨HS3.out.1.1, HS3.out.2⟩, Lib.hid (.inr rfl), by simp only; omega, hs7, HP7.out, HO7.out, HB7.out⟩
        case measure => simp [intOf]; omega
      · have hzb : (z == 1) = false := beq_eq_false_iff_ne.2 hz1
        have hss := HSs.out
        simp only [if_neg hz1] at hss
        have HS3 := Lib.hid hss
        have HPQ := HPV
        have HOQ := HOV
        have HCQ := HCV
        have HBQ := HBV
        have hsQ := hsV
        have hownQ := hownV
        clear hss HSs hz1 o0 o1 o2 o3 fz c0 c1' c2 c3
        go_upto_region 27 with fail
        have c0 : V.cell? ⟨Y.heap.size, 0, none⟩ = some (.int .i64 zz) := HCQ.out.cell 0
        have c1' : V.cell? ⟨Y.heap.size, 1, none⟩ = some (.int .i64 nn) := HCQ.out.cell 1
        have c2 : V.cell? ⟨Y.heap.size, 2, none⟩ = some (.int .i64 0) := HCQ.out.cell 2
        have c3 : V.cell? ⟨Y.heap.size, 3, none⟩ = some (.int .i64 z) := HCQ.out.cell 3
        go_wp2_with (first
                | (at_builtin; refine wpList_append_own_at _ rfl _ _ 36 rfl U.heap.size 48 i0 _ 4 32 Tryz.underlying36 hi hz0 hz1 hz2 rfl (by decide) _ _ _ rfl (hownQ.alloc _) ⟨V.heap.size, 0, none⟩ 1 1 [.int .i64 zz, .int .i64 nn, .int .i64 0, .int .i64 z] rfl rfl ?m01 ?m02 ?m03 ?m04 ?m05 ?_))
        case m01 => exact new_cells _ _ _
        case m02 => intro u hu; simp only [List.mem_cons, List.not_mem_nil, or_false] at hu; rcases hu with rfl | rfl | rfl | rfl <;> rfl
        case m03 => unfold maxLen; omega
        case m04 => omega
        case m05 => first | omega | (simp; omega)
        intro v1 w7 hown7 hgrow _ _
        obtain ⟨A1, cp1, rfl⟩ := row_slice hown7
        have hoa := hownQ.alloc (.cells #[.int .i64 zz, .int .i64 nn, .int .i64 0, .int .i64 z] 48)
        have HP7 := Lib.hid (blk_grown (HPQ.out.alloc _) hgrow hoa (by omega))
        have HO7 := Lib.hid (blk_grown (HOQ.out.alloc _) hgrow hoa hgp)
        have HB7 : Hid (Below W.heap.size W w7) := Lib.hid ((below_alloc HBQ.out _).grown hgrow (below_alloc HBQ.out _).size fun j hj => Nat.le_trans HBU.out.size (own_lt hoa j hj).1)
        have hs7 : U.heap.size ≤ w7.heap.size := by have := hgrow.size; simp at this; omega
        have HL7 : Hid (m + 1 = (Ls ++ [(⟨zz, nn, 0, z⟩ : SlotD)]).length ∧ w7.ownsRow U.heap.size 48 4 (.slice A1 (m + 1) cp1) (m + 1) ((Ls ++ [(⟨zz, nn, 0, z⟩ : SlotD)]).flatMap SlotD.cells)) := Lib.hid ⟨by simp [HGl.out], by simpa [SlotD.cells] using hown7⟩
        clear hown7 hgrow hoa c0 c1' c2 c3 HPQ HOQ HCQ HBQ hownQ hsQ
        go_wp2
        go_roundw
        case rel => exact ⟨k + 1, m + 1, A1, cp1, ⟨t0, t1, t2, top⟩, ⟨sz, si, so, sw⟩, Ls ++ [⟨zz, nn, 0, z⟩], by omega, by go_num, rfl, by omega, HL7, Lib.hid ⟨HS3.out.1.1, HS3.out.2⟩, Lib.hid HSh.out, hof, hs7, HP7.out, HO7.out, HB7.out⟩
        case measure => simp [intOf]; omega
end Go.Proofs.YtbfjknidinkafaaGreat
namespace Go.Proofs.YtbfjknidinkafaaGreat
open Go.RowKit

theorem AllocEnd.lok {p : ProgD} {n : Int} {c : ChipD} {w w' : World} {e : Ending} (h : AllocEnd p n c w e w') :
    ∃ A cp, e = .returned (.tuple #[.slice A (allocRes p n c).1.length cp, .int .i64 (allocRes p n c).2]) ∧ LOk w' 4 SlotD.cells ⟨(allocRes p n c).1, A, cp⟩ ∧ Below w.heap.size w w' := by
  obtain ⟨A, cp, he, ho, hb⟩ := h
  obtain ⟨A', c', hv, _, hl, _⟩ := own_list (cells := SlotD.cells) (fun _ => rfl) ho
  injection hv with h1 _ h2
  subst h1 h2
  exact ⟨_, _, he, hl, hb⟩
theorem nodes_le {p : ProgD} (h : Sm36 p) : (presM p.control.l).length ≤ 90000 := Nat.le_trans h.nodes (by decide)
set_option maxRecDepth 100000 in
set_option maxHeartbeats 8000000 in
theorem phvAllocates_any (p : ProgD) (n : Int) (c : ChipD) (w : World) (h : ProgGood w p) :
    Calls Tryz.prog 3 #[.agg (progCells p), .int .i64 n, .agg (chipCells c)] w fun e w' => e = .returned (.bool true) ∧ Below w.heap.size w w' := by
  have o := h.ok
  have hcp := h.cap
  have hle := h.headers.le
  obtain ⟨W, hW, hw, HB, hp⟩ := box2 w (progCells p) 31 (chipCells c) 33
  obtain ⟨⟨l, ec⟩, hr⟩ : ∃ r, r = allocRes p n c := ⟨_, rfl⟩
  have HW := Lib.hid hw
  have HS := Lib.hid (fun u (hb : Below W.heap.size W u) => small36_any p u (o.below (below_step hw hb)))
  have HA1 : Hid (Sm36 p → ∀ u, Below W.heap.size W u → Calls Tryz.prog 11 #[.agg (progCells p), .int .i64 n, .agg (chipCells c)] u fun e w' => ∃ A cp, e = .returned (.tuple #[.slice A l.length cp, .int .i64 ec]) ∧ LOk w' 4 SlotD.cells ⟨l, A, cp⟩ ∧ Below u.heap.size u w') := Lib.hid (fun hs u hb =>
    (alloc_any p n c u (o.below (below_step hw hb)) (hs.acc hle) hcp (nodes_le hs)).mono fun e w' he => by have := he.lok; rwa [← hr] at this)
  have HA2 : Hid (Sm36 p → ∀ u, Below W.heap.size W u → Calls Tryz.prog 12 #[.agg (progCells p), .int .i64 n, .agg (chipCells c)] u fun e w' => ∃ A cp, e = .returned (.tuple #[.slice A l.length cp, .int .i64 ec]) ∧ LOk w' 4 SlotD.cells ⟨l, A, cp⟩ ∧ Below u.heap.size u w') := Lib.hid (fun hs u hb =>
    (ralloc_any p n c u (o.below (below_step hw hb)) (hs.acc hle) hcp (nodes_le hs)).mono fun e w' he => by have := he.lok; rwa [← hr] at this)
  have HEq : Hid (∀ A cp A2 cp2 u, LOk u 4 SlotD.cells ⟨l, A, cp⟩ → LOk u 4 SlotD.cells ⟨l, A2, cp2⟩ → Calls Tryz.prog 13 #[.slice A l.length cp, .slice A2 l.length cp2] u fun e w' => e = .returned (.bool true) ∧ Below u.heap.size u w') := Lib.hid (fun A cp A2 cp2 u h1 h2 =>
    (equal_slots ⟨l, A, cp⟩ ⟨l, A2, cp2⟩ u h1 h2).mono fun _ _ hh => ⟨says_true hh.1 rfl, hh.2⟩)
  have hee : (ec == ec) = true := beq_self_eq_true _
  clear o hcp hle hw h hr
  go_enter Tryz.func3, Tryz.ntmps3
  go_upto_region 1 with fail
  rw [← hW]
  clear hW
  have hp3 := hp W HB
  go_wp2_with fail
  refine (HS.out _ HB).mono ?_
  rintro e w1 ⟨⟨b, rfl, hb⟩, hb1⟩
  have HB1 := Lib.hid (below_step HB hb1)
  clear hp3 HB hb1
  have hp3 := hp w1 HB1.out
  cases b with
  | false =>
    go_wp2_with fail
    refine (works36_any _).mono ?_
    rintro e w2 ⟨rfl, hb2⟩
    go_wp2
    go_ret
    exact ⟨rfl, below_step HW.out (below_step HB1.out hb2)⟩
  | true =>
  have HY := Lib.hid (hb rfl)
  clear hb
  go_wp2_with fail
  refine (HA1.out HY.out _ HB1.out).mono ?_
  rintro e w2 ⟨A, cp, rfl, hl, hb2⟩
  have HB2 := Lib.hid (below_step HB1.out hb2)
  have HL := Lib.hid hl
  clear hp3 hb2 hl
  have hp3 := hp w2 HB2.out
  go_wp2_with fail
  refine (HA2.out HY.out _ HB2.out).mono ?_
  rintro e w3 ⟨A2, cp2, rfl, hl2, hb3⟩
  have HB3 := Lib.hid (below_step HB2.out hb3)
  have HL3 := Lib.hid (HL.out.below hb3 (Nat.le_refl _))
  have HM3 := Lib.hid hl2
  clear hp3 hb3 hl2
  go_wp2_with fail
  refine (HEq.out A cp A2 cp2 w3 HL3.out HM3.out).mono ?_
  rintro e w4 ⟨rfl, hb4⟩
  go_wp2_with fail
  refine (works36_any _).mono ?_
  rintro e w5 ⟨rfl, hb5⟩
  go_wp2
  go_ret
  exact ⟨rfl, below_step HW.out (below_step HB3.out (below_step hb4 hb5))⟩
end Go.Proofs.YtbfjknidinkafaaGreat
