/- Walks of law 21's sizes: Small, largeAction, largeState. No condition but that the parts lie in memory. The walk of law 21's TooLarge. No condition but that the program lies in memory. Arguments of any type, read from memory as lists and structs, and read again in a later world. Reading programs. The walk of the law ResourceTables, and the reading of a unit. No condition but that the program was read from memory. -/
import Derived.Test.YtgfbikknkcaneaaGreatHd
import Derived.Test.YtgfbikknkcaneaaGreatRep
import Derived.ChangeArms
import Derived.ReadAgain
import Derived.ChangeOld
import Derived.WideShapes
import Derived.Below
import Derived.ChangeSame
import Derived.SizedLaws
import Derived.Test.YtgfbikknkcaneaaGreatHk
import Derived.Test.YtgfbikknkcaneaaGreatHc
import Derived.Deep.RegionHeld3
namespace Go.Proofs.YtgfbikknkcaneaaGreat
open Go.RowKit

/-- a call tells a truth value of which Q holds -/
def Tells (e : Ending) (Q : Bool → Prop) : Prop := ∃ b, e = .returned (.bool b) ∧ Q b
structure SmallH (h : HeaderD) : Prop where
  name : h.name.size ≤ 30
  len : h.fields.l.length ≤ 20
  names : ∀ f ∈ h.fields.l, f.name.size ≤ 30
theorem take_all {α : Type} {l : List α} {k : Nat} {Q : α → Prop} (hk : k < l.length) (h : ∀ x ∈ l.take k, Q x) (hx : Q l[k]) : ∀ x ∈ l.take (k + 1), Q x := by
  intro x hm
  rw [List.take_succ_eq_append_getElem hk, List.mem_append] at hm
  rcases hm with hm | hm
  · exact h x hm
  · rw [List.mem_singleton] at hm; subst hm; exact hx
set_option maxRecDepth 100000 in
set_option maxHeartbeats 2000000 in
theorem small_any (h : HeaderD) (w : World) (o : LOk w 2 FieldD.cells h.fields) :
    Calls Tryz.prog 26 #[.agg #[.string h.name, .slice h.fields.A h.fields.l.length h.fields.c]] w fun e w' => Tells e (fun b => b = true → SmallH h) ∧ Below w.heap.size w w' := by
  obtain ⟨nm, ⟨l, A0, c0⟩⟩ := h
  simp only
  obtain ⟨W, hW, hw, HB, hp⟩ := box1 w #[.string nm, .slice A0 l.length c0] 61
  have HW := Lib.hid hw
  have HX := Lib.hid (o.below hw (Nat.le_refl _))
  clear o hw
  by_cases h1 : 30 < nm.size
  · have h1' : (30 : Int) < (nm.size : Int) := by omega
    go_enter Tryz.func26, Tryz.ntmps26
    go_upto_region 1 with fail
    rw [← hW]
    clear hW
    go_wp2
    go_ret
    exact ⟨⟨false, rfl, (by intro h; cases h)⟩, below_step HW.out HB⟩
  have h1' : ¬ (30 : Int) < (nm.size : Int) := by omega
  by_cases h2 : 20 < l.length
  · have h2' : (20 : Int) < (l.length : Int) := by omega
    go_enter Tryz.func26, Tryz.ntmps26
    go_upto_region 1 with fail
    rw [← hW]
    clear hW
    go_wp2
    go_ret
    exact ⟨⟨false, rfl, (by intro h; cases h)⟩, below_step HW.out HB⟩
  have h2' : ¬ (20 : Int) < (l.length : Int) := by omega
  have HS := Lib.hid (And.intro h1 h2)
  clear h1 h2
  go_enter Tryz.func26, Tryz.ntmps26
  go_upto_region 1 with fail
  rw [← hW]
  clear hW
  go_wp2
  have HB0 := Lib.hid HB
  clear HB
  go_loopw [3] (fun iv wr => ∃ k : Nat, k ≤ l.length ∧ iv = .int .i64 k ∧ (∀ f ∈ l.take k, f.name.size ≤ 30) ∧ Below W.heap.size W wr) (fun i _ => l.length - (intOf i).toNat)
  case atStart => exact ⟨0, Nat.zero_le _, rfl, fun f h => by simp at h, HB0.out⟩
  case round =>
    obtain ⟨k, hk, rfl, hpre, HB⟩ := hrel
    have HPre := Lib.hid hpre
    clear hpre
    have hp1 := hp wr HB
    by_cases hlt : k < l.length
    · obtain ⟨g, of, hA, d0, d1⟩ := FieldD.at (HX.out.below HB (Nat.le_refl _)) hlt
      simp only at hA d0 d1
      subst hA
      have HT : Hid (l[k].name.size ≤ 30 → ∀ f ∈ l.take (k + 1), f.name.size ≤ 30) := Lib.hid (fun h => take_all hlt HPre.out h)
      generalize l[k] = y at *
      by_cases h3 : 30 < y.name.size
      · have h3' : (30 : Int) < (y.name.size : Int) := by omega
        clear h3
        go_wp2
        go_ret
        exact ⟨⟨false, rfl, (by intro h; cases h)⟩, below_step HW.out HB⟩
      have h3' : ¬ (30 : Int) < (y.name.size : Int) := by omega
      have HT2 := Lib.hid (HT.out (by omega))
      clear h3
      go_wp2
      go_roundw
      case rel => exact ⟨k + 1, by omega, by go_num, HT2.out, HB⟩
      case measure => simp [intOf]; omega
    · go_wp2
      go_ret
      exact ⟨⟨true, rfl, fun _ => ⟨by have := HS.out.1; simp only; omega, by have := HS.out.2; simp only; omega, fun f hf => HPre.out f (by rw [List.take_of_length_le (by omega)]; exact hf)⟩⟩, below_step HW.out HB⟩

structure SmallA (a : ActD) : Prop where
  name : a.name.size ≤ 60
  params : a.params.l.length ≤ 8
  body : a.body.l.length ≤ 16
  stmts : ∀ s ∈ a.body.l, s.index.l.length ≤ 40 ∧ s.value.l.length ≤ 40
set_option maxRecDepth 100000 in
set_option maxHeartbeats 2000000 in
theorem largeAction_any (a : ActD) (w : World) (o : LOk w 7 StmtD.cells a.body) :
    Calls Tryz.prog 30 #[.agg #[.string a.name, .slice a.params.A a.params.l.length a.params.c, .slice a.body.A a.body.l.length a.body.c]] w fun e w' => Tells e (fun b => b = false → SmallA a) ∧ Below w.heap.size w w' := by
  obtain ⟨nm, ⟨pl, pA, pc⟩, ⟨l, A0, c0⟩⟩ := a
  simp only
  obtain ⟨W, hW, hw, HB, hp⟩ := box1 w #[.string nm, .slice pA pl.length pc, .slice A0 l.length c0] 68
  have HW := Lib.hid hw
  have HX := Lib.hid (o.below hw (Nat.le_refl _))
  clear o hw
  by_cases h0 : 8 < pl.length
  · have h1' : (8 : Int) < (pl.length : Int) := by omega
    go_enter Tryz.func30, Tryz.ntmps30
    go_upto_region 1 with fail
    rw [← hW]
    clear hW
    go_wp2
    go_ret
    exact ⟨⟨true, rfl, (by intro h; cases h)⟩, below_step HW.out HB⟩
  have h0' : ¬ (8 : Int) < (pl.length : Int) := by omega
  by_cases h1 : 16 < l.length
  · have h1' : (16 : Int) < (l.length : Int) := by omega
    go_enter Tryz.func30, Tryz.ntmps30
    go_upto_region 1 with fail
    rw [← hW]
    clear hW
    go_wp2
    go_ret
    exact ⟨⟨true, rfl, (by intro h; cases h)⟩, below_step HW.out HB⟩
  have h1' : ¬ (16 : Int) < (l.length : Int) := by omega
  by_cases h2 : 60 < nm.size
  · have h2' : (60 : Int) < (nm.size : Int) := by omega
    go_enter Tryz.func30, Tryz.ntmps30
    go_upto_region 1 with fail
    rw [← hW]
    clear hW
    go_wp2
    go_ret
    exact ⟨⟨true, rfl, (by intro h; cases h)⟩, below_step HW.out HB⟩
  have h2' : ¬ (60 : Int) < (nm.size : Int) := by omega
  have HS := Lib.hid (And.intro h0 (And.intro h1 h2))
  clear h0 h1 h2
  go_enter Tryz.func30, Tryz.ntmps30
  go_upto_region 1 with fail
  rw [← hW]
  clear hW
  go_wp2
  have HB0 := Lib.hid HB
  clear HB
  go_loopw [3] (fun iv wr => ∃ k : Nat, k ≤ l.length ∧ iv = .int .i64 k ∧ (∀ s ∈ l.take k, s.index.l.length ≤ 40 ∧ s.value.l.length ≤ 40) ∧ Below W.heap.size W wr) (fun i _ => l.length - (intOf i).toNat)
  case atStart => exact ⟨0, Nat.zero_le _, rfl, fun f h => by simp at h, HB0.out⟩
  case round =>
    obtain ⟨k, hk, rfl, hpre, HB⟩ := hrel
    have HPre := Lib.hid hpre
    clear hpre
    have hp1 := hp wr HB
    by_cases hlt : k < l.length
    · obtain ⟨g, of, hA, d0, d1, d2, d3, d4, d5, d6⟩ := StmtD.at (HX.out.below HB (Nat.le_refl _)) hlt
      simp only at hA d0 d1 d2 d3 d4 d5 d6
      subst hA
      have HT : Hid (l[k].index.l.length ≤ 40 ∧ l[k].value.l.length ≤ 40 → ∀ s ∈ l.take (k + 1), s.index.l.length ≤ 40 ∧ s.value.l.length ≤ 40) := Lib.hid (fun h => take_all hlt HPre.out h)
      generalize l[k] = y at *
      by_cases h3 : 40 < y.index.l.length
      · have h3' : (40 : Int) < (y.index.l.length : Int) := by omega
        clear h3
        go_wp2
        go_ret
        exact ⟨⟨true, rfl, (by intro h; cases h)⟩, below_step HW.out HB⟩
      have h3' : ¬ (40 : Int) < (y.index.l.length : Int) := by omega
      by_cases h4 : 40 < y.value.l.length
      · have h4' : (40 : Int) < (y.value.l.length : Int) := by omega
        clear h3 h4
        go_wp2
        go_ret
        exact ⟨⟨true, rfl, (by intro h; cases h)⟩, below_step HW.out HB⟩
      have h4' : ¬ (40 : Int) < (y.value.l.length : Int) := by omega
      have HT2 := Lib.hid (HT.out ⟨by omega, by omega⟩)
      clear h3 h4
      go_wp2
      go_roundw
      case rel => exact ⟨k + 1, by omega, by go_num, HT2.out, HB⟩
      case measure => simp [intOf]; omega
    · go_wp2
      go_ret
      exact ⟨⟨false, rfl, fun _ => ⟨by have := HS.out.2.2; simp only; omega, by have := HS.out.1; simp only; omega, by have := HS.out.2.1; simp only; omega, fun f hf => HPre.out f (by rw [List.take_of_length_le (by omega)]; exact hf)⟩⟩, below_step HW.out HB⟩

structure SmallS (s : StateD) : Prop where
  name : s.name.size ≤ 60
  extract : s.extract.l.length ≤ 8
  cases : s.cases.l.length ≤ 12
set_option maxRecDepth 100000 in
set_option maxHeartbeats 2000000 in
theorem largeState_any (s : StateD) (w : World) :
    Calls Tryz.prog 31 #[.agg #[.string s.name, .slice s.extract.A s.extract.l.length s.extract.c, .bool s.sel, .int .i64 s.oh, .int .i64 s.of, .slice s.cases.A s.cases.l.length s.cases.c, .int .i64 s.dflt]] w fun e w' => Tells e (fun b => b = false → SmallS s) ∧ Below w.heap.size w w' := by
  obtain ⟨nm, ⟨pl, pA, pc⟩, sl, oh, of, ⟨l, A0, c0⟩, df⟩ := s
  simp only
  obtain ⟨W, hW, hw, HB, hp⟩ := box1 w #[.string nm, .slice pA pl.length pc, .bool sl, .int .i64 oh, .int .i64 of, .slice A0 l.length c0, .int .i64 df] 73
  have HW := Lib.hid hw
  clear hw
  by_cases h0 : 8 < pl.length
  · have h1' : (8 : Int) < (pl.length : Int) := by omega
    go_enter Tryz.func31, Tryz.ntmps31
    go_upto_region 1 with fail
    rw [← hW]
    clear hW
    go_wp2
    go_ret
    exact ⟨⟨true, rfl, (by intro h; cases h)⟩, below_step HW.out HB⟩
  have h0' : ¬ (8 : Int) < (pl.length : Int) := by omega
  by_cases h1 : 12 < l.length
  · have h1' : (12 : Int) < (l.length : Int) := by omega
    go_enter Tryz.func31, Tryz.ntmps31
    go_upto_region 1 with fail
    rw [← hW]
    clear hW
    go_wp2
    go_ret
    exact ⟨⟨true, rfl, (by intro h; cases h)⟩, below_step HW.out HB⟩
  have h1' : ¬ (12 : Int) < (l.length : Int) := by omega
  by_cases h2 : 60 < nm.size
  · have h2' : (60 : Int) < (nm.size : Int) := by omega
    go_enter Tryz.func31, Tryz.ntmps31
    go_upto_region 1 with fail
    rw [← hW]
    clear hW
    go_wp2
    go_ret
    exact ⟨⟨true, rfl, (by intro h; cases h)⟩, below_step HW.out HB⟩
  have h2' : ¬ (60 : Int) < (nm.size : Int) := by omega
  have HS := Lib.hid (And.intro h0 (And.intro h1 h2))
  clear h0 h1 h2
  go_enter Tryz.func31, Tryz.ntmps31
  go_upto_region 1 with fail
  rw [← hW]
  clear hW
  go_wp2
  go_ret
  exact ⟨⟨false, rfl, fun _ => ⟨by have := HS.out.2.2; simp only; omega, by have := HS.out.1; simp only; omega, by have := HS.out.2.1; simp only; omega⟩⟩, below_step HW.out HB⟩
end Go.Proofs.YtgfbikknkcaneaaGreat
namespace Go.Proofs.YtgfbikknkcaneaaGreat
open Go.RowKit

structure SmallT (t : TabD) : Prop where
  name : t.name.size ≤ 60
  keys : t.keys.l.length ≤ 10
  acts : t.acts.l.length ≤ 24
  args : t.args.l.length ≤ 8
/-- a program that is not too large -/
structure SmallP (p : ProgD) : Prop where
  name : p.name.size ≤ 60
  headers : p.headers.l.length ≤ 16
  metadata : p.metadata.l.length ≤ 20
  registers : p.registers.l.length ≤ 8
  actions : p.actions.l.length ≤ 24
  tables : p.tables.l.length ≤ 16
  states : p.states.l.length ≤ 16
  deparser : p.deparser.l.length ≤ 16
  nodes : (presM p.control.l).length ≤ 60
  conds : ∀ x ∈ presM p.control.l, x.cond.l.length ≤ 40
  hdr : ∀ h ∈ p.headers.l, SmallH h
  act : ∀ a ∈ p.actions.l, SmallA a
  tab : ∀ t ∈ p.tables.l, SmallT t
  state : ∀ s ∈ p.states.l, SmallS s
theorem SmallP.short {p : ProgD} (h : SmallP p) : Short p :=
  ⟨Nat.le_trans h.headers (by decide), Nat.le_trans h.metadata (by decide), Nat.le_trans h.registers (by decide), Nat.le_trans h.actions (by decide), Nat.le_trans h.tables (by decide), Nat.le_trans h.states (by decide)⟩

set_option maxRecDepth 100000 in
set_option maxHeartbeats 16000000 in
theorem tooLarge_any (p : ProgD) (w : World) (o : ProgOk w p) (hl : p.control.l.length ≤ 4398046511104) (hcap : CtlCaps p.control.l) :
    Calls Tryz.prog 11 #[.agg (progCells p)] w fun e w' => Tells e (fun b => b = false → SmallP p) ∧ Below w.heap.size w w' := by
  obtain ⟨nm, ⟨hl0, hA0, hc0⟩, ⟨ml0, mA0, mc0⟩, ⟨rl0, rA0, rc0⟩, ⟨al0, aA0, ac0⟩, ⟨tl0, tA0, tc0⟩, ⟨sl0, sA0, sc0⟩, ⟨cl0, cA0, cc0⟩, ⟨dl0, dA0, dc0⟩⟩ := p
  simp only [progCells] at *
  obtain ⟨W, hW, hw, HB, hp⟩ := box1 w #[.string nm, .slice hA0 hl0.length hc0, .slice mA0 ml0.length mc0, .slice rA0 rl0.length rc0, .slice aA0 al0.length ac0, .slice tA0 tl0.length tc0, .slice sA0 sl0.length sc0, .slice cA0 cl0.length cc0, .slice dA0 dl0.length dc0] 31
  have HW := Lib.hid hw
  have HO := Lib.hid (o.below hw)
  have HCap := Lib.hid hcap
  clear o hw hcap
  by_cases g0 : 60 < nm.size
  · have g0' : (60 : Int) < (nm.size : Int) := by omega
    clear g0
    go_enter Tryz.func11, Tryz.ntmps11
    go_upto_region 1 with fail
    rw [← hW]
    clear hW
    go_wp2
    go_ret
    exact ⟨⟨true, rfl, (by intro h; cases h)⟩, below_step HW.out HB⟩
  have g0' : ¬ (60 : Int) < (nm.size : Int) := by omega
  by_cases g1 : 16 < hl0.length
  · have g1' : (16 : Int) < (hl0.length : Int) := by omega
    clear g0 g1
    go_enter Tryz.func11, Tryz.ntmps11
    go_upto_region 1 with fail
    rw [← hW]
    clear hW
    go_wp2
    go_ret
    exact ⟨⟨true, rfl, (by intro h; cases h)⟩, below_step HW.out HB⟩
  have g1' : ¬ (16 : Int) < (hl0.length : Int) := by omega
  by_cases g2 : 20 < ml0.length
  · have g2' : (20 : Int) < (ml0.length : Int) := by omega
    clear g0 g1 g2
    go_enter Tryz.func11, Tryz.ntmps11
    go_upto_region 1 with fail
    rw [← hW]
    clear hW
    go_wp2
    go_ret
    exact ⟨⟨true, rfl, (by intro h; cases h)⟩, below_step HW.out HB⟩
  have g2' : ¬ (20 : Int) < (ml0.length : Int) := by omega
  by_cases g3 : 8 < rl0.length
  · have g3' : (8 : Int) < (rl0.length : Int) := by omega
    clear g0 g1 g2 g3
    go_enter Tryz.func11, Tryz.ntmps11
    go_upto_region 1 with fail
    rw [← hW]
    clear hW
    go_wp2
    go_ret
    exact ⟨⟨true, rfl, (by intro h; cases h)⟩, below_step HW.out HB⟩
  have g3' : ¬ (8 : Int) < (rl0.length : Int) := by omega
  by_cases g4 : 24 < al0.length
  · have g4' : (24 : Int) < (al0.length : Int) := by omega
    clear g0 g1 g2 g3 g4
    go_enter Tryz.func11, Tryz.ntmps11
    go_upto_region 1 with fail
    rw [← hW]
    clear hW
    go_wp2
    go_ret
    exact ⟨⟨true, rfl, (by intro h; cases h)⟩, below_step HW.out HB⟩
  have g4' : ¬ (24 : Int) < (al0.length : Int) := by omega
  by_cases g5 : 16 < tl0.length
  · have g5' : (16 : Int) < (tl0.length : Int) := by omega
    clear g0 g1 g2 g3 g4 g5
    go_enter Tryz.func11, Tryz.ntmps11
    go_upto_region 1 with fail
    rw [← hW]
    clear hW
    go_wp2
    go_ret
    exact ⟨⟨true, rfl, (by intro h; cases h)⟩, below_step HW.out HB⟩
  have g5' : ¬ (16 : Int) < (tl0.length : Int) := by omega
  by_cases g6 : 16 < sl0.length
  · have g6' : (16 : Int) < (sl0.length : Int) := by omega
    clear g0 g1 g2 g3 g4 g5 g6
    go_enter Tryz.func11, Tryz.ntmps11
    go_upto_region 1 with fail
    rw [← hW]
    clear hW
    go_wp2
    go_ret
    exact ⟨⟨true, rfl, (by intro h; cases h)⟩, below_step HW.out HB⟩
  have g6' : ¬ (16 : Int) < (sl0.length : Int) := by omega
  by_cases g7 : 16 < dl0.length
  · have g7' : (16 : Int) < (dl0.length : Int) := by omega
    clear g0 g1 g2 g3 g4 g5 g6 g7
    go_enter Tryz.func11, Tryz.ntmps11
    go_upto_region 1 with fail
    rw [← hW]
    clear hW
    go_wp2
    go_ret
    exact ⟨⟨true, rfl, (by intro h; cases h)⟩, below_step HW.out HB⟩
  have g7' : ¬ (16 : Int) < (dl0.length : Int) := by omega
  have HS := Lib.hid (show nm.size ≤ 60 ∧ hl0.length ≤ 16 ∧ ml0.length ≤ 20 ∧ rl0.length ≤ 8 ∧ al0.length ≤ 24 ∧ tl0.length ≤ 16 ∧ sl0.length ≤ 16 ∧ dl0.length ≤ 16 by omega)
  clear g0 g1 g2 g3 g4 g5 g6 g7
  go_enter Tryz.func11, Tryz.ntmps11
  go_upto_region 1 with fail
  rw [← hW]
  clear hW
  go_wp2_with fail
  refine (nodes_any 10 10 ⟨cl0, cA0, cc0⟩ _ rfl (Nat.le_refl _) hl HCap.out (HO.out.control.below HB (Nat.le_refl _)) (CtlsOk.below HB HO.out.ctl)).mono ?_
  rintro e w1 ⟨rfl, hbN⟩
  replace HB := below_step (by first | exact HB | exact below_alloc HB _ | exact below_alloc (below_alloc HB _) _ | exact below_alloc (below_alloc (below_alloc HB _) _) _) hbN
  clear hbN
  have HN := Lib.hid (nodes_small 10 cl0)
  generalize nodesM 10 cl0 = n at *
  by_cases h60 : 60 < n
  · have h60' : (60 : Int) < (n : Int) := by omega
    clear h60
    go_wp2
    go_ret
    exact ⟨⟨true, rfl, (by intro h; cases h)⟩, below_step HW.out HB⟩
  have h60' : ¬ (60 : Int) < (n : Int) := by omega
  have HNo : Hid ((presM cl0).length ≤ 60 ∧ ∀ x ∈ presM cl0, x.cond.l.length ≤ 40) := Lib.hid ⟨Nat.le_trans (HN.out (by omega)).1 (by omega), (HN.out (by omega)).2⟩
  clear h60 HN
  go_wp2
  have HB0 := Lib.hid HB
  clear HB
  go_loopw [3] (fun iv wr => ∃ k : Nat, k ≤ hl0.length ∧ iv = .int .i64 k ∧ (∀ x ∈ hl0.take k, SmallH x) ∧ Below W.heap.size W wr) (fun i _ => hl0.length - (intOf i).toNat)
  case atStart => exact ⟨0, Nat.zero_le _, rfl, fun f h => by simp at h, HB0.out⟩
  case round =>
  obtain ⟨k0, hk0, rfl, hpre, HB⟩ := hrel
  have HPre0 := Lib.hid hpre
  clear hpre
  by_cases hlt : k0 < hl0.length
  · obtain ⟨g, of, hA, d0, d1⟩ := HeaderD.at (HO.out.headers.below HB (Nat.le_refl _)) hlt
    simp only at hA d0 d1
    subst hA
    have hp0 := hp _ HB
    have HX := Lib.hid (HO.out.hdr _ (List.getElem_mem hlt))
    have HT : Hid (SmallH hl0[k0] → ∀ x ∈ hl0.take (k0 + 1), SmallH x) := Lib.hid (fun h => take_all hlt HPre0.out h)
    generalize hl0[k0] = y at *
    obtain ⟨yn, ⟨yl, yA, yc⟩⟩ := y
    simp only at d0 d1
    go_wp2_with fail
    refine (small_any ⟨yn, ⟨yl, yA, yc⟩⟩ _ (HX.out.fields.below HB (Nat.le_refl _))).mono ?_
    rintro e w2 ⟨⟨b, rfl, hb⟩, hb1⟩
    replace HB := below_step HB hb1
    have HQ := Lib.hid hb
    clear hb hb1
    cases b
    · go_wp2
      go_ret
      exact ⟨⟨true, rfl, (by intro h; cases h)⟩, below_step HW.out HB⟩
    have HT2 := Lib.hid (HT.out (HQ.out rfl))
    go_wp2
    go_roundw
    case rel => exact ⟨k0 + 1, by omega, by go_num, HT2.out, HB⟩
    case measure => simp [intOf]; omega
  have HAll0 : Hid (∀ x ∈ hl0, SmallH x) := Lib.hid (fun x hx => HPre0.out x (by rw [List.take_of_length_le (by omega)]; exact hx))
  have hp0 := hp _ HB
  clear HPre0
  go_wp2
  have HB1 := Lib.hid HB
  clear HB hp0
  go_loopw [4] (fun iv wr => ∃ k : Nat, k ≤ al0.length ∧ iv = .int .i64 k ∧ (∀ x ∈ al0.take k, SmallA x) ∧ Below W.heap.size W wr) (fun i _ => al0.length - (intOf i).toNat)
  case atStart => exact ⟨0, Nat.zero_le _, rfl, fun f h => by simp at h, HB1.out⟩
  case round =>
  obtain ⟨k1, hk1, rfl, hpre, HB⟩ := hrel
  have HPre1 := Lib.hid hpre
  clear hpre
  by_cases hlt : k1 < al0.length
  · obtain ⟨g, of, hA, d0, d1, d2⟩ := ActD.at (HO.out.actions.below HB (Nat.le_refl _)) hlt
    simp only at hA d0 d1 d2
    subst hA
    have hp0 := hp _ HB
    have HX := Lib.hid (HO.out.act _ (List.getElem_mem hlt))
    have HT : Hid (SmallA al0[k1] → ∀ x ∈ al0.take (k1 + 1), SmallA x) := Lib.hid (fun h => take_all hlt HPre1.out h)
    generalize al0[k1] = y at *
    obtain ⟨yn, ⟨yl, yA, yc⟩, ⟨bl, bA, bc⟩⟩ := y
    simp only at d0 d1 d2
    go_wp2_with fail
    refine (largeAction_any ⟨yn, ⟨yl, yA, yc⟩, ⟨bl, bA, bc⟩⟩ _ (HX.out.body.below HB (Nat.le_refl _))).mono ?_
    rintro e w2 ⟨⟨b, rfl, hb⟩, hb1⟩
    replace HB := below_step HB hb1
    have HQ := Lib.hid hb
    clear hb hb1
    cases b
    case true =>
      go_wp2
      go_ret
      exact ⟨⟨true, rfl, (by intro h; cases h)⟩, below_step HW.out HB⟩
    have HT2 := Lib.hid (HT.out (HQ.out rfl))
    go_wp2
    go_roundw
    case rel => exact ⟨k1 + 1, by omega, by go_num, HT2.out, HB⟩
    case measure => simp [intOf]; omega
  have HAll1 : Hid (∀ x ∈ al0, SmallA x) := Lib.hid (fun x hx => HPre1.out x (by rw [List.take_of_length_le (by omega)]; exact hx))
  have hp1 := hp _ HB
  clear HPre1
  go_wp2
  have HB2 := Lib.hid HB
  clear HB hp1
  go_loopw [5] (fun iv wr => ∃ k : Nat, k ≤ tl0.length ∧ iv = .int .i64 k ∧ (∀ x ∈ tl0.take k, SmallT x) ∧ Below W.heap.size W wr) (fun i _ => tl0.length - (intOf i).toNat)
  case atStart => exact ⟨0, Nat.zero_le _, rfl, fun f h => by simp at h, HB2.out⟩
  case round =>
  obtain ⟨k2, hk2, rfl, hpre, HB⟩ := hrel
  have HPre2 := Lib.hid hpre
  clear hpre
  by_cases hlt : k2 < tl0.length
  · obtain ⟨g, of, hA, d0, d1, d2, d3, d4, d5⟩ := TabD.at (HO.out.tables.below HB (Nat.le_refl _)) hlt
    simp only at hA d0 d1 d2 d3 d4 d5
    subst hA
    have hp0 := hp _ HB
    have HX := Lib.hid (HO.out.tab _ (List.getElem_mem hlt))
    have HT : Hid (SmallT tl0[k2] → ∀ x ∈ tl0.take (k2 + 1), SmallT x) := Lib.hid (fun h => take_all hlt HPre2.out h)
    generalize tl0[k2] = y at *
    obtain ⟨yn, ⟨kl, kA, kc⟩, ⟨al, aA, ac⟩, yd, ⟨gl, gA, gc⟩, ys⟩ := y
    simp only at d0 d1 d2 d3 d4 d5
    by_cases g0 : 10 < kl.length
    · have g0' : (10 : Int) < (kl.length : Int) := by omega
      clear g0
      go_wp2
      go_ret
      exact ⟨⟨true, rfl, (by intro h; cases h)⟩, below_step HW.out HB⟩
    have g0' : ¬ (10 : Int) < (kl.length : Int) := by omega
    by_cases g1 : 24 < al.length
    · have g1' : (24 : Int) < (al.length : Int) := by omega
      clear g0 g1
      go_wp2
      go_ret
      exact ⟨⟨true, rfl, (by intro h; cases h)⟩, below_step HW.out HB⟩
    have g1' : ¬ (24 : Int) < (al.length : Int) := by omega
    by_cases g2 : 8 < gl.length
    · have g2' : (8 : Int) < (gl.length : Int) := by omega
      clear g0 g1 g2
      go_wp2
      go_ret
      exact ⟨⟨true, rfl, (by intro h; cases h)⟩, below_step HW.out HB⟩
    have g2' : ¬ (8 : Int) < (gl.length : Int) := by omega
    by_cases g3 : 60 < yn.size
    · have g3' : (60 : Int) < (yn.size : Int) := by omega
      clear g0 g1 g2 g3
      go_wp2
      go_ret
      exact ⟨⟨true, rfl, (by intro h; cases h)⟩, below_step HW.out HB⟩
    have g3' : ¬ (60 : Int) < (yn.size : Int) := by omega
    have HT2 := Lib.hid (HT.out ⟨by simp only; omega, by simp only; omega, by simp only; omega, by simp only; omega⟩)
    clear g0 g1 g2 g3
    go_wp2
    go_roundw
    case rel => exact ⟨k2 + 1, by omega, by go_num, HT2.out, HB⟩
    case measure => simp [intOf]; omega
  have HAll2 : Hid (∀ x ∈ tl0, SmallT x) := Lib.hid (fun x hx => HPre2.out x (by rw [List.take_of_length_le (by omega)]; exact hx))
  have hp2 := hp _ HB
  clear HPre2
  go_wp2
  have HB3 := Lib.hid HB
  clear HB hp2
  go_loopw [6] (fun iv wr => ∃ k : Nat, k ≤ sl0.length ∧ iv = .int .i64 k ∧ (∀ x ∈ sl0.take k, SmallS x) ∧ Below W.heap.size W wr) (fun i _ => sl0.length - (intOf i).toNat)
  case atStart => exact ⟨0, Nat.zero_le _, rfl, fun f h => by simp at h, HB3.out⟩
  case round =>
  obtain ⟨k3, hk3, rfl, hpre, HB⟩ := hrel
  have HPre3 := Lib.hid hpre
  clear hpre
  by_cases hlt : k3 < sl0.length
  · obtain ⟨g, of, hA, d0, d1, d2, d3, d4, d5, d6⟩ := StateD.at (HO.out.states.below HB (Nat.le_refl _)) hlt
    simp only at hA d0 d1 d2 d3 d4 d5 d6
    subst hA
    have hp0 := hp _ HB
    have HX := Lib.hid (HO.out.state _ (List.getElem_mem hlt))
    have HT : Hid (SmallS sl0[k3] → ∀ x ∈ sl0.take (k3 + 1), SmallS x) := Lib.hid (fun h => take_all hlt HPre3.out h)
    generalize sl0[k3] = y at *
    obtain ⟨yn, ⟨yl, yA, yc⟩, ys, yo, yf, ⟨bl, bA, bc⟩, yd⟩ := y
    simp only at d0 d1 d2 d3 d4 d5 d6
    go_wp2_with fail
    refine (largeState_any ⟨yn, ⟨yl, yA, yc⟩, ys, yo, yf, ⟨bl, bA, bc⟩, yd⟩ _).mono ?_
    rintro e w2 ⟨⟨b, rfl, hb⟩, hb1⟩
    replace HB := below_step HB hb1
    have HQ := Lib.hid hb
    clear hb hb1
    cases b
    case true =>
      go_wp2
      go_ret
      exact ⟨⟨true, rfl, (by intro h; cases h)⟩, below_step HW.out HB⟩
    have HT2 := Lib.hid (HT.out (HQ.out rfl))
    go_wp2
    go_roundw
    case rel => exact ⟨k3 + 1, by omega, by go_num, HT2.out, HB⟩
    case measure => simp [intOf]; omega
  have HAll3 : Hid (∀ x ∈ sl0, SmallS x) := Lib.hid (fun x hx => HPre3.out x (by rw [List.take_of_length_le (by omega)]; exact hx))
  have hp3 := hp _ HB
  clear HPre3
  go_wp2
  go_ret
  exact ⟨⟨false, rfl, fun _ => ⟨HS.out.1, HS.out.2.1, HS.out.2.2.1, HS.out.2.2.2.1, HS.out.2.2.2.2.1, HS.out.2.2.2.2.2.1, HS.out.2.2.2.2.2.2.1, HS.out.2.2.2.2.2.2.2, HNo.out.1, HNo.out.2, HAll0.out, HAll1.out, HAll2.out, HAll3.out⟩⟩, below_step HW.out HB⟩
end Go.Proofs.YtgfbikknkcaneaaGreat
namespace Go.Proofs.YtgfbikknkcaneaaGreat
open Go.RowKit Go.WideShapes Go.ChangeShapes

theorem list_of {α : Type} {Q : Nat → α → Prop} (n : Nat) (h : ∀ i, i < n → ∃ d, Q i d) : ∃ l : List α, l.length = n ∧ ∀ i (hi : i < l.length), Q i l[i] := by
  refine ⟨List.ofFn (fun i : Fin n => Classical.choose (h i.1 i.2)), by simp, fun i hi => ?_⟩
  rw [List.getElem_ofFn]
  exact Classical.choose_spec (h i (by simpa using hi))

theorem cut_get {cs ys : List Value} {o k : Nat} (h : (cs.drop o).take k = ys) : ∀ j, j < ys.length → cs[o + j]? = ys[j]? := by
  intro j hj
  have hk : j < k := by
    have := congrArg List.length h
    simp at this
    omega
  rw [← h, List.getElem?_take_of_lt hk, List.getElem?_drop]

section
variable {H : Type} (enc : TypeId × Value → H) (P : Program) (w : World) (base : Nat) (held : Bool)

/-- what a reading of less than N steps takes at the type t are the cells of one of our data -/
def RdB (N : Nat) (t : TypeId) {α : Type} (cells : α → List Value) (Ok : α → Prop) : Prop :=
  ∀ m, m < N → ∀ (cs : List Value) (x : DataW H × List MemPlace), DataW.trod enc P w base (fun _ => true) held m t cs = some x → (∀ n ∈ x.1.weights P t, n ≤ reachBytes) → ∃ d : α, cs = cells d ∧ Ok d
end
section
variable {H : Type} {enc : TypeId × Value → H} {P : Program} {w : World} {base : Nat} {held : Bool} {N : Nat}

theorem RdB.mono {t : TypeId} {α : Type} {cells : α → List Value} {Ok : α → Prop} {M : Nat} (h : RdB enc P w base held N t cells Ok) (hM : M ≤ N) : RdB enc P w base held M t cells Ok :=
  fun m hm cs x hx => h m (by omega) cs x hx
theorem rd_int {t : TypeId} {k : IntKind} (ht : P.underlying t = some (.int k)) : RdB enc P w base held N t (fun z : Int => [.int k z]) (fun z => (Lit.int k z).wf = true) := by
  intro m _ cs x h _
  obtain ⟨n, e, _, hw⟩ := DataW.trod_int ht h
  exact ⟨n, e, hw⟩
theorem rd_str {t : TypeId} (ht : P.underlying t = some .string) : RdB enc P w base held N t (fun s : ByteArray => [.string s]) (fun s => s.size ≤ maxLen) := by
  intro m _ cs x h _
  obtain ⟨s, e, _, hw⟩ := DataW.trod_string ht h
  exact ⟨s, e, hw⟩
theorem rd_bool {t : TypeId} (ht : P.underlying t = some .bool) : RdB enc P w base held N t (fun b : Bool => [.bool b]) (fun _ => True) := by
  intro m _ cs x h _
  obtain ⟨b, e, _⟩ := DataW.trod_bool ht h
  exact ⟨b, e, trivial⟩

theorem mem_weightsAll {e : TypeId} {d : DataW H} : ∀ {l : List (DataW H)}, d ∈ l → ∀ {n : Nat}, n ∈ d.weights P e → n ∈ DataW.weightsAll P e l
  | x :: l, hd, n, hn => by
    simp only [DataW.weightsAll, List.mem_append]
    rcases List.mem_cons.1 hd with rfl | h
    · exact .inl hn
    · exact .inr (mem_weightsAll h hn)

/-- what is known of a list read -/
structure ListOk (w : World) (k kb : Nat) {α : Type} (cells : α → List Value) (Ok : α → Prop) (y : L α) : Prop where
  lok : LOk w k cells y
  all : ∀ d ∈ y.l, Ok d
  nil : y.A = none → y.c = 0
  le : y.l.length ≤ y.c
  cap : y.c ≤ maxLen
  bytes : y.c * kb ≤ reachBytes

theorem rd_list {t e : TypeId} {k kb : Nat} {α : Type} {cells : α → List Value} {Ok : α → Prop} (ht : P.underlying t = some (.slice e)) (he : P.cellsOf e = k) (hbe : P.bytesOf e = kb) (hk0 : 0 < k) (hk : ∀ d, (cells d).length = k)
    (hR : RdB enc P w base held N e cells Ok) : RdB enc P w base held (N + 1) t (fun y : L α => [y.v]) (ListOk w k kb cells Ok) := by
  intro m hm cs x h hw
  rcases DataW.trod_slice ht h with ⟨rfl, _⟩ | ⟨a, len, cap, elems, rest, n, e1, rfl, hx, _, hlc, hcm, hel, hget, hrest, _⟩
  · exact ⟨⟨[], none, 0⟩, rfl, ⟨⟨by simp, .inl rfl⟩, fun d hd => (by cases hd), fun _ => rfl, Nat.le_refl _, Nat.zero_le _, by simp⟩⟩
  · rw [he] at hget
    subst hx
    simp only [DataW.weights, ht, List.mem_cons, List.mem_append, hbe, List.length_map] at hw
    have hsz : cap * kb ≤ reachBytes := by
      have := hw _ (.inl rfl)
      rwa [(hrest rfl).1, hel, show len + (cap - len) = cap by omega] at this
    have hev : ∀ i, i < len → ∃ d, w.cells? base (a.add (i * k)) k = some (cells d) ∧ Ok d := by
      intro i hi
      have h1 := hget i hi
      obtain ⟨y, hy⟩ : ∃ y, elems[i]? = some y := ⟨elems[i], List.getElem?_eq_getElem (by omega)⟩
      rw [hy, Option.bind_eq_some_iff] at h1
      obtain ⟨cs', hc, hr⟩ := h1
      obtain ⟨d, rfl, hd⟩ := hR n (by omega) cs' y hr (fun n' hn' => hw n' (.inr (.inl (mem_weightsAll (List.mem_map_of_mem (List.mem_of_getElem? hy)) hn'))))
      exact ⟨d, hc, hd⟩
    obtain ⟨l, hl, hq⟩ := list_of len hev
    refine ⟨⟨l, some a, cap⟩, by simp only [L.v]; rw [hl], ⟨⟨by simp only; omega, ?_⟩, fun d hd => ?_, fun h0 => (by cases h0), by simp only; omega, hcm, hsz⟩⟩
    · by_cases hl0 : l = []
      · exact .inl hl0
      · obtain ⟨g, o, spot⟩ := a
        have hlen : 0 < l.length := List.length_pos_iff.2 hl0
        have hsp : spot = none := by
          obtain ⟨_, _, h2⟩ := World.cells?_some (hq 0 hlen).1
          have h3 := h2 0 hk0
          obtain ⟨c0, hc0⟩ : ∃ c0, (cells l[0])[0]? = some c0 := ⟨(cells l[0])[0]'(by rw [hk]; exact hk0), List.getElem?_eq_getElem _⟩
          rw [hc0] at h3
          simpa [Addr.add] using World.cell?_spot h3
        subst hsp
        have hall : ∀ i (hi : i < l.length) j, j < k → w.cell? ⟨g, o + i * k + j, none⟩ = (cells l[i])[j]? := by
          intro i hi j hj
          obtain ⟨_, _, h2⟩ := World.cells?_some (hq i hi).1
          have h3 := h2 j hj
          rwa [add_plain, add_plain] at h3
        refine .inr ⟨g, o, rfl, ?_, hall⟩
        have h3 := hall 0 hlen 0 hk0
        rw [List.getElem?_eq_getElem (by rw [hk]; exact hk0)] at h3
        exact World.block_lt_of_cell? w _ h3
    · obtain ⟨i, hi, rfl⟩ := List.mem_iff_getElem.1 hd
      exact (hq i hi).2

/-- a field of a struct read -/
theorem rd_field {ft : TypeId} {fs : Array Field} {α : Type} {cells : α → List Value} {Ok : α → Prop} {xs : List (DataW H × List MemPlace)} {n : Nat} {cs : List Value} (i : Nat) (f : Field) (o k : Nat)
    (hxs : ∀ (i : Nat) (f : Field), fs[i]? = some f → DataW.trod enc P w base (fun _ => true) held n f.type ((cs.drop f.offset).take (P.cellsOf f.type)) = xs[i]?) (hlen : xs.length = fs.size) (hw : ∀ m ∈ DataW.weightsEach P (fs.toList.map (·.type)) (xs.map (·.1)), m ≤ reachBytes)
    (hf : fs[i]? = some f) (hft : f.type = ft) (ho : f.offset = o) (hk : P.cellsOf ft = k) (hR : RdB enc P w base held N ft cells Ok) (hn : n < N) :
    ∃ d : α, (cs.drop o).take k = cells d ∧ Ok d := by
  subst hft ho hk
  have hi : i < xs.length := by rw [hlen]; exact (Array.getElem?_eq_some_iff.1 hf).1
  have h1 := hxs i f hf
  rw [List.getElem?_eq_getElem hi] at h1
  refine hR n hn _ _ h1 (fun m hm => hw m (DataW.weights_mem_each (j := i) ?_ ?_ m hm))
  · simp [hf]
  · simp [hi]

/-- an argument that is a list -/
theorem arg_list {t e : TypeId} {k kb : Nat} {α : Type} {cells : α → List Value} {Ok : α → Prop} (ht : P.underlying t = some (.slice e)) (hR : ∀ N, RdB enc P w base held N t (fun y : L α => [y.v]) (ListOk w k kb cells Ok))
    {v : Value} {d : DataW H} {ps : List MemPlace} {r : Reach} {b : Nat} (hv : Value.okWide P w r b t v) (h : DataW.Trod enc P w base (fun _ => true) held t v d ps) (hw : ∀ m ∈ d.weights P t, m ≤ reachBytes) : ∃ y : L α, v = y.v ∧ ListOk w k kb cells Ok y := by
  obtain ⟨a, len, cap, rfl⟩ := okWide_slice ht hv
  obtain ⟨n, hn⟩ := h
  obtain ⟨y, e, hy⟩ := hR (n + 1) n (Nat.lt_succ_self n) _ _ hn hw
  refine ⟨y, ?_, hy⟩
  simpa [Value.cells] using e
/-- an argument that is a struct -/
theorem arg_struct {t : TypeId} {fs : Array Field} {α : Type} {cells : α → List Value} {Ok : α → Prop} (ht : P.underlying t = some (.struct fs)) (hR : ∀ N, RdB enc P w base held N t cells Ok)
    {v : Value} {d : DataW H} {ps : List MemPlace} {r : Reach} {b : Nat} (hv : Value.okWide P w r b t v) (h : DataW.Trod enc P w base (fun _ => true) held t v d ps) (hw : ∀ m ∈ d.weights P t, m ≤ reachBytes) : ∃ y : α, v = .agg (cells y).toArray ∧ Ok y := by
  obtain ⟨cs, rfl, _⟩ := okWide_struct ht hv
  obtain ⟨n, hn⟩ := h
  obtain ⟨y, e, hy⟩ := hR (n + 1) n (Nat.lt_succ_self n) _ _ hn hw
  refine ⟨y, ?_, hy⟩
  have e' : cs.toList = cells y := by simpa [Value.cells] using e
  rw [← e']

theorem trodAll_carry {W W' : World} {sp : Nat → Bool} {b : Nat} {hd : Bool} : ∀ {ts : List TypeId} {vs : List Value} {ds : List (DataW H)} {ps : List MemPlace}, DataW.TrodAll enc P W b sp hd ts vs ds ps → (∀ p ∈ ps, W.sameAt W' p) →
    DataW.TrodAll enc P W' b sp hd ts vs ds ps
  | [], [], [], _, h, _ => h
  | _ :: _, _ :: _, _ :: _, _, ⟨p, q, ⟨n, hn⟩, h2, e⟩, hs => ⟨p, q, ⟨n, DataW.trod_carry n _ _ _ hn (fun x hx => hs x (by rw [e]; exact List.mem_append_left _ hx))⟩, trodAll_carry h2 (fun x hx => hs x (by rw [e]; exact List.mem_append_right _ hx)), e⟩

/-- the arguments read again in a later world that keeps the old cells -/
theorem args_again (hl : laidOutB P = true) (hm : mapsRowed P = true) (hz : ((List.range P.types.size).all fun t => match P.underlying t with | some (.slice e) => decide (0 < P.cellsOf e) | _ => true) = true)
    {W W' : World} {ts : List TypeId} {vs : List Value} {ds : List (DataW H)} {ps : List MemPlace} (hT : ∀ t ∈ ts, t < P.types.size) (h : DataW.TrodAll enc P W 0 (fun _ => true) true ts vs ds ps) (hb : Below W.heap.size W W')
    (sp : Nat → Bool) (hs : ∀ p ∈ ps, sp p.block = true) : DataW.TrodAll enc P W' 0 sp true ts vs ds ps :=
  trodAll_carry (DataW.TrodAll.respare (kids_rows hl hm) (slices_full_of P hz) hT h hs) (fun p hp => hb.same (DataW.TrodAll.lt h p hp))
end
end Go.Proofs.YtgfbikknkcaneaaGreat
namespace Go.Proofs.YtgfbikknkcaneaaGreat
open Go.RowKit Go.WideShapes Go.ChangeShapes
theorem cells_eq {cs ys : List Value} (h : cs.length = ys.length) (hi : ∀ i, i < ys.length → cs[i]? = ys[i]?) : cs = ys := by
  refine List.ext_getElem? fun i => ?_
  by_cases h1 : i < ys.length
  · exact hi i h1
  · rw [List.getElem?_eq_none (by omega), List.getElem?_eq_none (by omega)]
def IOk (z : Int) : Prop := (Lit.int .i64 z).wf = true
def UOk (z : Int) : Prop := (Lit.int .u32 z).wf = true
structure FldGood (f : FieldD) : Prop where
  name : NameOk f.name
  width : IOk f.width
structure HdrGood (w : World) (h : HeaderD) : Prop where
  name : NameOk h.name
  fields : ListOk w 2 24 FieldD.cells FldGood h.fields
structure RegGood (r : RegD) : Prop where
  name : NameOk r.name
  width : IOk r.width
  size : IOk r.size
structure NodeGood (x : NodeD) : Prop where
  op : IOk x.op
  n : IOk x.n
  w : IOk x.w
structure StmtGood (w : World) (s : StmtD) : Prop where
  kind : IOk s.kind
  index : ListOk w 3 24 NodeD.cells NodeGood s.index
  value : ListOk w 3 24 NodeD.cells NodeGood s.value
structure ActGood (w : World) (a : ActD) : Prop where
  name : NameOk a.name
  params : ListOk w 2 24 FieldD.cells FldGood a.params
  body : ListOk w 7 88 StmtD.cells (StmtGood w) a.body
structure KeyGood (k : KeyD) : Prop where
  h : IOk k.h
  f : IOk k.f
  kind : IOk k.kind
structure TabGood (w : World) (t : TabD) : Prop where
  name : NameOk t.name
  keys : ListOk w 3 24 KeyD.cells KeyGood t.keys
  acts : ListOk w 1 8 icell IOk t.acts
  defA : IOk t.defA
  args : ListOk w 1 4 ucell UOk t.args
  size : IOk t.size
structure CaseGood (c : CaseD) : Prop where
  value : UOk c.value
  mask : UOk c.mask
  next : IOk c.next
structure StateGood (w : World) (s : StateD) : Prop where
  name : NameOk s.name
  extract : ListOk w 1 8 icell IOk s.extract
  cases : ListOk w 3 16 CaseD.cells CaseGood s.cases
  dflt : IOk s.dflt
structure CtlGood (w : World) (x : CtlD) : Prop where
  ok : CtlOk w x
  caps : CtlCaps [x]
structure ProgGood (w : World) (p : ProgD) : Prop where
  name : NameOk p.name
  headers : ListOk w 2 40 HeaderD.cells (HdrGood w) p.headers
  metadata : ListOk w 2 24 FieldD.cells FldGood p.metadata
  registers : ListOk w 3 32 RegD.cells RegGood p.registers
  actions : ListOk w 3 64 ActD.cells (ActGood w) p.actions
  tables : ListOk w 6 104 TabD.cells (TabGood w) p.tables
  states : ListOk w 7 96 StateD.cells (StateGood w) p.states
  control : ListOk w 5 88 CtlD.cells (CtlGood w) p.control
  deparser : ListOk w 1 8 icell IOk p.deparser
theorem CtlCaps.all {l : List CtlD} (h : ∀ x ∈ l, CtlCaps [x]) : CtlCaps l := by
  induction l with
  | nil => exact .nil
  | cons x l ih =>
    cases h x (List.mem_cons_self ..) with
    | cons a b c d _ => exact .cons a b c d (ih fun y hy => h y (List.mem_cons_of_mem _ hy))
theorem ctls_of {w : World} : ∀ {l : List CtlD}, (∀ x ∈ l, CtlOk w x) → CtlsOk w l
  | [], _ => by rw [CtlsOk]; trivial
  | x :: l, h => by
    rw [CtlsOk]
    exact ⟨h x (List.mem_cons_self ..), ctls_of fun y hy => h y (List.mem_cons_of_mem _ hy)⟩
theorem ProgGood.ok {w : World} {p : ProgD} (h : ProgGood w p) : ProgOk w p :=
  ⟨h.name, h.headers.lok, fun x hx => ⟨(h.headers.all x hx).name, (h.headers.all x hx).fields.lok, fun f hf => ((h.headers.all x hx).fields.all f hf).name⟩,
   h.metadata.lok, fun f hf => (h.metadata.all f hf).name, h.registers.lok, fun r hr => (h.registers.all r hr).name,
   h.actions.lok, fun a ha => ⟨(h.actions.all a ha).name, (h.actions.all a ha).params.lok, fun f hf => ((h.actions.all a ha).params.all f hf).name, (h.actions.all a ha).body.lok,
     fun s hs => ⟨((h.actions.all a ha).body.all s hs).index.lok, ((h.actions.all a ha).body.all s hs).value.lok⟩⟩,
   h.tables.lok, fun t ht => ⟨(h.tables.all t ht).name, (h.tables.all t ht).keys.lok, (h.tables.all t ht).acts.lok, (h.tables.all t ht).args.lok⟩,
   h.states.lok, fun s hs => ⟨(h.states.all s hs).name, (h.states.all s hs).extract.lok, (h.states.all s hs).cases.lok⟩,
   h.control.lok, ctls_of fun x hx => (h.control.all x hx).ok, h.deparser.lok⟩
theorem ProgGood.cap {w : World} {p : ProgD} (h : ProgGood w p) : ProgCap p :=
  ⟨fun x hx => (h.headers.all x hx).fields.le, fun a ha => (h.actions.all a ha).params.le, h.deparser.le, fun t ht => (h.tables.all t ht).defA, fun t ht v hv => (h.tables.all t ht).args.all v hv,
   fun s hs c hc => ⟨((h.states.all s hs).cases.all c hc).value, ((h.states.all s hs).cases.all c hc).mask⟩⟩
theorem len_cap {w : World} {k kb : Nat} {α : Type} {cells : α → List Value} {Ok : α → Prop} {y : L α} (h : ListOk w k kb cells Ok y) (hk : 32 ≤ kb) : y.l.length ≤ 4398046511104 := by
  have h1 := h.bytes
  have h2 := h.le
  have h3 : y.c * 32 ≤ y.c * kb := Nat.mul_le_mul_left _ hk
  have h4 : reachBytes = 140737488351232 := rfl
  omega
theorem ProgGood.caps {w : World} {p : ProgD} (h : ProgGood w p) : CtlCaps p.control.l := CtlCaps.all fun x hx => (h.control.all x hx).caps
section
variable {H : Type} {enc : TypeId × Value → H} {w : World} {base : Nat} {held : Bool}
theorem rd_ints (N : Nat) : RdB enc Tryz.prog w base held N 29 (fun y : L Int => [y.v]) (ListOk w 1 8 icell IOk) :=
  (rd_list (N := N) (k := 1) (kb := 8) Tryz.underlying29 (by kernel_rfl) (by kernel_rfl) (by decide) (fun _ => rfl) (rd_int Tryz.underlying3)).mono (Nat.le_succ N)
theorem rd_u32s (N : Nat) : RdB enc Tryz.prog w base held N 48 (fun y : L Int => [y.v]) (ListOk w 1 4 ucell UOk) :=
  (rd_list (N := N) (k := 1) (kb := 4) Tryz.underlying48 (by kernel_rfl) (by kernel_rfl) (by decide) (fun _ => rfl) (rd_int Tryz.underlying134)).mono (Nat.le_succ N)

theorem rd_ref (N : Nat) : RdB enc Tryz.prog w base held N 70 (fun r : Int × Int => [.int .i64 r.1, .int .i64 r.2]) (fun r => IOk r.1 ∧ IOk r.2) := by
  intro m hm cs x h hw
  obtain ⟨xs, n, e1, hx, hlen, hl, hf⟩ := DataW.trod_struct Tryz.underlying70 h
  subst hx
  simp only [DataW.weights, Tryz.underlying70] at hw
  obtain ⟨d0, h0, w0⟩ := rd_field (N := N) 0 _ 0 1 hf hl hw rfl rfl rfl (by kernel_rfl) (rd_int Tryz.underlying3) (by omega)
  obtain ⟨d1, h1, w1⟩ := rd_field (N := N) 1 _ 1 1 hf hl hw rfl rfl rfl (by kernel_rfl) (rd_int Tryz.underlying3) (by omega)
  have e2 : cs.length = 2 := hlen.trans (by kernel_rfl)
  refine ⟨(d0, d1), cells_eq e2 fun i hi => ?_, ⟨w0, w1⟩⟩
  match i, hi with
  | 0, _ => exact cell_of_cut h0
  | 1, _ => exact cell_of_cut h1
theorem rd_call (N : Nat) : RdB enc Tryz.prog w base held N 50 (fun c : Int × L Int => [.int .i64 c.1, c.2.v]) (fun c => IOk c.1 ∧ ListOk w 1 4 ucell UOk c.2) := by
  intro m hm cs x h hw
  obtain ⟨xs, n, e1, hx, hlen, hl, hf⟩ := DataW.trod_struct Tryz.underlying50 h
  subst hx
  simp only [DataW.weights, Tryz.underlying50] at hw
  obtain ⟨d0, h0, w0⟩ := rd_field (N := N) 0 _ 0 1 hf hl hw rfl rfl rfl (by kernel_rfl) (rd_int Tryz.underlying3) (by omega)
  obtain ⟨d1, h1, w1⟩ := rd_field (N := N) 1 _ 1 1 hf hl hw rfl rfl rfl (by kernel_rfl) (rd_u32s N) (by omega)
  have e2 : cs.length = 2 := hlen.trans (by kernel_rfl)
  refine ⟨(d0, d1), cells_eq e2 fun i hi => ?_, ⟨w0, w1⟩⟩
  match i, hi with
  | 0, _ => exact cell_of_cut h0
  | 1, _ => exact cell_of_cut h1
theorem rd_fld (N : Nat) : RdB enc Tryz.prog w base held N 63 FieldD.cells FldGood := by
  intro m hm cs x h hw
  obtain ⟨xs, n, e1, hx, hlen, hl, hf⟩ := DataW.trod_struct Tryz.underlying63 h
  subst hx
  simp only [DataW.weights, Tryz.underlying63] at hw
  obtain ⟨d0, h0, w0⟩ := rd_field (N := N) 0 _ 0 1 hf hl hw rfl rfl rfl (by kernel_rfl) (rd_str Tryz.underlying9) (by omega)
  obtain ⟨d1, h1, w1⟩ := rd_field (N := N) 1 _ 1 1 hf hl hw rfl rfl rfl (by kernel_rfl) (rd_int Tryz.underlying3) (by omega)
  have e2 : cs.length = 2 := hlen.trans (by kernel_rfl)
  refine ⟨⟨d0, d1⟩, cells_eq e2 fun i hi => ?_, ⟨w0, w1⟩⟩
  match i, hi with
  | 0, _ => exact cell_of_cut h0
  | 1, _ => exact cell_of_cut h1
theorem rd_fields (N : Nat) : RdB enc Tryz.prog w base held N 23 (fun y : L FieldD => [y.v]) (ListOk w 2 24 FieldD.cells FldGood) :=
  (rd_list (N := N) (k := 2) (kb := 24) Tryz.underlying23 (by kernel_rfl) (by kernel_rfl) (by decide) (fun _ => rfl) (rd_fld N)).mono (Nat.le_succ N)
theorem rd_header (N : Nat) : RdB enc Tryz.prog w base held N 61 HeaderD.cells (HdrGood w) := by
  intro m hm cs x h hw
  obtain ⟨xs, n, e1, hx, hlen, hl, hf⟩ := DataW.trod_struct Tryz.underlying61 h
  subst hx
  simp only [DataW.weights, Tryz.underlying61] at hw
  obtain ⟨d0, h0, w0⟩ := rd_field (N := N) 0 _ 0 1 hf hl hw rfl rfl rfl (by kernel_rfl) (rd_str Tryz.underlying9) (by omega)
  obtain ⟨d1, h1, w1⟩ := rd_field (N := N) 1 _ 1 1 hf hl hw rfl rfl rfl (by kernel_rfl) (rd_fields N) (by omega)
  have e2 : cs.length = 2 := hlen.trans (by kernel_rfl)
  refine ⟨⟨d0, d1⟩, cells_eq e2 fun i hi => ?_, ⟨w0, w1⟩⟩
  match i, hi with
  | 0, _ => exact cell_of_cut h0
  | 1, _ => exact cell_of_cut h1
theorem rd_headers (N : Nat) : RdB enc Tryz.prog w base held N 22 (fun y : L HeaderD => [y.v]) (ListOk w 2 40 HeaderD.cells (HdrGood w)) :=
  (rd_list (N := N) (k := 2) (kb := 40) Tryz.underlying22 (by kernel_rfl) (by kernel_rfl) (by decide) (fun _ => rfl) (rd_header N)).mono (Nat.le_succ N)
theorem rd_reg (N : Nat) : RdB enc Tryz.prog w base held N 65 RegD.cells RegGood := by
  intro m hm cs x h hw
  obtain ⟨xs, n, e1, hx, hlen, hl, hf⟩ := DataW.trod_struct Tryz.underlying65 h
  subst hx
  simp only [DataW.weights, Tryz.underlying65] at hw
  obtain ⟨d0, h0, w0⟩ := rd_field (N := N) 0 _ 0 1 hf hl hw rfl rfl rfl (by kernel_rfl) (rd_str Tryz.underlying9) (by omega)
  obtain ⟨d1, h1, w1⟩ := rd_field (N := N) 1 _ 1 1 hf hl hw rfl rfl rfl (by kernel_rfl) (rd_int Tryz.underlying3) (by omega)
  obtain ⟨d2, h2, w2⟩ := rd_field (N := N) 2 _ 2 1 hf hl hw rfl rfl rfl (by kernel_rfl) (rd_int Tryz.underlying3) (by omega)
  have e2 : cs.length = 3 := hlen.trans (by kernel_rfl)
  refine ⟨⟨d0, d1, d2⟩, cells_eq e2 fun i hi => ?_, ⟨w0, w1, w2⟩⟩
  match i, hi with
  | 0, _ => exact cell_of_cut h0
  | 1, _ => exact cell_of_cut h1
  | 2, _ => exact cell_of_cut h2
theorem rd_regs (N : Nat) : RdB enc Tryz.prog w base held N 24 (fun y : L RegD => [y.v]) (ListOk w 3 32 RegD.cells RegGood) :=
  (rd_list (N := N) (k := 3) (kb := 32) Tryz.underlying24 (by kernel_rfl) (by kernel_rfl) (by decide) (fun _ => rfl) (rd_reg N)).mono (Nat.le_succ N)
theorem rd_node (N : Nat) : RdB enc Tryz.prog w base held N 131 NodeD.cells NodeGood := by
  intro m hm cs x h hw
  obtain ⟨xs, n, e1, hx, hlen, hl, hf⟩ := DataW.trod_struct Tryz.underlying131 h
  subst hx
  simp only [DataW.weights, Tryz.underlying131] at hw
  obtain ⟨d0, h0, w0⟩ := rd_field (N := N) 0 _ 0 1 hf hl hw rfl rfl rfl (by kernel_rfl) (rd_int Tryz.underlying3) (by omega)
  obtain ⟨d1, h1, w1⟩ := rd_field (N := N) 1 _ 1 1 hf hl hw rfl rfl rfl (by kernel_rfl) (rd_int Tryz.underlying3) (by omega)
  obtain ⟨d2, h2, w2⟩ := rd_field (N := N) 2 _ 2 1 hf hl hw rfl rfl rfl (by kernel_rfl) (rd_int Tryz.underlying3) (by omega)
  have e2 : cs.length = 3 := hlen.trans (by kernel_rfl)
  refine ⟨⟨d0, d1, d2⟩, cells_eq e2 fun i hi => ?_, ⟨w0, w1, w2⟩⟩
  match i, hi with
  | 0, _ => exact cell_of_cut h0
  | 1, _ => exact cell_of_cut h1
  | 2, _ => exact cell_of_cut h2
theorem rd_nodes (N : Nat) : RdB enc Tryz.prog w base held N 32 (fun y : L NodeD => [y.v]) (ListOk w 3 24 NodeD.cells NodeGood) :=
  (rd_list (N := N) (k := 3) (kb := 24) Tryz.underlying32 (by kernel_rfl) (by kernel_rfl) (by decide) (fun _ => rfl) (rd_node N)).mono (Nat.le_succ N)
theorem rd_stmt (N : Nat) : RdB enc Tryz.prog w base held N 129 StmtD.cells (StmtGood w) := by
  intro m hm cs x h hw
  obtain ⟨xs, n, e1, hx, hlen, hl, hf⟩ := DataW.trod_struct Tryz.underlying129 h
  subst hx
  simp only [DataW.weights, Tryz.underlying129] at hw
  obtain ⟨d0, h0, w0⟩ := rd_field (N := N) 0 _ 0 1 hf hl hw rfl rfl rfl (by kernel_rfl) (rd_int Tryz.underlying3) (by omega)
  obtain ⟨d1, h1, w1⟩ := rd_field (N := N) 1 _ 1 2 hf hl hw rfl rfl rfl (by kernel_rfl) (rd_ref N) (by omega)
  obtain ⟨d2, h2, w2⟩ := rd_field (N := N) 2 _ 3 1 hf hl hw rfl rfl rfl (by kernel_rfl) (rd_int Tryz.underlying3) (by omega)
  obtain ⟨d3, h3, w3⟩ := rd_field (N := N) 3 _ 4 1 hf hl hw rfl rfl rfl (by kernel_rfl) (rd_int Tryz.underlying3) (by omega)
  obtain ⟨d4, h4, w4⟩ := rd_field (N := N) 4 _ 5 1 hf hl hw rfl rfl rfl (by kernel_rfl) (rd_nodes N) (by omega)
  obtain ⟨d5, h5, w5⟩ := rd_field (N := N) 5 _ 6 1 hf hl hw rfl rfl rfl (by kernel_rfl) (rd_nodes N) (by omega)
  have e2 : cs.length = 7 := hlen.trans (by kernel_rfl)
  refine ⟨⟨d0, d1.1, d1.2, d2, d3, d4, d5⟩, cells_eq e2 fun i hi => ?_, ⟨w0, w4, w5⟩⟩
  match i, hi with
  | 0, _ => exact cell_of_cut h0
  | 1, _ => exact cut_get h1 0 (by simp)
  | 2, _ => exact cut_get h1 1 (by simp)
  | 3, _ => exact cell_of_cut h2
  | 4, _ => exact cell_of_cut h3
  | 5, _ => exact cell_of_cut h4
  | 6, _ => exact cell_of_cut h5
theorem rd_stmts (N : Nat) : RdB enc Tryz.prog w base held N 66 (fun y : L StmtD => [y.v]) (ListOk w 7 88 StmtD.cells (StmtGood w)) :=
  (rd_list (N := N) (k := 7) (kb := 88) Tryz.underlying66 (by kernel_rfl) (by kernel_rfl) (by decide) (fun _ => rfl) (rd_stmt N)).mono (Nat.le_succ N)
theorem rd_act (N : Nat) : RdB enc Tryz.prog w base held N 68 ActD.cells (ActGood w) := by
  intro m hm cs x h hw
  obtain ⟨xs, n, e1, hx, hlen, hl, hf⟩ := DataW.trod_struct Tryz.underlying68 h
  subst hx
  simp only [DataW.weights, Tryz.underlying68] at hw
  obtain ⟨d0, h0, w0⟩ := rd_field (N := N) 0 _ 0 1 hf hl hw rfl rfl rfl (by kernel_rfl) (rd_str Tryz.underlying9) (by omega)
  obtain ⟨d1, h1, w1⟩ := rd_field (N := N) 1 _ 1 1 hf hl hw rfl rfl rfl (by kernel_rfl) (rd_fields N) (by omega)
  obtain ⟨d2, h2, w2⟩ := rd_field (N := N) 2 _ 2 1 hf hl hw rfl rfl rfl (by kernel_rfl) (rd_stmts N) (by omega)
  have e2 : cs.length = 3 := hlen.trans (by kernel_rfl)
  refine ⟨⟨d0, d1, d2⟩, cells_eq e2 fun i hi => ?_, ⟨w0, w1, w2⟩⟩
  match i, hi with
  | 0, _ => exact cell_of_cut h0
  | 1, _ => exact cell_of_cut h1
  | 2, _ => exact cell_of_cut h2
theorem rd_acts (N : Nat) : RdB enc Tryz.prog w base held N 25 (fun y : L ActD => [y.v]) (ListOk w 3 64 ActD.cells (ActGood w)) :=
  (rd_list (N := N) (k := 3) (kb := 64) Tryz.underlying25 (by kernel_rfl) (by kernel_rfl) (by decide) (fun _ => rfl) (rd_act N)).mono (Nat.le_succ N)
theorem rd_key (N : Nat) : RdB enc Tryz.prog w base held N 133 KeyD.cells KeyGood := by
  intro m hm cs x h hw
  obtain ⟨xs, n, e1, hx, hlen, hl, hf⟩ := DataW.trod_struct Tryz.underlying133 h
  subst hx
  simp only [DataW.weights, Tryz.underlying133] at hw
  obtain ⟨d0, h0, w0⟩ := rd_field (N := N) 0 _ 0 2 hf hl hw rfl rfl rfl (by kernel_rfl) (rd_ref N) (by omega)
  obtain ⟨d1, h1, w1⟩ := rd_field (N := N) 1 _ 2 1 hf hl hw rfl rfl rfl (by kernel_rfl) (rd_int Tryz.underlying3) (by omega)
  have e2 : cs.length = 3 := hlen.trans (by kernel_rfl)
  refine ⟨⟨d0.1, d0.2, d1⟩, cells_eq e2 fun i hi => ?_, ⟨w0.1, w0.2, w1⟩⟩
  match i, hi with
  | 0, _ => exact cut_get h0 0 (by simp)
  | 1, _ => exact cut_get h0 1 (by simp)
  | 2, _ => exact cell_of_cut h1
theorem rd_keys (N : Nat) : RdB enc Tryz.prog w base held N 47 (fun y : L KeyD => [y.v]) (ListOk w 3 24 KeyD.cells KeyGood) :=
  (rd_list (N := N) (k := 3) (kb := 24) Tryz.underlying47 (by kernel_rfl) (by kernel_rfl) (by decide) (fun _ => rfl) (rd_key N)).mono (Nat.le_succ N)
theorem rd_tab (N : Nat) : RdB enc Tryz.prog w base held N 52 TabD.cells (TabGood w) := by
  intro m hm cs x h hw
  obtain ⟨xs, n, e1, hx, hlen, hl, hf⟩ := DataW.trod_struct Tryz.underlying52 h
  subst hx
  simp only [DataW.weights, Tryz.underlying52] at hw
  obtain ⟨d0, h0, w0⟩ := rd_field (N := N) 0 _ 0 1 hf hl hw rfl rfl rfl (by kernel_rfl) (rd_str Tryz.underlying9) (by omega)
  obtain ⟨d1, h1, w1⟩ := rd_field (N := N) 1 _ 1 1 hf hl hw rfl rfl rfl (by kernel_rfl) (rd_keys N) (by omega)
  obtain ⟨d2, h2, w2⟩ := rd_field (N := N) 2 _ 2 1 hf hl hw rfl rfl rfl (by kernel_rfl) (rd_ints N) (by omega)
  obtain ⟨d3, h3, w3⟩ := rd_field (N := N) 3 _ 3 2 hf hl hw rfl rfl rfl (by kernel_rfl) (rd_call N) (by omega)
  obtain ⟨d4, h4, w4⟩ := rd_field (N := N) 4 _ 5 1 hf hl hw rfl rfl rfl (by kernel_rfl) (rd_int Tryz.underlying3) (by omega)
  have e2 : cs.length = 6 := hlen.trans (by kernel_rfl)
  refine ⟨⟨d0, d1, d2, d3.1, d3.2, d4⟩, cells_eq e2 fun i hi => ?_, ⟨w0, w1, w2, w3.1, w3.2, w4⟩⟩
  match i, hi with
  | 0, _ => exact cell_of_cut h0
  | 1, _ => exact cell_of_cut h1
  | 2, _ => exact cell_of_cut h2
  | 3, _ => exact cut_get h3 0 (by simp)
  | 4, _ => exact cut_get h3 1 (by simp)
  | 5, _ => exact cell_of_cut h4
theorem rd_tabs (N : Nat) : RdB enc Tryz.prog w base held N 26 (fun y : L TabD => [y.v]) (ListOk w 6 104 TabD.cells (TabGood w)) :=
  (rd_list (N := N) (k := 6) (kb := 104) Tryz.underlying26 (by kernel_rfl) (by kernel_rfl) (by decide) (fun _ => rfl) (rd_tab N)).mono (Nat.le_succ N)
theorem rd_case (N : Nat) : RdB enc Tryz.prog w base held N 166 CaseD.cells CaseGood := by
  intro m hm cs x h hw
  obtain ⟨xs, n, e1, hx, hlen, hl, hf⟩ := DataW.trod_struct Tryz.underlying166 h
  subst hx
  simp only [DataW.weights, Tryz.underlying166] at hw
  obtain ⟨d0, h0, w0⟩ := rd_field (N := N) 0 _ 0 1 hf hl hw rfl rfl rfl (by kernel_rfl) (rd_int Tryz.underlying134) (by omega)
  obtain ⟨d1, h1, w1⟩ := rd_field (N := N) 1 _ 1 1 hf hl hw rfl rfl rfl (by kernel_rfl) (rd_int Tryz.underlying134) (by omega)
  obtain ⟨d2, h2, w2⟩ := rd_field (N := N) 2 _ 2 1 hf hl hw rfl rfl rfl (by kernel_rfl) (rd_int Tryz.underlying3) (by omega)
  have e2 : cs.length = 3 := hlen.trans (by kernel_rfl)
  refine ⟨⟨d0, d1, d2⟩, cells_eq e2 fun i hi => ?_, ⟨w0, w1, w2⟩⟩
  match i, hi with
  | 0, _ => exact cell_of_cut h0
  | 1, _ => exact cell_of_cut h1
  | 2, _ => exact cell_of_cut h2
theorem rd_cases (N : Nat) : RdB enc Tryz.prog w base held N 71 (fun y : L CaseD => [y.v]) (ListOk w 3 16 CaseD.cells CaseGood) :=
  (rd_list (N := N) (k := 3) (kb := 16) Tryz.underlying71 (by kernel_rfl) (by kernel_rfl) (by decide) (fun _ => rfl) (rd_case N)).mono (Nat.le_succ N)
theorem rd_state (N : Nat) : RdB enc Tryz.prog w base held N 73 StateD.cells (StateGood w) := by
  intro m hm cs x h hw
  obtain ⟨xs, n, e1, hx, hlen, hl, hf⟩ := DataW.trod_struct Tryz.underlying73 h
  subst hx
  simp only [DataW.weights, Tryz.underlying73] at hw
  obtain ⟨d0, h0, w0⟩ := rd_field (N := N) 0 _ 0 1 hf hl hw rfl rfl rfl (by kernel_rfl) (rd_str Tryz.underlying9) (by omega)
  obtain ⟨d1, h1, w1⟩ := rd_field (N := N) 1 _ 1 1 hf hl hw rfl rfl rfl (by kernel_rfl) (rd_ints N) (by omega)
  obtain ⟨d2, h2, w2⟩ := rd_field (N := N) 2 _ 2 1 hf hl hw rfl rfl rfl (by kernel_rfl) (rd_bool Tryz.underlying4) (by omega)
  obtain ⟨d3, h3, w3⟩ := rd_field (N := N) 3 _ 3 2 hf hl hw rfl rfl rfl (by kernel_rfl) (rd_ref N) (by omega)
  obtain ⟨d4, h4, w4⟩ := rd_field (N := N) 4 _ 5 1 hf hl hw rfl rfl rfl (by kernel_rfl) (rd_cases N) (by omega)
  obtain ⟨d5, h5, w5⟩ := rd_field (N := N) 5 _ 6 1 hf hl hw rfl rfl rfl (by kernel_rfl) (rd_int Tryz.underlying3) (by omega)
  have e2 : cs.length = 7 := hlen.trans (by kernel_rfl)
  refine ⟨⟨d0, d1, d2, d3.1, d3.2, d4, d5⟩, cells_eq e2 fun i hi => ?_, ⟨w0, w1, w4, w5⟩⟩
  match i, hi with
  | 0, _ => exact cell_of_cut h0
  | 1, _ => exact cell_of_cut h1
  | 2, _ => exact cell_of_cut h2
  | 3, _ => exact cut_get h3 0 (by simp)
  | 4, _ => exact cut_get h3 1 (by simp)
  | 5, _ => exact cell_of_cut h4
  | 6, _ => exact cell_of_cut h5
theorem rd_states (N : Nat) : RdB enc Tryz.prog w base held N 27 (fun y : L StateD => [y.v]) (ListOk w 7 96 StateD.cells (StateGood w)) :=
  (rd_list (N := N) (k := 7) (kb := 96) Tryz.underlying27 (by kernel_rfl) (by kernel_rfl) (by decide) (fun _ => rfl) (rd_state N)).mono (Nat.le_succ N)
theorem rd_ctl : ∀ N, RdB enc Tryz.prog w base held N 106 CtlD.cells (CtlGood w)
  | 0 => fun m hm => absurd hm (Nat.not_lt_zero _)
  | N + 1 => by
    have HL : RdB enc Tryz.prog w base held (N + 1) 28 (fun y : L CtlD => [y.v]) (ListOk w 5 88 CtlD.cells (CtlGood w)) :=
      rd_list (N := N) (k := 5) (kb := 88) Tryz.underlying28 (by kernel_rfl) (by kernel_rfl) (by decide) (fun _ => rfl) (rd_ctl N)
    intro m hm cs x h hw
    obtain ⟨xs, n, e1, hx, hlen, hl, hf⟩ := DataW.trod_struct Tryz.underlying106 h
    subst hx
    simp only [DataW.weights, Tryz.underlying106] at hw
    obtain ⟨d0, h0, w0⟩ := rd_field (N := N + 1) 0 _ 0 1 hf hl hw rfl rfl rfl (by kernel_rfl) (rd_int Tryz.underlying3) (by omega)
    obtain ⟨d1, h1, w1⟩ := rd_field (N := N + 1) 1 _ 1 1 hf hl hw rfl rfl rfl (by kernel_rfl) (rd_int Tryz.underlying3) (by omega)
    obtain ⟨d2, h2, w2⟩ := rd_field (N := N + 1) 2 _ 2 1 hf hl hw rfl rfl rfl (by kernel_rfl) (rd_nodes (N + 1)) (by omega)
    obtain ⟨d3, h3, w3⟩ := rd_field (N := N + 1) 3 _ 3 1 hf hl hw rfl rfl rfl (by kernel_rfl) HL (by omega)
    obtain ⟨d4, h4, w4⟩ := rd_field (N := N + 1) 4 _ 4 1 hf hl hw rfl rfl rfl (by kernel_rfl) HL (by omega)
    have e2 : cs.length = 5 := hlen.trans (by kernel_rfl)
    have hG : CtlGood w (.mk d0 d1 d2 d3.l d4.l d3.A d4.A d3.c d4.c) := by
      refine ⟨?_, .cons (len_cap w3 (by decide)) (len_cap w4 (by decide)) (CtlCaps.all fun y hy => (w3.all y hy).caps) (CtlCaps.all fun y hy => (w4.all y hy).caps) .nil⟩
      rw [CtlOk]
      exact ⟨w2.lok, w3.lok, w4.lok, ctls_of fun y hy => (w3.all y hy).ok, ctls_of fun y hy => (w4.all y hy).ok⟩
    refine ⟨.mk d0 d1 d2 d3.l d4.l d3.A d4.A d3.c d4.c, cells_eq e2 fun i hi => ?_, hG⟩
    match i, hi with
    | 0, _ => exact cell_of_cut h0
    | 1, _ => exact cell_of_cut h1
    | 2, _ => exact cell_of_cut h2
    | 3, _ => exact cell_of_cut h3
    | 4, _ => exact cell_of_cut h4
theorem rd_ctls (N : Nat) : RdB enc Tryz.prog w base held N 28 (fun y : L CtlD => [y.v]) (ListOk w 5 88 CtlD.cells (CtlGood w)) :=
  (rd_list (N := N) (k := 5) (kb := 88) Tryz.underlying28 (by kernel_rfl) (by kernel_rfl) (by decide) (fun _ => rfl) (rd_ctl N)).mono (Nat.le_succ N)
theorem rd_prog (N : Nat) : RdB enc Tryz.prog w base held N 31 (fun p : ProgD => (progCells p).toList) (ProgGood w) := by
  intro m hm cs x h hw
  obtain ⟨xs, n, e1, hx, hlen, hl, hf⟩ := DataW.trod_struct Tryz.underlying31 h
  subst hx
  simp only [DataW.weights, Tryz.underlying31] at hw
  obtain ⟨d0, h0, w0⟩ := rd_field (N := N) 0 _ 0 1 hf hl hw rfl rfl rfl (by kernel_rfl) (rd_str Tryz.underlying9) (by omega)
  obtain ⟨d1, h1, w1⟩ := rd_field (N := N) 1 _ 1 1 hf hl hw rfl rfl rfl (by kernel_rfl) (rd_headers N) (by omega)
  obtain ⟨d2, h2, w2⟩ := rd_field (N := N) 2 _ 2 1 hf hl hw rfl rfl rfl (by kernel_rfl) (rd_fields N) (by omega)
  obtain ⟨d3, h3, w3⟩ := rd_field (N := N) 3 _ 3 1 hf hl hw rfl rfl rfl (by kernel_rfl) (rd_regs N) (by omega)
  obtain ⟨d4, h4, w4⟩ := rd_field (N := N) 4 _ 4 1 hf hl hw rfl rfl rfl (by kernel_rfl) (rd_acts N) (by omega)
  obtain ⟨d5, h5, w5⟩ := rd_field (N := N) 5 _ 5 1 hf hl hw rfl rfl rfl (by kernel_rfl) (rd_tabs N) (by omega)
  obtain ⟨d6, h6, w6⟩ := rd_field (N := N) 6 _ 6 1 hf hl hw rfl rfl rfl (by kernel_rfl) (rd_states N) (by omega)
  obtain ⟨d7, h7, w7⟩ := rd_field (N := N) 7 _ 7 1 hf hl hw rfl rfl rfl (by kernel_rfl) (rd_ctls N) (by omega)
  obtain ⟨d8, h8, w8⟩ := rd_field (N := N) 8 _ 8 1 hf hl hw rfl rfl rfl (by kernel_rfl) (rd_ints N) (by omega)
  have e2 : cs.length = 9 := hlen.trans (by kernel_rfl)
  refine ⟨⟨d0, d1, d2, d3, d4, d5, d6, d7, d8⟩, cells_eq e2 fun i hi => ?_, ⟨w0, w1, w2, w3, w4, w5, w6, w7, w8⟩⟩
  match i, hi with
  | 0, _ => exact cell_of_cut h0
  | 1, _ => exact cell_of_cut h1
  | 2, _ => exact cell_of_cut h2
  | 3, _ => exact cell_of_cut h3
  | 4, _ => exact cell_of_cut h4
  | 5, _ => exact cell_of_cut h5
  | 6, _ => exact cell_of_cut h6
  | 7, _ => exact cell_of_cut h7
  | 8, _ => exact cell_of_cut h8
end
end Go.Proofs.YtgfbikknkcaneaaGreat
namespace Go.Proofs.YtgfbikknkcaneaaGreat
open Go.RowKit Go.WideShapes Go.ChangeShapes

section
variable {H : Type} {enc : TypeId × Value → H} {P : Program} {w : World} {base : Nat} {held : Bool} {N : Nat}
/-- a slice, of whatever elements -/
theorem rd_slice {t e : TypeId} (ht : P.underlying t = some (.slice e)) : RdB enc P w base held N t (fun y : Option Addr × Nat × Nat => [.slice y.1 y.2.1 y.2.2]) (fun _ => True) := by
  intro m _ cs x h _
  rcases DataW.trod_slice ht h with ⟨rfl, _⟩ | ⟨a, len, cap, elems, rest, n, e1, rfl, hx, _⟩
  · exact ⟨(none, 0, 0), rfl, trivial⟩
  · exact ⟨(some a, len, cap), rfl, trivial⟩
end
section
variable {H : Type} {enc : TypeId × Value → H} {w : World} {base : Nat} {held : Bool}
theorem rd_unit (N : Nat) : RdB enc Tryz.prog w base held N 35 (fun u : UnitD => u.cells.toList) (fun _ => True) := by
  intro m hm cs x h hw
  obtain ⟨xs, n, e1, hx, hlen, hl, hf⟩ := DataW.trod_struct Tryz.underlying35 h
  subst hx
  simp only [DataW.weights, Tryz.underlying35] at hw
  obtain ⟨d0, h0, w0⟩ := rd_field (N := N) 0 _ 0 1 hf hl hw rfl rfl rfl (by kernel_rfl) (rd_int Tryz.underlying3) (by omega)
  obtain ⟨⟨a1, n1, k1⟩, h1, w1⟩ := rd_field (N := N) 1 _ 1 1 hf hl hw rfl rfl rfl (by kernel_rfl) (rd_slice Tryz.underlying32) (by omega)
  obtain ⟨⟨a2, n2, k2⟩, h2, w2⟩ := rd_field (N := N) 2 _ 2 1 hf hl hw rfl rfl rfl (by kernel_rfl) (rd_slice Tryz.underlying33) (by omega)
  have e2 : cs.length = 3 := hlen.trans (by kernel_rfl)
  refine ⟨⟨d0, a1, n1, k1, a2, n2, k2⟩, cells_eq e2 fun i hi => ?_, trivial⟩
  match i, hi with
  | 0, _ => exact cell_of_cut h0
  | 1, _ => exact cell_of_cut h1
  | 2, _ => exact cell_of_cut h2
end

theorem eql_res (a b : Int) (w : World) : Sem.run Tryz.prog (binOp .eql 39 (.agg #[.int .i64 a, .int .i64 b]) (.agg #[.int .i64 a, .int .i64 b])) w = .ok (.bool true) w := by
  have hS : Tryz.prog.underlying 39 = some (.struct (Tryz.prog.fieldsOf 39)) := by kernel_rfl
  have hp : Tryz.prog.stoodInHeld 39 = false := by kernel_rfl
  have u0 := Tryz.underlying3
  have a0 := Tryz.isAgg3
  have z0 := Tryz.sizeOf3
  rw [run_eql_struct, show (10000 : Nat) = 9999 + 1 from rfl, run_equalIn_agg w 9999 39 _ _ hS hp]
  simp only [Program.fieldsOf, Tryz.underlying39]
  go_simp
set_option maxRecDepth 100000 in
set_option maxHeartbeats 16000000 in
theorem law_tables (p : ProgD) (t : Int) (un : UnitD) (w : World) (hp0 : ProgGood w p) :
    Calls Tryz.prog 3 #[.agg (progCells p), .int .i64 t, .agg un.cells] w fun e w' => e = .returned (.bool true) ∧ Below w.heap.size w w' := by
  obtain ⟨W, hW, hw, HB, hp⟩ := box2 w (progCells p) 31 un.cells 35
  have HW := Lib.hid hw
  have HP := Lib.hid (hp0.ok.below hw)
  have HLp := Lib.hid (fun u (hb : Below W.heap.size W u) => tooLarge_any p u (HP.out.below hb) (len_cap hp0.control (by decide)) hp0.caps)
  have HCap := Lib.hid hp0.cap
  clear hp0 hw
  go_enter Tryz.func3, Tryz.ntmps3
  go_upto_region 1 with fail
  rw [← hW]
  clear hW
  go_wp2_with fail
  refine (HLp.out _ HB).mono ?_
  rintro e w1 ⟨⟨b, rfl, hb⟩, hbN⟩
  replace HB := below_step HB hbN
  have HS := Lib.hid hb
  clear hbN hb
  cases b with
  | true =>
    go_wp2_with fail
    refine (works34_any _).mono ?_
    rintro e w2 ⟨rfl, hbN⟩
    replace HB := below_step HB hbN
    clear hbN
    go_wp2
    go_ret
    exact ⟨rfl, below_step HW.out HB⟩
  | false =>
  have HSm := Lib.hid (HS.out rfl)
  clear HS HLp
  have E1 := Lib.hid (fun u (hb : Below w1.heap.size w1 u) => tcost_any p t u (HP.out.below (below_step HB hb)) HCap.out (Nat.le_trans HSm.out.nodes (by decide)))
  have E2 := Lib.hid (fun u (hb : Below w1.heap.size w1 u) => rtcost_any p t u (HP.out.below (below_step HB hb)) HCap.out (Nat.le_trans HSm.out.nodes (by decide)))
  have E3 := Lib.hid (fun u (hb : Below w1.heap.size w1 u) => ucost_any p un u (HP.out.below (below_step HB hb)) HCap.out (Nat.le_trans HSm.out.nodes (by decide)))
  have E4 := Lib.hid (fun u (hb : Below w1.heap.size w1 u) => rucost_any p un u (HP.out.below (below_step HB hb)) HCap.out (Nat.le_trans HSm.out.nodes (by decide)))
  obtain ⟨un0, b1, b2, b3, b4, b5, b6⟩ := un
  simp only at E3 E4 hp
  generalize costP p t = r1 at *
  generalize costP p un0 = r2 at *
  obtain ⟨x1, y1⟩ := r1
  obtain ⟨x2, y2⟩ := r2
  simp only [resV] at E1 E2 E3 E4
  have hd1 := eql_res x1 y1
  have hd2 := eql_res x2 y2
  have hq := fun u (hb : Below w1.heap.size w1 u) => hp u (below_step HB hb)
  have H0 := Lib.hid (Below.refl w1.heap.size w1)
  have HBV := Lib.hid HB
  have hB0 : Below w1.heap.size w1 w1 := Below.refl _ _
  clear HB hp
  go_upto_region 3 with fail
  go_region_held3 (fun w' => Below w1.heap.size w1 w') (first | exact H0.out | exact below_drew H0.out | (exact below_step (by assumption) (by assumption)) | assumption)
    (first
    | (go_at_call 13; with_reducible (refine (E1.out _ (by assumption)).mono ?_); rintro e w5 ⟨rfl, hb1⟩)
    | (go_at_call 14; with_reducible (refine (E2.out _ (by assumption)).mono ?_); rintro e w5 ⟨rfl, hb1⟩)
    | (go_at_call 15; with_reducible (refine (E3.out _ (by assumption)).mono ?_); rintro e w5 ⟨rfl, hb1⟩)
    | (go_at_call 16; with_reducible (refine (E4.out _ (by assumption)).mono ?_); rintro e w5 ⟨rfl, hb1⟩)
    | (go_at_call 12; refine (works34_any _).mono ?_; rintro e w5 ⟨rfl, hb1⟩))
  have HB5 : Hid (Below w1.heap.size w1 _) := Lib.hid (by assumption)
  go_wp2
  go_ret
  exact ⟨rfl, below_step HW.out (below_step HBV.out HB5.out)⟩
end Go.Proofs.YtgfbikknkcaneaaGreat
