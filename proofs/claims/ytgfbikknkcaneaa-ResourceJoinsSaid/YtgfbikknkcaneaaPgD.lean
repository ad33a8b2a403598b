/- The programs that the laws of chapter 34 build, as they lie in memory; walks of action.Check, CheckCall at them. -/
import Derived.Test.YtgfbikknkcaneaaPgC
namespace Go.Proofs.Ytgfbikknkcaneaa
open Go.RowKit

/-- a program without headers, registers and control flow, with one action without a body, one table, one parser state -/
structure Sm where
  hA : Option Addr
  hc : Nat
  mg : Nat
  mo : Nat
  mc : Nat
  rA : Option Addr
  rc : Nat
  ag : Nat
  ao : Nat
  ac : Nat
  pw : Option Int
  pA : Option Addr
  pc : Nat
  bA : Option Addr
  bc : Nat
  tg : Nat
  tof : Nat
  tc : Nat
  kd : Int
  nk : Nat
  kA : Option Addr
  kc : Nat
  ig : Nat
  io : Nat
  ic : Nat
  dA : Option Addr
  dc : Nat
  size : Int
  sg : Nat
  so : Nat
  sc : Nat
  eA : Option Addr
  ec : Nat
  cA : Option Addr
  cc : Nat
  xA : Option Addr
  xc : Nat
  yA : Option Addr
  yc : Nat
def Sm.np (s : Sm) : Nat := match s.pw with | none => 0 | some _ => 1
def vName : ByteArray := ⟨#[118]⟩
def Sm.params (s : Sm) : L FieldD := ⟨(match s.pw with | none => [] | some n => [⟨vName, n⟩]), s.pA, s.pc⟩
def Sm.act (s : Sm) : ActD := ⟨⟨#[120]⟩, s.params, ⟨[], s.bA, s.bc⟩⟩
def Sm.keys (s : Sm) : L KeyD := ⟨List.replicate s.nk ⟨-1, 0, s.kd⟩, s.kA, s.kc⟩
def Sm.args (s : Sm) : L Int := ⟨List.replicate s.np 0, s.dA, s.dc⟩
def Sm.tab (s : Sm) : TabD := ⟨⟨#[116]⟩, s.keys, ⟨[0], some ⟨s.ig, s.io, none⟩, s.ic⟩, 0, s.args, s.size⟩
def Sm.state (s : Sm) : StateD := ⟨⟨#[115]⟩, ⟨[], s.eA, s.ec⟩, false, 0, 0, ⟨[], s.cA, s.cc⟩, -1⟩
def Sm.prog (s : Sm) : ProgD := ⟨⟨#[112]⟩, ⟨[], s.hA, s.hc⟩, ⟨metaL, some ⟨s.mg, s.mo, none⟩, s.mc⟩, ⟨[], s.rA, s.rc⟩, ⟨[s.act], some ⟨s.ag, s.ao, none⟩, s.ac⟩,
  ⟨[s.tab], some ⟨s.tg, s.tof, none⟩, s.tc⟩, ⟨[s.state], some ⟨s.sg, s.so, none⟩, s.sc⟩, ⟨[], s.xA, s.xc⟩, ⟨[], s.yA, s.yc⟩⟩
/-- its widths pass -/
structure SmOk (s : Sm) : Prop where
  pw : ∀ n, s.pw = some n → 1 ≤ n ∧ n ≤ 32
  kd : s.kd = 1 ∨ s.kd = 3
  nk : s.nk ≤ 6
  lo : 1 ≤ s.size
  hi : s.size ≤ 256
theorem Sm.plen (s : Sm) : s.params.l.length = s.np := by unfold Sm.params Sm.np; cases s.pw <;> rfl
theorem Sm.klen (s : Sm) : s.keys.l.length = s.nk := by simp [Sm.keys]
theorem Sm.alen (s : Sm) : s.args.l.length = s.np := by simp [Sm.args]
/-- what a walk knows of such a program's memory, in every later world -/
structure SmAt (w : World) (s : Sm) : Prop where
  ok : ProgOk w s.prog
theorem SmAt.below {w w' : World} {s : Sm} (h : SmAt w s) (hb : Below w.heap.size w w') : SmAt w' s := ⟨h.ok.below hb⟩
theorem SmAt.act {w : World} {s : Sm} (h : SmAt w s) : w.cell? ⟨s.ag, s.ao, none⟩ = some (.string ⟨#[120]⟩) ∧ w.cell? ⟨s.ag, s.ao + 1, none⟩ = some (.slice s.pA s.np s.pc) ∧ w.cell? ⟨s.ag, s.ao + 2, none⟩ = some (.slice s.bA 0 s.bc) := by
  obtain ⟨g, o, e, c0, c1, c2⟩ := ActD.at h.ok.actions (show 0 < 1 by omega)
  simp only [Sm.prog, Option.some.injEq, Addr.mk.injEq, and_true] at e
  obtain ⟨rfl, rfl⟩ := e
  refine ⟨by simpa [Sm.prog, Sm.act] using c0, ?_, by simpa [Sm.prog, Sm.act, L.v] using c2⟩
  have := s.plen
  simp [Sm.prog, Sm.act, L.v, this] at c1
  exact c1
theorem SmAt.par {w : World} {s : Sm} (h : SmAt w s) {n : Int} (hn : s.pw = some n) : ∃ g o, s.pA = some ⟨g, o, none⟩ ∧ w.cell? ⟨g, o, none⟩ = some (.string vName) ∧ w.cell? ⟨g, o + 1, none⟩ = some (.int .i64 n) := by
  have ha := (h.ok.act s.act (by simp [Sm.prog])).params
  have hp : s.params.l = [⟨vName, n⟩] := by simp [Sm.params, hn]
  obtain ⟨g, o, e, c0, c1⟩ := FieldD.at (x := s.params) ha (show 0 < s.params.l.length by rw [hp]; exact Nat.one_pos)
  simp only [hp, List.getElem_cons_zero, Nat.zero_mul, Nat.add_zero] at c0 c1
  exact ⟨g, o, e, c0, c1⟩

theorem indexFunc_empty (A : Option Addr) (c : Nat) (f : Value) (w : World) :
    Calls Try.prog 90 #[.slice A 0 c, f] w fun e w' => e = .returned (.int .i64 (-1)) ∧ w = w' := by
  go_enter Try.func90, Try.ntmps90
  go_wp2
  refine wp_loop_rounds 1 ?_
  rw [rounds_succ]
  go_wp2
  go_ret
  exact ⟨rfl, rfl⟩
theorem containsFunc_empty (A : Option Addr) (c : Nat) (f : Value) (w : World) :
    Calls Try.prog 79 #[.slice A 0 c, f] w fun e w' => e = .returned (.bool false) ∧ w = w' := by
  go_enter Try.func79, Try.ntmps79
  go_wp2_with fail
  refine (indexFunc_empty _ _ _ _).mono ?_
  rintro e w' ⟨rfl, rfl⟩
  go_wp2
  go_ret
  exact ⟨rfl, rfl⟩

set_option maxRecDepth 100000 in
set_option maxHeartbeats 1000000 in
theorem declaration_ok (s : Sm) (w : World) (h : SmAt w s) (o : SmOk s) :
    Calls Try.prog 59 #[.agg #[.string ⟨#[120]⟩, .slice s.pA s.np s.pc, .slice s.bA 0 s.bc]] w fun e w' => e = .returned (.int .i64 0) ∧ Below w.heap.size w w' := by
  have hmf : ∀ (fn : Fn) (first cap : Array Value) (w : World), (Instr.makeFunc fn first cap).run Try.prog w = .ok (.func fn first cap) w := fun _ _ _ _ => rfl
  rcases hp : s.pw with _ | n
  · have e0 : s.np = 0 := by rw [Sm.np, hp]
    rw [e0]
    clear hp e0
    go_enter Try.func59, Try.ntmps59
    go_wp2_with fail
    refine (isIdent_any ⟨#[120]⟩ _ (by decide)).mono ?_
    rintro e w' ⟨rfl, rfl⟩
    rw [show identM (⟨#[120]⟩ : ByteArray).data.toList = true by decide +kernel]
    go_wp2
    refine wp_loop_rounds 1 ?_
    rw [rounds_succ]
    go_wp2
    go_ret
    exact ⟨rfl, below1 _ _⟩
  · have e0 : s.np = 1 := by rw [Sm.np, hp]
    rw [e0]
    obtain ⟨g, of, hA, c0, c1⟩ := h.par hp
    rw [hA]
    have hn := o.pw n hp
    have hn1 := hn.1
    have hn2 := hn.2
    have hca := @World.cell?_alloc_some
    clear hp e0 hA o h hn
    go_enter Try.func59, Try.ntmps59
    go_wp2_with fail
    refine (isIdent_any ⟨#[120]⟩ _ (by decide)).mono ?_
    rintro e w' ⟨rfl, rfl⟩
    rw [show identM (⟨#[120]⟩ : ByteArray).data.toList = true by decide +kernel]
    go_wp2
    refine wp_loop_rounds 2 ?_
    rw [rounds_succ]
    go_wp2_with fail
    refine (isIdent_any vName _ (by decide)).mono ?_
    rintro e w' ⟨rfl, rfl⟩
    rw [show identM vName.data.toList = true by decide +kernel]
    go_wp2_with fail
    refine (containsFunc_empty _ _ _ _).mono ?_
    rintro e w' ⟨rfl, rfl⟩
    go_wp2
    rw [rounds_succ]
    go_wp2
    go_ret
    exact ⟨rfl, below2 _ _ _⟩

theorem neg_one : (-1 : Int) < 0 := by decide
/-- the value of such a program -/
theorem Sm.val (s : Sm) : s.prog.val = .agg #[.string ⟨#[112]⟩, .slice s.hA 0 s.hc, .slice (some ⟨s.mg, s.mo, none⟩) 3 s.mc, .slice s.rA 0 s.rc, .slice (some ⟨s.ag, s.ao, none⟩) 1 s.ac,
    .slice (some ⟨s.tg, s.tof, none⟩) 1 s.tc, .slice (some ⟨s.sg, s.so, none⟩) 1 s.sc, .slice s.xA 0 s.xc, .slice s.yA 0 s.yc] := rfl
/-- a parameter's own copy of such a program, in every later world -/
theorem sm_box (w : World) (s : Sm) (t : TypeId) : ∃ W, W = w.alloc (.cells #[.string ⟨#[112]⟩, .slice s.hA 0 s.hc, .slice (some ⟨s.mg, s.mo, none⟩) 3 s.mc, .slice s.rA 0 s.rc, .slice (some ⟨s.ag, s.ao, none⟩) 1 s.ac,
      .slice (some ⟨s.tg, s.tof, none⟩) 1 s.tc, .slice (some ⟨s.sg, s.so, none⟩) 1 s.sc, .slice s.xA 0 s.xc, .slice s.yA 0 s.yc] t) ∧
    Below w.heap.size w W ∧ ∀ w', Below W.heap.size W w' →
      (w'.cell? ⟨w.heap.size, 0, none⟩ = some (.string ⟨#[112]⟩) ∧ w'.cell? ⟨w.heap.size, 1, none⟩ = some (.slice s.hA 0 s.hc) ∧
       w'.cell? ⟨w.heap.size, 2, none⟩ = some (.slice (some ⟨s.mg, s.mo, none⟩) 3 s.mc) ∧ w'.cell? ⟨w.heap.size, 3, none⟩ = some (.slice s.rA 0 s.rc) ∧
       w'.cell? ⟨w.heap.size, 4, none⟩ = some (.slice (some ⟨s.ag, s.ao, none⟩) 1 s.ac) ∧ w'.cell? ⟨w.heap.size, 5, none⟩ = some (.slice (some ⟨s.tg, s.tof, none⟩) 1 s.tc) ∧
       w'.cell? ⟨w.heap.size, 6, none⟩ = some (.slice (some ⟨s.sg, s.so, none⟩) 1 s.sc) ∧ w'.cell? ⟨w.heap.size, 7, none⟩ = some (.slice s.xA 0 s.xc) ∧
       w'.cell? ⟨w.heap.size, 8, none⟩ = some (.slice s.yA 0 s.yc)) := by
  refine ⟨_, rfl, below1 _ _, fun w' hb => ⟨?_, ?_, ?_, ?_, ?_, ?_, ?_, ?_, ?_⟩⟩ <;> exact below_cell hb (by simp)

theorem sm_box2 (w : World) (s : Sm) (t : TypeId) (cs : Array Value) (t2 : TypeId) : ∃ W, W = (w.alloc (.cells #[.string ⟨#[112]⟩, .slice s.hA 0 s.hc, .slice (some ⟨s.mg, s.mo, none⟩) 3 s.mc, .slice s.rA 0 s.rc, .slice (some ⟨s.ag, s.ao, none⟩) 1 s.ac,
      .slice (some ⟨s.tg, s.tof, none⟩) 1 s.tc, .slice (some ⟨s.sg, s.so, none⟩) 1 s.sc, .slice s.xA 0 s.xc, .slice s.yA 0 s.yc] t)).alloc (.cells cs t2) ∧
    Below w.heap.size w W ∧ (∀ w', Below W.heap.size W w' →
      (w'.cell? ⟨w.heap.size, 0, none⟩ = some (.string ⟨#[112]⟩) ∧ w'.cell? ⟨w.heap.size, 1, none⟩ = some (.slice s.hA 0 s.hc) ∧
       w'.cell? ⟨w.heap.size, 2, none⟩ = some (.slice (some ⟨s.mg, s.mo, none⟩) 3 s.mc) ∧ w'.cell? ⟨w.heap.size, 3, none⟩ = some (.slice s.rA 0 s.rc) ∧
       w'.cell? ⟨w.heap.size, 4, none⟩ = some (.slice (some ⟨s.ag, s.ao, none⟩) 1 s.ac) ∧ w'.cell? ⟨w.heap.size, 5, none⟩ = some (.slice (some ⟨s.tg, s.tof, none⟩) 1 s.tc) ∧
       w'.cell? ⟨w.heap.size, 6, none⟩ = some (.slice (some ⟨s.sg, s.so, none⟩) 1 s.sc) ∧ w'.cell? ⟨w.heap.size, 7, none⟩ = some (.slice s.xA 0 s.xc) ∧
       w'.cell? ⟨w.heap.size, 8, none⟩ = some (.slice s.yA 0 s.yc))) ∧
    ∀ w' j, Below W.heap.size W w' → j < cs.size → w'.cell? ⟨w.heap.size + 1, j, none⟩ = cs[j]? := by
  refine ⟨_, rfl, below2 _ _ _, fun w' hb => ⟨?_, ?_, ?_, ?_, ?_, ?_, ?_, ?_, ?_⟩, fun w' j hb hj => ?_⟩
  case refine_10 =>
    rw [Array.getElem?_eq_getElem hj]
    exact below_cell hb (by simp [hj])
  all_goals exact below_cell hb (by simp)

set_option maxRecDepth 100000 in
set_option maxHeartbeats 1000000 in
theorem actionCheck_ok (s : Sm) (w : World) (h : SmAt w s) (o : SmOk s) :
    Calls Try.prog 45 #[s.prog.val, .int .i64 0] w fun e w' => e = .returned (.tuple #[.int .i64 0, .int .i64 0]) ∧ Below w.heap.size w w' := by
  have HA := Lib.hid h
  have HO := Lib.hid o
  have hca := @World.cell?_alloc_some
  obtain ⟨c0, c1, c2⟩ := h.act
  clear h o
  obtain ⟨W, hW, hb, hp, hq⟩ := sm_box2 w s 42 #[.string ⟨#[120]⟩, .slice s.pA s.np s.pc, .slice s.bA 0 s.bc] 70
  have HB := Lib.hid hb
  clear hb
  rw [Sm.val]
  go_enter Try.func45, Try.ntmps45
  go_wp2_with fail
  rw [← hW]
  clear hW
  refine (declaration_ok s _ (HA.out.below HB.out) HO.out).mono ?_
  rintro e w1 ⟨rfl, hb1⟩
  have HB1 := Lib.hid (below_step HB.out hb1)
  go_wp2
  refine wp_loop_rounds 1 ?_
  rw [rounds_succ]
  go_wp2
  go_ret2
  exact ⟨rfl, below_alloc HB1.out _⟩
end Go.Proofs.Ytgfbikknkcaneaa

