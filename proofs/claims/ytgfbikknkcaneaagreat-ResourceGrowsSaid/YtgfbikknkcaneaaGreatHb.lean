/- The programs that the laws of chapter 34 build, as they lie in memory; walks of action.Check, CheckCall at them. Walks of action.CheckCall, table's checks at the small programs. Walks of table's checks at the small programs: the keys, the whole table. Walks of table.Widths and Bits at the small programs. Walks of the parser's, the control flow's and the deparser's checks at the small programs. Walks of program.checkObjects and program.Check at the small programs. Walks of package resource at the small programs. -/
import Derived.Test.YtgfbikknkcaneaaGreatPgC
import Derived.Maps.OwnSet
import Derived.Defers
import Derived.Recover
namespace Go.Proofs.YtgfbikknkcaneaaGreat
open Go.RowKit

/-- a program without headers, registers and control flow, with one action without a body, one table, one parser state -/
structure Sm where
  hA : Option Addr
  hc : Nat
  mg : Nat
  mo : Nat
  mc : Nat
  rA : Option Addr
  rc : Nat
  ag : Nat
  ao : Nat
  ac : Nat
  pw : Option Int
  pA : Option Addr
  pc : Nat
  bA : Option Addr
  bc : Nat
  tg : Nat
  tof : Nat
  tc : Nat
  kd : Int
  nk : Nat
  kA : Option Addr
  kc : Nat
  ig : Nat
  io : Nat
  ic : Nat
  dA : Option Addr
  dc : Nat
  size : Int
  sg : Nat
  so : Nat
  sc : Nat
  eA : Option Addr
  ec : Nat
  cA : Option Addr
  cc : Nat
  xA : Option Addr
  xc : Nat
  yA : Option Addr
  yc : Nat
def Sm.np (s : Sm) : Nat := match s.pw with | none => 0 | some _ => 1
def vName : ByteArray := ⟨#[118]⟩
def Sm.params (s : Sm) : L FieldD := ⟨(match s.pw with | none => [] | some n => [⟨vName, n⟩]), s.pA, s.pc⟩
def Sm.act (s : Sm) : ActD := ⟨⟨#[120]⟩, s.params, ⟨[], s.bA, s.bc⟩⟩
def Sm.keys (s : Sm) : L KeyD := ⟨List.replicate s.nk ⟨-1, 0, s.kd⟩, s.kA, s.kc⟩
def Sm.args (s : Sm) : L Int := ⟨List.replicate s.np 0, s.dA, s.dc⟩
def Sm.tab (s : Sm) : TabD := ⟨⟨#[116]⟩, s.keys, ⟨[0], some ⟨s.ig, s.io, none⟩, s.ic⟩, 0, s.args, s.size⟩
def Sm.state (s : Sm) : StateD := ⟨⟨#[115]⟩, ⟨[], s.eA, s.ec⟩, false, 0, 0, ⟨[], s.cA, s.cc⟩, -1⟩
def Sm.prog (s : Sm) : ProgD := ⟨⟨#[112]⟩, ⟨[], s.hA, s.hc⟩, ⟨metaL, some ⟨s.mg, s.mo, none⟩, s.mc⟩, ⟨[], s.rA, s.rc⟩, ⟨[s.act], some ⟨s.ag, s.ao, none⟩, s.ac⟩,
  ⟨[s.tab], some ⟨s.tg, s.tof, none⟩, s.tc⟩, ⟨[s.state], some ⟨s.sg, s.so, none⟩, s.sc⟩, ⟨[], s.xA, s.xc⟩, ⟨[], s.yA, s.yc⟩⟩
/-- its widths pass -/
structure SmOk (s : Sm) : Prop where
  pw : ∀ n, s.pw = some n → 1 ≤ n ∧ n ≤ 32
  kd : s.kd = 1 ∨ s.kd = 3
  nk : s.nk ≤ 6
  lo : 1 ≤ s.size
  hi : s.size ≤ 256
theorem Sm.plen (s : Sm) : s.params.l.length = s.np := by unfold Sm.params Sm.np; cases s.pw <;> rfl
theorem Sm.klen (s : Sm) : s.keys.l.length = s.nk := by simp [Sm.keys]
theorem Sm.alen (s : Sm) : s.args.l.length = s.np := by simp [Sm.args]
/-- what a walk knows of such a program's memory, in every later world -/
structure SmAt (w : World) (s : Sm) : Prop where
  ok : ProgOk w s.prog
theorem SmAt.below {w w' : World} {s : Sm} (h : SmAt w s) (hb : Below w.heap.size w w') : SmAt w' s := ⟨h.ok.below hb⟩
theorem SmAt.act {w : World} {s : Sm} (h : SmAt w s) : w.cell? ⟨s.ag, s.ao, none⟩ = some (.string ⟨#[120]⟩) ∧ w.cell? ⟨s.ag, s.ao + 1, none⟩ = some (.slice s.pA s.np s.pc) ∧ w.cell? ⟨s.ag, s.ao + 2, none⟩ = some (.slice s.bA 0 s.bc) := by
  obtain ⟨g, o, e, c0, c1, c2⟩ := ActD.at h.ok.actions (show 0 < 1 by omega)
  simp only [Sm.prog, Option.some.injEq, Addr.mk.injEq, and_true] at e
  obtain ⟨rfl, rfl⟩ := e
  refine ⟨by simpa [Sm.prog, Sm.act] using c0, ?_, by simpa [Sm.prog, Sm.act, L.v] using c2⟩
  have := s.plen
  simp [Sm.prog, Sm.act, L.v, this] at c1
  exact c1
theorem SmAt.par {w : World} {s : Sm} (h : SmAt w s) {n : Int} (hn : s.pw = some n) : ∃ g o, s.pA = some ⟨g, o, none⟩ ∧ w.cell? ⟨g, o, none⟩ = some (.string vName) ∧ w.cell? ⟨g, o + 1, none⟩ = some (.int .i64 n) := by
  have ha := (h.ok.act s.act (by simp [Sm.prog])).params
  have hp : s.params.l = [⟨vName, n⟩] := by simp [Sm.params, hn]
  obtain ⟨g, o, e, c0, c1⟩ := FieldD.at (x := s.params) ha (show 0 < s.params.l.length by rw [hp]; exact Nat.one_pos)
  simp only [hp, List.getElem_cons_zero, Nat.zero_mul, Nat.add_zero] at c0 c1
  exact ⟨g, o, e, c0, c1⟩

theorem indexFunc_empty (A : Option Addr) (c : Nat) (f : Value) (w : World) :
    Calls Tryz.prog 210 #[.slice A 0 c, f] w fun e w' => e = .returned (.int .i64 (-1)) ∧ w = w' := by
  go_enter Tryz.func210, Tryz.ntmps210
  go_wp2
  refine wp_loop_rounds 1 ?_
  rw [rounds_succ]
  go_wp2
  go_ret
  exact ⟨rfl, rfl⟩
theorem containsFunc_empty (A : Option Addr) (c : Nat) (f : Value) (w : World) :
    Calls Tryz.prog 195 #[.slice A 0 c, f] w fun e w' => e = .returned (.bool false) ∧ w = w' := by
  go_enter Tryz.func195, Tryz.ntmps195
  go_wp2_with fail
  refine (indexFunc_empty _ _ _ _).mono ?_
  rintro e w' ⟨rfl, rfl⟩
  go_wp2
  go_ret
  exact ⟨rfl, rfl⟩

set_option maxRecDepth 100000 in
set_option maxHeartbeats 1000000 in
theorem declaration_ok (s : Sm) (w : World) (h : SmAt w s) (o : SmOk s) :
    Calls Tryz.prog 167 #[.agg #[.string ⟨#[120]⟩, .slice s.pA s.np s.pc, .slice s.bA 0 s.bc]] w fun e w' => e = .returned (.int .i64 0) ∧ Below w.heap.size w w' := by
  have hmf : ∀ (fn : Fn) (first cap : Array Value) (w : World), (Instr.makeFunc fn first cap).run Tryz.prog w = .ok (.func fn first cap) w := fun _ _ _ _ => rfl
  rcases hp : s.pw with _ | n
  · have e0 : s.np = 0 := by rw [Sm.np, hp]
    rw [e0]
    clear hp e0
    go_enter Tryz.func167, Tryz.ntmps167
    go_wp2_with fail
    refine (isIdent_any ⟨#[120]⟩ _ (by decide)).mono ?_
    rintro e w' ⟨rfl, rfl⟩
    rw [show identM (⟨#[120]⟩ : ByteArray).data.toList = true by decide +kernel]
    go_wp2
    refine wp_loop_rounds 1 ?_
    rw [rounds_succ]
    go_wp2
    go_ret
    exact ⟨rfl, below1 _ _⟩
  · have e0 : s.np = 1 := by rw [Sm.np, hp]
    rw [e0]
    obtain ⟨g, of, hA, c0, c1⟩ := h.par hp
    rw [hA]
    have hn := o.pw n hp
    have hn1 := hn.1
    have hn2 := hn.2
    have hca := @World.cell?_alloc_some
    clear hp e0 hA o h hn
    go_enter Tryz.func167, Tryz.ntmps167
    go_wp2_with fail
    refine (isIdent_any ⟨#[120]⟩ _ (by decide)).mono ?_
    rintro e w' ⟨rfl, rfl⟩
    rw [show identM (⟨#[120]⟩ : ByteArray).data.toList = true by decide +kernel]
    go_wp2
    refine wp_loop_rounds 2 ?_
    rw [rounds_succ]
    go_wp2_with fail
    refine (isIdent_any vName _ (by decide)).mono ?_
    rintro e w' ⟨rfl, rfl⟩
    rw [show identM vName.data.toList = true by decide +kernel]
    go_wp2_with fail
    refine (containsFunc_empty _ _ _ _).mono ?_
    rintro e w' ⟨rfl, rfl⟩
    go_wp2
    rw [rounds_succ]
    go_wp2
    go_ret
    exact ⟨rfl, below2 _ _ _⟩

theorem neg_one : (-1 : Int) < 0 := by decide
/-- the value of such a program -/
theorem Sm.val (s : Sm) : s.prog.val = .agg #[.string ⟨#[112]⟩, .slice s.hA 0 s.hc, .slice (some ⟨s.mg, s.mo, none⟩) 3 s.mc, .slice s.rA 0 s.rc, .slice (some ⟨s.ag, s.ao, none⟩) 1 s.ac,
    .slice (some ⟨s.tg, s.tof, none⟩) 1 s.tc, .slice (some ⟨s.sg, s.so, none⟩) 1 s.sc, .slice s.xA 0 s.xc, .slice s.yA 0 s.yc] := rfl
/-- a parameter's own copy of such a program, in every later world -/
theorem sm_box (w : World) (s : Sm) (t : TypeId) : ∃ W, W = w.alloc (.cells #[.string ⟨#[112]⟩, .slice s.hA 0 s.hc, .slice (some ⟨s.mg, s.mo, none⟩) 3 s.mc, .slice s.rA 0 s.rc, .slice (some ⟨s.ag, s.ao, none⟩) 1 s.ac,
      .slice (some ⟨s.tg, s.tof, none⟩) 1 s.tc, .slice (some ⟨s.sg, s.so, none⟩) 1 s.sc, .slice s.xA 0 s.xc, .slice s.yA 0 s.yc] t) ∧
    Below w.heap.size w W ∧ ∀ w', Below W.heap.size W w' →
      (w'.cell? ⟨w.heap.size, 0, none⟩ = some (.string ⟨#[112]⟩) ∧ w'.cell? ⟨w.heap.size, 1, none⟩ = some (.slice s.hA 0 s.hc) ∧
       w'.cell? ⟨w.heap.size, 2, none⟩ = some (.slice (some ⟨s.mg, s.mo, none⟩) 3 s.mc) ∧ w'.cell? ⟨w.heap.size, 3, none⟩ = some (.slice s.rA 0 s.rc) ∧
       w'.cell? ⟨w.heap.size, 4, none⟩ = some (.slice (some ⟨s.ag, s.ao, none⟩) 1 s.ac) ∧ w'.cell? ⟨w.heap.size, 5, none⟩ = some (.slice (some ⟨s.tg, s.tof, none⟩) 1 s.tc) ∧
       w'.cell? ⟨w.heap.size, 6, none⟩ = some (.slice (some ⟨s.sg, s.so, none⟩) 1 s.sc) ∧ w'.cell? ⟨w.heap.size, 7, none⟩ = some (.slice s.xA 0 s.xc) ∧
       w'.cell? ⟨w.heap.size, 8, none⟩ = some (.slice s.yA 0 s.yc)) := by
  refine ⟨_, rfl, below1 _ _, fun w' hb => ⟨?_, ?_, ?_, ?_, ?_, ?_, ?_, ?_, ?_⟩⟩ <;> exact below_cell hb (by simp)

theorem sm_box2 (w : World) (s : Sm) (t : TypeId) (cs : Array Value) (t2 : TypeId) : ∃ W, W = (w.alloc (.cells #[.string ⟨#[112]⟩, .slice s.hA 0 s.hc, .slice (some ⟨s.mg, s.mo, none⟩) 3 s.mc, .slice s.rA 0 s.rc, .slice (some ⟨s.ag, s.ao, none⟩) 1 s.ac,
      .slice (some ⟨s.tg, s.tof, none⟩) 1 s.tc, .slice (some ⟨s.sg, s.so, none⟩) 1 s.sc, .slice s.xA 0 s.xc, .slice s.yA 0 s.yc] t)).alloc (.cells cs t2) ∧
    Below w.heap.size w W ∧ (∀ w', Below W.heap.size W w' →
      (w'.cell? ⟨w.heap.size, 0, none⟩ = some (.string ⟨#[112]⟩) ∧ w'.cell? ⟨w.heap.size, 1, none⟩ = some (.slice s.hA 0 s.hc) ∧
       w'.cell? ⟨w.heap.size, 2, none⟩ = some (.slice (some ⟨s.mg, s.mo, none⟩) 3 s.mc) ∧ w'.cell? ⟨w.heap.size, 3, none⟩ = some (.slice s.rA 0 s.rc) ∧
       w'.cell? ⟨w.heap.size, 4, none⟩ = some (.slice (some ⟨s.ag, s.ao, none⟩) 1 s.ac) ∧ w'.cell? ⟨w.heap.size, 5, none⟩ = some (.slice (some ⟨s.tg, s.tof, none⟩) 1 s.tc) ∧
       w'.cell? ⟨w.heap.size, 6, none⟩ = some (.slice (some ⟨s.sg, s.so, none⟩) 1 s.sc) ∧ w'.cell? ⟨w.heap.size, 7, none⟩ = some (.slice s.xA 0 s.xc) ∧
       w'.cell? ⟨w.heap.size, 8, none⟩ = some (.slice s.yA 0 s.yc))) ∧
    ∀ w' j, Below W.heap.size W w' → j < cs.size → w'.cell? ⟨w.heap.size + 1, j, none⟩ = cs[j]? := by
  refine ⟨_, rfl, below2 _ _ _, fun w' hb => ⟨?_, ?_, ?_, ?_, ?_, ?_, ?_, ?_, ?_⟩, fun w' j hb hj => ?_⟩
  case refine_10 =>
    rw [Array.getElem?_eq_getElem hj]
    exact below_cell hb (by simp [hj])
  all_goals exact below_cell hb (by simp)

set_option maxRecDepth 100000 in
set_option maxHeartbeats 1000000 in
theorem actionCheck_ok (s : Sm) (w : World) (h : SmAt w s) (o : SmOk s) :
    Calls Tryz.prog 122 #[s.prog.val, .int .i64 0] w fun e w' => e = .returned (.tuple #[.int .i64 0, .int .i64 0]) ∧ Below w.heap.size w w' := by
  have HA := Lib.hid h
  have HO := Lib.hid o
  have hca := @World.cell?_alloc_some
  obtain ⟨c0, c1, c2⟩ := h.act
  clear h o
  obtain ⟨W, hW, hb, hp, hq⟩ := sm_box2 w s 31 #[.string ⟨#[120]⟩, .slice s.pA s.np s.pc, .slice s.bA 0 s.bc] 68
  have HB := Lib.hid hb
  clear hb
  rw [Sm.val]
  go_enter Tryz.func122, Tryz.ntmps122
  go_wp2_with fail
  rw [← hW]
  clear hW
  refine (declaration_ok s _ (HA.out.below HB.out) HO.out).mono ?_
  rintro e w1 ⟨rfl, hb1⟩
  have HB1 := Lib.hid (below_step HB.out hb1)
  go_wp2
  refine wp_loop_rounds 1 ?_
  rw [rounds_succ]
  go_wp2
  go_ret2
  exact ⟨rfl, below_alloc HB1.out _⟩
end Go.Proofs.YtgfbikknkcaneaaGreat
namespace Go.Proofs.YtgfbikknkcaneaaGreat
open Go.RowKit Go.Maps

theorem SmAt.tabs {w : World} {s : Sm} (h : SmAt w s) : w.cell? ⟨s.tg, s.tof, none⟩ = some (.string ⟨#[116]⟩) ∧ w.cell? ⟨s.tg, s.tof + 1, none⟩ = some (.slice s.kA s.nk s.kc) ∧
    w.cell? ⟨s.tg, s.tof + 2, none⟩ = some (.slice (some ⟨s.ig, s.io, none⟩) 1 s.ic) ∧ w.cell? ⟨s.tg, s.tof + 3, none⟩ = some (.int .i64 0) ∧ w.cell? ⟨s.tg, s.tof + 4, none⟩ = some (.slice s.dA s.np s.dc) ∧
    w.cell? ⟨s.tg, s.tof + 5, none⟩ = some (.int .i64 s.size) := by
  obtain ⟨g, o, e, c0, c1, c2, c3, c4, c5⟩ := TabD.at h.ok.tables (show 0 < 1 by omega)
  simp only [Sm.prog, Option.some.injEq, Addr.mk.injEq, and_true] at e
  obtain ⟨rfl, rfl⟩ := e
  have h1 := s.klen
  have h2 := s.alen
  simp [Sm.prog, Sm.tab, L.v, h1, h2] at c0 c1 c2 c3 c4 c5
  exact ⟨c0, c1, c2, c3, c4, c5⟩
theorem SmAt.tabok {w : World} {s : Sm} (h : SmAt w s) : TabOk w s.tab := h.ok.tab s.tab (by simp [Sm.prog])
theorem SmAt.acts {w : World} {s : Sm} (h : SmAt w s) : w.cell? ⟨s.ig, s.io, none⟩ = some (.int .i64 0) := by
  obtain ⟨g, o, e, c0⟩ := icell_at (x := s.tab.acts) h.tabok.acts (i := 0) (show 0 < 1 by omega)
  simp only [Sm.tab, Option.some.injEq, Addr.mk.injEq, and_true] at e
  obtain ⟨rfl, rfl⟩ := e
  exact c0
theorem SmAt.arg {w : World} {s : Sm} (h : SmAt w s) (hn : s.np = 1) : ∃ g o, s.dA = some ⟨g, o, none⟩ ∧ w.cell? ⟨g, o, none⟩ = some (.int .u32 0) := by
  obtain ⟨g, o, e, c0⟩ := ucell_at (x := s.tab.args) h.tabok.args (i := 0) (show 0 < s.args.l.length by rw [Sm.alen, hn]; exact Nat.one_pos)
  refine ⟨g, o, e, ?_⟩
  simpa [Sm.tab, Sm.args, hn] using c0
theorem SmAt.key {w : World} {s : Sm} (h : SmAt w s) {i : Nat} (hi : i < s.nk) : ∃ g o, s.kA = some ⟨g, o, none⟩ ∧ w.cell? ⟨g, o + i * 3, none⟩ = some (.int .i64 (-1)) ∧ w.cell? ⟨g, o + i * 3 + 1, none⟩ = some (.int .i64 0) ∧ w.cell? ⟨g, o + i * 3 + 2, none⟩ = some (.int .i64 s.kd) := by
  obtain ⟨g, o, e, c0, c1, c2⟩ := KeyD.at (x := s.tab.keys) h.tabok.keys (i := i) (show i < s.keys.l.length by rw [Sm.klen]; exact hi)
  refine ⟨g, o, e, ?_, ?_, ?_⟩
  · simpa [Sm.tab, Sm.keys] using c0
  · simpa [Sm.tab, Sm.keys] using c1
  · simpa [Sm.tab, Sm.keys] using c2

set_option maxRecDepth 100000 in
set_option maxHeartbeats 1000000 in
theorem checkCall_ok (s : Sm) (w : World) (h : SmAt w s) (o : SmOk s) :
    Calls Tryz.prog 200 #[s.prog.val, .agg #[.int .i64 0, .slice s.dA s.np s.dc]] w fun e w' => e = .returned (.int .i64 0) ∧ Below w.heap.size w w' := by
  have hca := @World.cell?_alloc_some
  obtain ⟨c0, c1, c2⟩ := h.act
  rw [Sm.val]
  rcases hp : s.pw with _ | n
  · have e0 : s.np = 0 := by rw [Sm.np, hp]
    rw [e0] at c1 ⊢
    clear hp e0 h o
    go_enter Tryz.func200, Tryz.ntmps200
    go_wp2
    refine wp_loop_rounds 1 ?_
    rw [rounds_succ]
    go_wp2
    go_ret
    exact ⟨rfl, below2 _ _ _⟩
  · have e0 : s.np = 1 := by rw [Sm.np, hp]
    rw [e0] at c1 ⊢
    obtain ⟨g, of, hA, p0, p1⟩ := h.par hp
    obtain ⟨g2, of2, hA2, q0⟩ := h.arg e0
    rw [hA] at c1
    rw [hA2]
    have hn := o.pw n hp
    have HF := Lib.hid (show fitsM 0 n = true by
      have : okW n = true := by simp [okW]; omega
      rw [fitsM, this]; simp)
    clear hp e0 hA hA2 o h hn
    go_enter Tryz.func200, Tryz.ntmps200
    go_wp2
    refine wp_loop_rounds 2 ?_
    rw [rounds_succ]
    go_wp2_with fail
    refine (fits_any 0 n _).mono ?_
    rintro e w1 ⟨rfl, hb1⟩
    rw [HF.out]
    have HB1 := Lib.hid (below_step (below2 _ _ _) hb1)
    go_wp2
    rw [rounds_succ]
    go_wp2
    go_ret
    exact ⟨rfl, HB1.out⟩

theorem lookup_bool {P : Program} {w : World} {t k e : TypeId} {b n : Nat} {D : DataW Unit} (h : w.ownsMap P k (plainElem P e) b n D) (K : Keyed P k) (ht : P.underlying t = some (.map k e)) (he : P.underlying e = some .bool)
    (hz : (zeroValue e).run P w = .ok (.bool false) w) {key : Value} {kl : Lit} (hkey : keyOf P k key = some kl) (x : Bool) (hat : D.atKey kl (.lit (.bool false)) = .lit (.bool x)) :
    (Instr.lookup t (.map (some b)) key false).run P w = .ok (.bool x) w := by
  obtain ⟨v, ps, hrun, hv⟩ := h.lookup K ht hz (plainElem_bool he false) hkey
  rw [hat] at hv
  rw [hrun]
  cases v <;> simp_all [plainElem]
theorem keyInt : Keyed Tryz.prog 3 := int_keyed Tryz.underlying3
theorem zeroBool (w : World) : (zeroValue 4).run Tryz.prog w = .ok (.bool false) w := by kernel_rfl
/-- the set of the one action of the small program -/
def oneAct : DataW Unit := (DataW.map []).put (.int .i64 0) (.lit (.bool true))

theorem sm_box3 (w : World) (s : Sm) : ∃ W, W = (w.alloc (.cells #[.string ⟨#[112]⟩, .slice s.hA 0 s.hc, .slice (some ⟨s.mg, s.mo, none⟩) 3 s.mc, .slice s.rA 0 s.rc, .slice (some ⟨s.ag, s.ao, none⟩) 1 s.ac,
      .slice (some ⟨s.tg, s.tof, none⟩) 1 s.tc, .slice (some ⟨s.sg, s.so, none⟩) 1 s.sc, .slice s.xA 0 s.xc, .slice s.yA 0 s.yc] 31)).alloc (.cells #[.string ⟨#[116]⟩, .slice s.kA s.nk s.kc, .slice (some ⟨s.ig, s.io, none⟩) 1 s.ic, .int .i64 0, .slice s.dA s.np s.dc, .int .i64 s.size] 52) ∧
    Below w.heap.size w W ∧ (∀ w', Below W.heap.size W w' →
      (w'.cell? ⟨w.heap.size, 0, none⟩ = some (.string ⟨#[112]⟩) ∧ w'.cell? ⟨w.heap.size, 1, none⟩ = some (.slice s.hA 0 s.hc) ∧
       w'.cell? ⟨w.heap.size, 2, none⟩ = some (.slice (some ⟨s.mg, s.mo, none⟩) 3 s.mc) ∧ w'.cell? ⟨w.heap.size, 3, none⟩ = some (.slice s.rA 0 s.rc) ∧
       w'.cell? ⟨w.heap.size, 4, none⟩ = some (.slice (some ⟨s.ag, s.ao, none⟩) 1 s.ac) ∧ w'.cell? ⟨w.heap.size, 5, none⟩ = some (.slice (some ⟨s.tg, s.tof, none⟩) 1 s.tc) ∧
       w'.cell? ⟨w.heap.size, 6, none⟩ = some (.slice (some ⟨s.sg, s.so, none⟩) 1 s.sc) ∧ w'.cell? ⟨w.heap.size, 7, none⟩ = some (.slice s.xA 0 s.xc) ∧
       w'.cell? ⟨w.heap.size, 8, none⟩ = some (.slice s.yA 0 s.yc)) ∧
      w'.cell? ⟨w.heap.size + 1, 0, none⟩ = some (.string ⟨#[116]⟩) ∧ w'.cell? ⟨w.heap.size + 1, 1, none⟩ = some (.slice s.kA s.nk s.kc) ∧ w'.cell? ⟨w.heap.size + 1, 2, none⟩ = some (.slice (some ⟨s.ig, s.io, none⟩) 1 s.ic) ∧
      w'.cell? ⟨w.heap.size + 1, 3, none⟩ = some (.int .i64 0) ∧ w'.cell? ⟨w.heap.size + 1, 4, none⟩ = some (.slice s.dA s.np s.dc) ∧ w'.cell? ⟨w.heap.size + 1, 5, none⟩ = some (.int .i64 s.size)) ∧ W.heap.size = w.heap.size + 2 := by
  refine ⟨_, rfl, below2 _ _ _, fun w' hb => ⟨⟨?_, ?_, ?_, ?_, ?_, ?_, ?_, ?_, ?_⟩, ?_, ?_, ?_, ?_, ?_, ?_⟩, by simp⟩ <;> exact below_cell hb (by simp)

set_option maxRecDepth 100000 in
set_option maxHeartbeats 2000000 in
theorem checkActions_ok (s : Sm) (w : World) (h : SmAt w s) (o : SmOk s) :
    Calls Tryz.prog 170 #[s.prog.val, .agg #[.string ⟨#[116]⟩, .slice s.kA s.nk s.kc, .slice (some ⟨s.ig, s.io, none⟩) 1 s.ic, .int .i64 0, .slice s.dA s.np s.dc, .int .i64 s.size]] w
      fun e w' => e = .returned (.int .i64 0) ∧ Below w.heap.size w w' := by
  have hmm := @run_makeMap Tryz.prog
  have HA := Lib.hid h
  have HO := Lib.hid o
  obtain ⟨W, hW, hb, hp, hsz⟩ := sm_box3 w s
  have HB := Lib.hid hb
  have hi : ∀ w', Below W.heap.size W w' → w'.cell? ⟨s.ig, s.io, none⟩ = some (.int .i64 0) := fun w' h => below_cell (below_step HB.out h) HA.out.acts
  obtain ⟨W1, hW1⟩ : ∃ W1, W1 = W.alloc (.map #[] 0) := ⟨_, rfl⟩
  have b1 : Below W.heap.size W W1 := by rw [hW1]; exact below1 _ _
  have hown : W1.ownsMap Tryz.prog 3 (plainElem (H := Unit) Tryz.prog 4) (w.heap.size + 2) 0 (.map []) := by rw [hW1, ← hsz]; exact World.ownsMap_made _ _ _ _
  have HOW := Lib.hid hown
  have hl0 := lookup_bool (t := 219) hown keyInt Tryz.underlying219 Tryz.underlying4 (zeroBool _) (keyOf_int_mk Tryz.underlying3 (a := 0) (by decide)) false (by rfl)
  have HSZ := Lib.hid hsz
  clear h o hb hown hsz
  rw [Sm.val]
  go_enter Tryz.func170, Tryz.ntmps170
  go_wp2
  rw [← hW, ← hW1]
  clear hW hW1
  refine wp_loop_rounds 2 ?_
  rw [rounds_succ]
  go_wp2_with (first
    | (at_mapUpdate; refine wpList_mapUpdate_own _ rfl _ _ _ 219 rfl 3 4 keyInt Tryz.underlying219 (plainElem (H := Unit) Tryz.prog 4) (w.heap.size + 2) 0 (.map []) rfl HOW.out ?m1 _ _ (.int .i64 0) rfl rfl ?m2 (.lit (.bool true)) [] ?m3 ?_))
  case m1 => unfold maxLen; omega
  case m2 => exact keyOf_int_mk Tryz.underlying3 (by decide)
  case m3 => exact plainElem_bool Tryz.underlying4 true
  intro w2 hown2 hgrow2
  have b2 : Below W.heap.size W w2 := b1.grown hgrow2 b1.size fun j hj => by have := HSZ.out; simp at hj; omega
  have hl1 := lookup_bool (t := 219) hown2 keyInt Tryz.underlying219 Tryz.underlying4 (zeroBool _) (keyOf_int_mk Tryz.underlying3 (a := 0) (by decide)) true (by rfl)
  clear hown2 hgrow2 hl0
  go_wp2
  rw [rounds_succ]
  go_wp2_with fail
  refine (checkCall_ok s _ (HA.out.below (below_step HB.out b2)) HO.out).mono ?_
  rintro e w3 ⟨rfl, hb3⟩
  go_wp2
  go_ret
  exact ⟨rfl, below_step (below_step HB.out b2) hb3⟩
end Go.Proofs.YtgfbikknkcaneaaGreat
namespace Go.Proofs.YtgfbikknkcaneaaGreat
open Go.RowKit

theorem width_in (s : Sm) : widthAt s.prog (-1) 0 = 8 := by
  have h1 : fieldsM s.prog (-1) = ⟨metaL, some ⟨s.mg, s.mo, none⟩, s.mc⟩ := by rw [fieldsM, if_pos rfl]; rfl
  unfold widthAt
  rw [h1]
  have h2 : fieldAt (⟨metaL, some ⟨s.mg, s.mo, none⟩, s.mc⟩ : L FieldD) 0 = ⟨⟨#[105, 110]⟩, 8⟩ := by rw [fieldAt, if_neg (by decide)]; rfl
  rw [h2]
  rfl

set_option maxRecDepth 100000 in
set_option maxHeartbeats 4000000 in
theorem checkKeys_ok (s : Sm) (w : World) (h : SmAt w s) (o : SmOk s) :
    Calls Tryz.prog 169 #[s.prog.val, .agg #[.string ⟨#[116]⟩, .slice s.kA s.nk s.kc, .slice (some ⟨s.ig, s.io, none⟩) 1 s.ic, .int .i64 0, .slice s.dA s.np s.dc, .int .i64 s.size]] w
      fun e w' => e = .returned (.tuple #[.int .i64 0, .int .i64 0]) ∧ Below w.heap.size w w' := by
  have HA := Lib.hid h
  have HO := Lib.hid o
  have HW := Lib.hid (width_in s)
  have hnk := o.nk
  have hca := @World.cell?_alloc_some
  obtain ⟨W, hW, hb, hp, hsz⟩ := sm_box3 w s
  clear hsz
  have HB := Lib.hid hb
  have H0 := Lib.hid (Below.refl W.heap.size W)
  have hkd := o.kd
  have HV := Lib.hid (Sm.val s)
  clear h o hb
  rw [Sm.val]
  generalize hk : s.kA = kA at hW hp ⊢
  have HK := Lib.hid hk
  clear hk
  rcases hkd with hkd | hkd
  all_goals
    go_enter Tryz.func169, Tryz.ntmps169
    go_wp2
    rw [← hW]
    clear hW
    go_loopw [6, 7, 14] (fun lv bv iv wr => ∃ k : Nat, k ≤ s.nk ∧ iv = .int .i64 k ∧ lv = .int .i64 0 ∧ bv = .int .i64 ((8 * k : Nat) : Int) ∧ Below W.heap.size W wr) (fun _ _ i _ => s.nk - (intOf i).toNat)
    case atStart => exact ⟨0, Nat.zero_le _, rfl, rfl, rfl, H0.out⟩
    case round =>
      obtain ⟨k, hk, rfl, rfl, rfl, hbel⟩ := hrel
      by_cases hlt : k < s.nk
      · obtain ⟨g, of, hA, d0, d1, d2⟩ := (HA.out.below (below_step HB.out hbel)).key hlt
        have hA' : kA = some ⟨g, of, none⟩ := HK.out.symm.trans hA
        subst hA'
        rw [hkd] at d2
        clear hA
        have hp1 := hp wr hbel
        go_wp2_with fail
        have hw := width_any s.prog (-1) 0 (wr.alloc (.cells #[.int .i64 (-1), .int .i64 0, .int .i64 s.kd] 133)) (HA.out.ok.below (below_step HB.out (below_alloc hbel _)))
        rw [HV.out, HW.out, hkd] at hw
        refine hw.mono ?_
        clear hw hp1 d0 d1 d2
        rintro e w2 ⟨rfl, hb2⟩
        have hbel2 := below_step (below_alloc hbel _) hb2
        have hk2 : w2.cell? ⟨wr.heap.size, 2, none⟩ = some (.int .i64 s.kd) := below_cell hb2 (by rw [hkd]; simp)
        rw [hkd] at hk2
        clear hb2
        go_wp2
        go_roundw
        case rel => exact ⟨k + 1, by omega, by go_num, rfl, by go_num, hbel2⟩
        case measure => simp [intOf]; omega
      · have hke : k ≤ 6 := by omega
        have HB2 := Lib.hid hbel
        go_wp2
        go_ret2
        exact ⟨rfl, below_step HB.out HB2.out⟩

set_option maxRecDepth 100000 in
set_option maxHeartbeats 4000000 in
theorem tableCheck_ok (s : Sm) (w : World) (h : SmAt w s) (o : SmOk s) :
    Calls Tryz.prog 125 #[s.prog.val, .int .i64 0] w fun e w' => e = .returned (.tuple #[.int .i64 0, .int .i64 0]) ∧ Below w.heap.size w w' := by
  have HA := Lib.hid h
  have HO := Lib.hid o
  have hca := @World.cell?_alloc_some
  have hnk := o.nk
  have hlo := o.lo
  have hhi := o.hi
  obtain ⟨c0, c1, c2, c3, c4, c5⟩ := h.tabs
  obtain ⟨W, hW, hb, hp, hsz⟩ := sm_box3 w s
  clear hsz
  have HB := Lib.hid hb
  have H0 := Below.refl W.heap.size W
  have HV := Lib.hid (Sm.val s)
  clear h o hb
  rw [Sm.val]
  go_enter Tryz.func125, Tryz.ntmps125
  go_wp2_with fail
  rw [← hW]
  clear hW c0 c1 c2 c3 c4 c5 hca
  refine (isIdent_any ⟨#[116]⟩ _ (by decide)).mono ?_
  rintro e w' ⟨rfl, rfl⟩
  rw [show identM (⟨#[116]⟩ : ByteArray).data.toList = true by decide +kernel]
  go_wp2_with fail
  have hk := checkKeys_ok s W (HA.out.below HB.out) HO.out
  rw [HV.out] at hk
  refine hk.mono ?_
  clear hk
  rintro e w1 ⟨rfl, hb1⟩
  go_wp2_with fail
  have hk := checkActions_ok s w1 (HA.out.below (below_step HB.out hb1)) HO.out
  rw [HV.out] at hk
  refine hk.mono ?_
  clear hk
  rintro e w2 ⟨rfl, hb2⟩
  have HB2 := Lib.hid (below_step (below_step HB.out hb1) hb2)
  go_wp2
  go_ret2
  exact ⟨rfl, HB2.out⟩

set_option maxRecDepth 100000 in
theorem valid_ok (s : Sm) (w : World) (h : SmAt w s) (o : SmOk s) :
    Calls Tryz.prog 96 #[s.prog.val, .int .i64 0] w fun e w' => e = .returned (.bool true) ∧ Below w.heap.size w w' := by
  have HA := Lib.hid h
  have HO := Lib.hid o
  obtain ⟨W, hW, hb, hp⟩ := sm_box w s 31
  have HB := Lib.hid hb
  have HV := Lib.hid (Sm.val s)
  clear h o hb
  rw [Sm.val]
  go_enter Tryz.func96, Tryz.ntmps96
  go_wp2_with fail
  rw [← hW]
  clear hW
  have hk := tableCheck_ok s W (HA.out.below HB.out) HO.out
  rw [HV.out] at hk
  refine hk.mono ?_
  clear hk
  rintro e w1 ⟨rfl, hb1⟩
  go_wp2
  go_ret
  exact ⟨rfl, below_step HB.out hb1⟩

def kindM (s : Sm) : Int := if s.kd = 3 ∧ 0 < s.nk then 3 else 1
set_option maxRecDepth 100000 in
set_option maxHeartbeats 4000000 in
theorem kind_ok (s : Sm) (w : World) (h : SmAt w s) (o : SmOk s) :
    Calls Tryz.prog 37 #[s.prog.val, .int .i64 0] w fun e w' => e = .returned (.int .i64 (kindM s)) ∧ Below w.heap.size w w' := by
  have HA := Lib.hid h
  have HO := Lib.hid o
  have hnk := o.nk
  obtain ⟨W, hW, hb, hp⟩ := sm_box w s 31
  have HB := Lib.hid hb
  have HV := Lib.hid (Sm.val s)
  have hkd := o.kd
  clear h o hb
  rw [Sm.val]
  go_enter Tryz.func37, Tryz.ntmps37
  go_wp2_with fail
  rw [← hW]
  clear hW
  have hk := valid_ok s W (HA.out.below HB.out) HO.out
  rw [HV.out] at hk
  refine hk.mono ?_
  clear hk
  rintro e w1 ⟨rfl, hb1⟩
  have B1 := below_step HB.out hb1
  obtain ⟨c0, c1, c2, c3, c4, c5⟩ := (HA.out.below B1).tabs
  have HB1 := Lib.hid B1
  clear B1 c0 c2 c3 c4 c5
  generalize hk : s.kA = kA at *
  have HK := Lib.hid hk
  clear hk
  go_wp2
  rcases hkd with hkd | hkd
  · have HM := Lib.hid (show kindM s = 1 by rw [kindM, if_neg]; omega)
    go_loopw [5, 19] (fun bv iv wr => ∃ k : Nat, k ≤ s.nk ∧ iv = .int .i64 k ∧ bv = .int .i64 1 ∧ Below w.heap.size w wr) (fun _ i _ => s.nk - (intOf i).toNat)
    case atStart => exact ⟨0, Nat.zero_le _, rfl, rfl, HB1.out⟩
    case round =>
      obtain ⟨k, hk, rfl, rfl, hbel⟩ := hrel
      by_cases hlt : k < s.nk
      · obtain ⟨g, of, hA, d0, d1, d2⟩ := (HA.out.below hbel).key hlt
        have hA' : kA = some ⟨g, of, none⟩ := HK.out.symm.trans hA
        subst hA'
        rw [hkd] at d2
        clear hA
        go_wp2
        go_roundw
        case rel => exact ⟨k + 1, by omega, by go_num, rfl, below_alloc hbel _⟩
        case measure => simp [intOf]; omega
      · go_wp2
        go_ret
        exact ⟨by rw [HM.out]; rfl, hbel⟩
  · rcases Nat.eq_zero_or_pos s.nk with h0 | h0
    · have HM := Lib.hid (show kindM s = 1 by rw [kindM, if_neg]; omega)
      refine wp_loop_rounds 1 ?_
      rw [rounds_succ]
      go_wp2
      go_ret
      exact ⟨by rw [HM.out]; rfl, HB1.out⟩
    · have HM := Lib.hid (show kindM s = 3 by rw [kindM, if_pos ⟨hkd, h0⟩])
      obtain ⟨g, of, hA, d0, d1, d2⟩ := (HA.out.below HB1.out).key h0
      have hA' : kA = some ⟨g, of, none⟩ := HK.out.symm.trans hA
      subst hA'
      rw [hkd] at d2
      simp only [Nat.zero_mul, Nat.add_zero] at d0 d1 d2
      clear hA
      refine wp_loop_rounds 1 ?_
      rw [rounds_succ]
      go_wp2
      go_ret
      exact ⟨by rw [HM.out]; rfl, below_alloc HB1.out _⟩
end Go.Proofs.YtgfbikknkcaneaaGreat
namespace Go.Proofs.YtgfbikknkcaneaaGreat
open Go.RowKit

theorem Tryz.infoInt : (Tryz.prog.info? 3).map (fun i => (i.zero, i.size, i.bytes)) = some (some (.int .i64 0), 1, 8) := by kernel_rfl
theorem one_intw (w : World) (n : Int) (t : TypeId) : ∀ j v, [Value.int .i64 n][j]? = some v → (w.alloc (.cells #[.int .i64 n] t)).cell? ((⟨w.heap.size, 0, none⟩ : Addr).add j) = some v := by
  intro j v hj
  match j, hj with
  | 0, hj => simp at hj; subst hj; simp [Addr.add]
theorem own_weaken {w : World} {b b' : Nat} {e : TypeId} {size : Nat} {v : Value} {n : Nat} {xs : List Value} (hb : b' ≤ b) (h : w.ownsRow b e size v n xs) : w.ownsRow b' e size v n xs := by
  refine ⟨h.1, ?_⟩
  rcases h.2 with hn | ⟨g, cap, cur, hv, hg, rest⟩
  · exact .inl hn
  · exact .inr ⟨g, cap, cur, hv, Nat.le_trans hb hg, rest⟩

set_option maxRecDepth 100000 in
set_option maxHeartbeats 4000000 in
theorem widths_ok (s : Sm) (w : World) (h : SmAt w s) (o : SmOk s) :
    Calls Tryz.prog 95 #[s.prog.val, .int .i64 0] w fun e w' =>
      ∃ A c, e = .returned (.slice A s.nk c) ∧ w'.ownsRow w.heap.size 3 1 (.slice A s.nk c) s.nk (List.replicate s.nk (.int .i64 8)) ∧ Below w.heap.size w w' := by
  have HA := Lib.hid h
  have HO := Lib.hid o
  have HW := Lib.hid (width_in s)
  have hnk := o.nk
  obtain ⟨W, hW, hb, hp⟩ := sm_box w s 31
  have HB := Lib.hid hb
  have HV := Lib.hid (Sm.val s)
  clear h o hb
  obtain ⟨i0, hi, hz0, hz1, hz2⟩ := info_parts Tryz.infoInt
  rw [Sm.val]
  go_enter Tryz.func95, Tryz.ntmps95
  go_wp2_with fail
  rw [← hW]
  clear hW
  have hk := valid_ok s W (HA.out.below HB.out) HO.out
  rw [HV.out] at hk
  refine hk.mono ?_
  clear hk
  rintro e w1 ⟨rfl, hb1⟩
  have B1 := below_step HB.out hb1
  obtain ⟨c0, c1, c2, c3, c4, c5⟩ := (HA.out.below B1).tabs
  have HB1 := Lib.hid B1
  have Hb1 := Lib.hid hb1
  clear B1 c0 c2 c3 c4 c5
  generalize hk : s.kA = kA at *
  have HK := Lib.hid hk
  clear hk
  go_wp2
  clear c1
  go_loopw [5, 7, 19] (fun ov _ iv wr => ∃ (k : Nat) (A : Option Addr) (c : Nat), k ≤ s.nk ∧ iv = .int .i64 k ∧ ov = .slice A k c ∧ wr.ownsRow W.heap.size 3 1 (.slice A k c) k (List.replicate k (.int .i64 8)) ∧ Below W.heap.size W wr)
    (fun _ _ i _ => s.nk - (intOf i).toNat)
  case atStart => exact ⟨0, none, 0, Nat.zero_le _, rfl, rfl, World.ownsRow_nil _ _ _ _, Hb1.out⟩
  case round =>
    obtain ⟨k, A, c, hk, rfl, rfl, hown, hbel⟩ := hrel
    by_cases hlt : k < s.nk
    · obtain ⟨g, of, hA, d0, d1, d2⟩ := (HA.out.below (below_step HB.out hbel)).key hlt
      have hA' : kA = some ⟨g, of, none⟩ := HK.out.symm.trans hA
      subst hA'
      clear hA
      have hp1 := hp wr hbel
      have hca := @World.cell?_alloc_some
      have HO1 := Lib.hid hown
      have HBE := Lib.hid hbel
      clear hown hbel hb1
      go_wp2_with fail
      have hw := width_any s.prog (-1) 0 (wr.alloc (.cells #[.int .i64 (-1), .int .i64 0, .int .i64 s.kd] 133)) (HA.out.ok.below (below_step HB.out (below_alloc HBE.out _)))
      rw [HV.out, HW.out] at hw
      refine hw.mono ?_
      clear hw d0 d1 d2 hp1 hca
      rintro e w2 ⟨rfl, hb2⟩
      have hbel2 := below_step (below_alloc HBE.out _) hb2
      have hown2 := own_below HO1.out (below_step (below1 wr _) hb2)
      have hw2 := hbel2.size
      clear hb2
      go_wp2_with (first
        | (at_builtin; refine wpList_append_own _ rfl _ _ 29 rfl W.heap.size 3 i0 _ 1 8 Tryz.underlying29 hi hz0 hz1 hz2 rfl (by decide) _ _ _ rfl (hown2.alloc _) ⟨w2.heap.size, 0, none⟩ 1 1 [.int .i64 8] rfl rfl ?c1 ?c2 ?c3 ?c4 ?c5 ?_))
      case c1 => exact one_intw _ _ _
      case c2 => intro u hu; simp at hu; subst hu; rfl
      case c3 => unfold maxLen; omega
      case c4 => omega
      case c5 => simp; omega
      intro v' w3 hown3 hgrow _
      have hbw : Below W.heap.size W w3 := (below_alloc hbel2 _).grown hgrow (below_alloc hbel2 _).size fun j hj => (hown2.lt j hj).1
      obtain ⟨A', c', rfl⟩ : ∃ A' c', v' = .slice A' (k + 1) c' := by
        rcases hown3.2 with ⟨hv, h0⟩ | ⟨g', cap, cur, hv, _, _, _⟩
        · omega
        · exact ⟨_, _, hv⟩
      go_wp2
      go_roundw
      case rel =>
        refine ⟨k + 1, A', c', by omega, by go_num, rfl, ?_, hbw⟩
        rw [List.replicate_succ']
        exact hown3
      case measure => simp [intOf]; omega
    · have hk' : k = s.nk := by omega
      subst hk'
      have HO1 := Lib.hid hown
      have HBE := Lib.hid hbel
      clear hown hbel
      go_wp2
      go_ret
      exact ⟨A, c, rfl, own_weaken HB.out.size HO1.out, below_step HB.out HBE.out⟩

set_option maxRecDepth 100000 in
set_option maxHeartbeats 2000000 in
theorem bits_ok (s : Sm) (w : World) (h : SmAt w s) (o : SmOk s) :
    Calls Tryz.prog 35 #[s.prog.val, .int .i64 0] w fun e w' => e = .returned (.int .i64 ((8 * s.nk : Nat) : Int)) ∧ Below w.heap.size w w' := by
  have HA := Lib.hid h
  have HO := Lib.hid o
  have hnk := o.nk
  obtain ⟨W, hW, hb, hp⟩ := sm_box w s 31
  have HB := Lib.hid hb
  have HV := Lib.hid (Sm.val s)
  clear h o hb
  rw [Sm.val]
  go_enter Tryz.func35, Tryz.ntmps35
  go_wp2_with fail
  rw [← hW]
  clear hW
  have hk := widths_ok s W (HA.out.below HB.out) HO.out
  rw [HV.out] at hk
  refine hk.mono ?_
  clear hk
  rintro e w1 ⟨A, c, rfl, hown, hb1⟩
  have HW1 := Lib.hid hown
  have HB1 := Lib.hid (below_step HB.out hb1)
  clear hown hb1 hp
  go_wp2
  go_loopw [5, 12] (fun bv iv wr => ∃ k : Nat, k ≤ s.nk ∧ iv = .int .i64 k ∧ bv = .int .i64 ((8 * k : Nat) : Int) ∧ wr = w1) (fun _ i _ => s.nk - (intOf i).toNat)
  case atStart => exact ⟨0, Nat.zero_le _, rfl, rfl, rfl⟩
  case round =>
    obtain ⟨k, hk, rfl, rfl, rfl⟩ := hrel
    by_cases hlt : k < s.nk
    · obtain ⟨g, cap, hv, _, _⟩ := HW1.out.form (by omega : 0 < s.nk)
      have hA : A = some ⟨g, 0, none⟩ := by injection hv
      subst hA
      have hc := HW1.out.cellAt k (by omega)
      rw [List.getElem?_replicate, if_pos hlt] at hc
      clear hv
      go_wp2
      go_roundw
      case rel => exact ⟨k + 1, by omega, by go_num, by go_num⟩
      case measure => simp [intOf]; omega
    · have hke : k = s.nk := by omega
      subst hke
      go_wp2
      go_ret
      exact ⟨rfl, HB1.out⟩
end Go.Proofs.YtgfbikknkcaneaaGreat
namespace Go.Proofs.YtgfbikknkcaneaaGreat
open Go.RowKit Go.Maps

theorem SmAt.states {w : World} {s : Sm} (h : SmAt w s) : w.cell? ⟨s.sg, s.so, none⟩ = some (.string ⟨#[115]⟩) ∧ w.cell? ⟨s.sg, s.so + 1, none⟩ = some (.slice s.eA 0 s.ec) ∧
    w.cell? ⟨s.sg, s.so + 2, none⟩ = some (.bool false) ∧ w.cell? ⟨s.sg, s.so + 3, none⟩ = some (.int .i64 0) ∧ w.cell? ⟨s.sg, s.so + 4, none⟩ = some (.int .i64 0) ∧
    w.cell? ⟨s.sg, s.so + 5, none⟩ = some (.slice s.cA 0 s.cc) ∧ w.cell? ⟨s.sg, s.so + 6, none⟩ = some (.int .i64 (-1)) := by
  obtain ⟨g, o, e, c0, c1, c2, c3, c4, c5, c6⟩ := StateD.at h.ok.states (show 0 < 1 by omega)
  simp only [Sm.prog, Option.some.injEq, Addr.mk.injEq, and_true] at e
  obtain ⟨rfl, rfl⟩ := e
  simp [Sm.prog, Sm.state, L.v] at c0 c1 c2 c3 c4 c5 c6
  exact ⟨c0, c1, c2, c3, c4, c5, c6⟩

set_option maxRecDepth 100000 in
theorem leads_ok (s : Sm) (w : World) :
    Calls Tryz.prog 202 #[s.prog.val, .int .i64 0, .int .i64 (-1)] w fun e w' => e = .returned (.bool true) ∧ Below w.heap.size w w' := by
  rw [Sm.val]
  go_enter Tryz.func202, Tryz.ntmps202
  go_wp2
  go_ret
  exact ⟨rfl, below1 _ _⟩

set_option maxRecDepth 100000 in
set_option maxHeartbeats 2000000 in
theorem checkState_ok (s : Sm) (w : World) (h : SmAt w s) :
    Calls Tryz.prog 171 #[s.prog.val, .int .i64 0] w fun e w' => e = .returned (.tuple #[.int .i64 0, .int .i64 0]) ∧ Below w.heap.size w w' := by
  have hca := @World.cell?_alloc_some
  obtain ⟨c0, c1, c2, c3, c4, c5, c6⟩ := h.states
  have HV := Lib.hid (Sm.val s)
  rw [Sm.val]
  go_enter Tryz.func171, Tryz.ntmps171
  go_wp2
  refine wp_loop_rounds 1 ?_
  rw [rounds_succ]
  go_wp2
  refine wp_loop_rounds 1 ?_
  rw [rounds_succ]
  go_wp2_with fail
  rw [← HV.out]
  refine (leads_ok s _).mono ?_
  rintro e w1 ⟨rfl, hb1⟩
  have HB1 := Lib.hid (below_step (below2 _ _ _) hb1)
  go_wp2
  go_ret2
  exact ⟨rfl, HB1.out⟩

theorem keyString : Keyed Tryz.prog 9 := string_keyed Tryz.underlying9
def sKey : Lit := .string [115]
def oneState : DataW Unit := (DataW.map []).put sKey (.lit (.bool true))

set_option maxRecDepth 100000 in
set_option maxHeartbeats 4000000 in
theorem parserCheck_ok (s : Sm) (w : World) (h : SmAt w s) :
    Calls Tryz.prog 126 #[s.prog.val] w fun e w' => e = .returned (.tuple #[.int .i64 0, .int .i64 0, .int .i64 0]) ∧ Below w.heap.size w w' := by
  have hmm := @run_makeMap Tryz.prog
  have HA := Lib.hid h
  obtain ⟨W, hW, hb, hp⟩ := sm_box w s 31
  have hsz : W.heap.size = w.heap.size + 1 := by rw [hW]; simp
  have HB := Lib.hid hb
  obtain ⟨c0, c1, c2, c3, c4, c5, c6⟩ := h.states
  obtain ⟨W1, hW1⟩ : ∃ W1, W1 = (W.alloc (.map #[] 0)).alloc (.cells #[.string ⟨#[115]⟩, .slice s.eA 0 s.ec, .bool false, .int .i64 0, .int .i64 0, .slice s.cA 0 s.cc, .int .i64 (-1)] 73) := ⟨_, rfl⟩
  have b1 : Below W.heap.size W W1 := by rw [hW1]; exact below2 _ _ _
  have hown : W1.ownsMap Tryz.prog 9 (plainElem (H := Unit) Tryz.prog 4) (w.heap.size + 1) 0 (.map []) := by rw [hW1, ← hsz]; exact (World.ownsMap_made _ _ _ _).alloc _
  have HOW := Lib.hid hown
  have hs : ∀ w', Below W1.heap.size W1 w' → w'.cell? ⟨w.heap.size + 2, 0, none⟩ = some (.string ⟨#[115]⟩) := fun w' hb => below_cell hb (by rw [hW1, show w.heap.size + 2 = (W.alloc (.map #[] 0)).heap.size by rw [World.size_alloc, hsz]]; simp)
  have hk : keyOf Tryz.prog 9 (.string ⟨#[115]⟩) = some sKey := Go.WideMaps.keyOf_string_mk Tryz.underlying9 (by decide)
  have hl0 := lookup_bool (t := 199) hown keyString Tryz.underlying199 Tryz.underlying4 (zeroBool _) hk false (by rfl)
  have HSZ := Lib.hid hsz
  have HV := Lib.hid (Sm.val s)
  have hca := @World.cell?_alloc_some
  have HK := Lib.hid hk
  have B1 := Below.refl W1.heap.size W1
  clear h hb hown hsz hk
  rw [Sm.val]
  go_enter Tryz.func126, Tryz.ntmps126
  go_wp2
  refine wp_loop_rounds 2 ?_
  rw [rounds_succ]
  go_wp2_with fail
  rw [← hW, ← hW1]
  clear hW hW1 hca c0 c1 c2 c3 c4 c5 c6
  refine (isIdent_any ⟨#[115]⟩ _ (by decide)).mono ?_
  rintro e w' ⟨rfl, rfl⟩
  rw [show identM (⟨#[115]⟩ : ByteArray).data.toList = true by decide +kernel]
  go_wp2_with (first
    | (at_mapUpdate; refine wpList_mapUpdate_own _ rfl _ _ _ 199 rfl 9 4 keyString Tryz.underlying199 (plainElem (H := Unit) Tryz.prog 4) (w.heap.size + 1) 0 (.map []) rfl HOW.out ?m1 _ _ sKey rfl rfl ?m2 (.lit (.bool true)) [] ?m3 ?_))
  case m1 => unfold maxLen; omega
  case m2 => exact HK.out
  case m3 => exact plainElem_bool Tryz.underlying4 true
  intro w2 hown2 hgrow2
  have b2 : Below W.heap.size W w2 := b1.grown hgrow2 b1.size fun j hj => by have := HSZ.out; simp at hj; omega
  clear hown2 hgrow2 hl0
  go_wp2_with fail
  rw [← HV.out]
  refine (checkState_ok s w2 (HA.out.below (below_step HB.out b2))).mono ?_
  rintro e w3 ⟨rfl, hb3⟩
  have HB3 := Lib.hid (below_step (below_step HB.out b2) hb3)
  go_wp2
  rw [rounds_succ]
  go_wp2
  go_ret3
  exact ⟨rfl, HB3.out⟩

theorem below_frozen {w w1 : World} {a : Addr} (h : Below w.heap.size w w1) (hc : w.frozen? a = false) (hl : a.block < w.heap.size) : w1.frozen? a = false := by
  have := h.block a.block hl
  simp only [World.frozen?] at *
  rw [this]; exact hc
theorem preorder_empty (A : Option Addr) (c : Nat) (f : Value) (w : World) :
    Calls Tryz.prog 174 #[.slice A 0 c, f] w fun e w' => e = .returned (.bool true) ∧ w = w' := by
  go_enter Tryz.func174, Tryz.ntmps174
  go_wp2
  refine wp_loop_rounds 1 ?_
  rw [rounds_succ]
  go_wp2
  go_ret
  exact ⟨rfl, rfl⟩
theorem count_empty (A : Option Addr) (c : Nat) (w : World) :
    Calls Tryz.prog 172 #[.slice A 0 c] w fun e w' => e = .returned (.int .i64 0) ∧ Below w.heap.size w w' := by
  have hmf : ∀ (fn : Fn) (first cap : Array Value) (w : World), (Instr.makeFunc fn first cap).run Tryz.prog w = .ok (.func fn first cap) w := fun _ _ _ _ => rfl
  go_enter Tryz.func172, Tryz.ntmps172
  go_wp2_with fail
  refine (preorder_empty _ _ _ _).mono ?_
  rintro e w' ⟨rfl, rfl⟩
  go_wp2
  go_ret
  exact ⟨rfl, below1 _ _⟩
theorem nesting_empty (A : Option Addr) (c : Nat) (w : World) :
    Calls Tryz.prog 173 #[.slice A 0 c] w fun e w' => e = .returned (.int .i64 0) ∧ w = w' := by
  go_enter Tryz.func173, Tryz.ntmps173
  go_wp2
  go_ret
  exact ⟨rfl, rfl⟩

set_option maxRecDepth 100000 in
set_option maxHeartbeats 2000000 in
theorem controlCheck_ok (s : Sm) (w : World) :
    Calls Tryz.prog 127 #[s.prog.val] w fun e w' => e = .returned (.tuple #[.int .i64 0, .int .i64 0]) ∧ Below w.heap.size w w' := by
  have hmf : ∀ (fn : Fn) (first cap : Array Value) (w : World), (Instr.makeFunc fn first cap).run Tryz.prog w = .ok (.func fn first cap) w := fun _ _ _ _ => rfl
  obtain ⟨W, hW, hb, hp, hq⟩ := sm_box2 w s 31 #[.int .i64 0] 43
  have HB := Lib.hid hb
  have HF : Hid (W.frozen? ⟨w.heap.size + 1, 0, none⟩ = false ∧ w.heap.size + 1 < W.heap.size) := Lib.hid (by rw [hW]; exact ⟨by simp, by simp⟩)
  clear hb
  rw [Sm.val]
  go_enter Tryz.func127, Tryz.ntmps127
  go_wp2_with fail
  rw [← hW]
  clear hW
  refine (count_empty _ _ _).mono ?_
  rintro e w1 ⟨rfl, hb1⟩
  go_wp2_with fail
  refine (nesting_empty _ _ _).mono ?_
  rintro e w' ⟨rfl, rfl⟩
  have hp1 := hp w1 hb1
  have hq1 := fun j => hq w1 j hb1
  have hz1 : w1.cell? ⟨w.heap.size + 1, 0, none⟩ = some (.int .i64 0) := hq1 0 (by decide)
  have hca := @World.cell?_alloc_some
  have hfz : ∀ o1 o2, ((w1.alloc o1).alloc o2).frozen? ⟨w.heap.size + 1, 0, none⟩ = false := fun o1 o2 => below_frozen (below_step hb1 (below2 _ _ _)) HF.out.1 HF.out.2
  have hz2 : ∀ o1 o2, ((w1.alloc o1).alloc o2).cell? ⟨w.heap.size + 1, 0, none⟩ = some (.int .i64 0) := fun o1 o2 => below_cell (below2 _ _ _) hz1
  have HB1 := Lib.hid (below_step HB.out hb1)
  clear hq1
  go_wp2_with fail
  refine (preorder_empty _ _ _ _).mono ?_
  rintro e w' ⟨rfl, rfl⟩
  go_wp2
  refine bodyPost_ret (v := .tuple #[.int .i64 0, .int .i64 0]) (by simp [results, Tryz.results127, go_sem, hz2]) rfl ⟨rfl, (below_alloc (below_alloc HB1.out _) _).setCell (Nat.le_succ _) _⟩

set_option maxRecDepth 100000 in
theorem deparserCheck_ok (s : Sm) (w : World) :
    Calls Tryz.prog 128 #[s.prog.val] w fun e w' => e = .returned (.tuple #[.int .i64 0, .int .i64 0]) ∧ Below w.heap.size w w' := by
  rw [Sm.val]
  go_enter Tryz.func128, Tryz.ntmps128
  go_wp2
  refine wp_loop_rounds 1 ?_
  rw [rounds_succ]
  go_wp2
  go_ret2
  exact ⟨rfl, below1 _ _⟩

set_option maxRecDepth 100000 in
set_option maxHeartbeats 2000000 in
theorem checkFlow_ok (s : Sm) (w : World) (h : SmAt w s) :
    Calls Tryz.prog 55 #[s.prog.val] w fun e w' => e = .returned (.tuple #[]) ∧ Below w.heap.size w w' := by
  have HA := Lib.hid h
  obtain ⟨W, hW, hb, hp⟩ := sm_box w s 31
  have HB := Lib.hid hb
  have HV := Lib.hid (Sm.val s)
  clear h hb
  rw [Sm.val]
  go_enter Tryz.func55, Tryz.ntmps55
  go_wp2_with fail
  rw [← hW]
  clear hW
  have hk := parserCheck_ok s W (HA.out.below HB.out)
  rw [HV.out] at hk
  refine hk.mono ?_
  clear hk
  rintro e w1 ⟨rfl, hb1⟩
  go_wp2_with fail
  refine (require_ok _ _ _ _).mono ?_
  rintro e w' ⟨rfl, rfl⟩
  go_wp2_with fail
  have hk := controlCheck_ok s w1
  rw [HV.out] at hk
  refine hk.mono ?_
  clear hk
  rintro e w2 ⟨rfl, hb2⟩
  have hb2' := below_step hb1 hb2
  go_wp2_with fail
  refine (require_ok _ _ _ _).mono ?_
  rintro e w' ⟨rfl, rfl⟩
  go_wp2_with fail
  have hk := deparserCheck_ok s w2
  rw [HV.out] at hk
  refine hk.mono ?_
  clear hk
  rintro e w3 ⟨rfl, hb3⟩
  have HB3 := Lib.hid (below_step HB.out (below_step hb2' hb3))
  go_wp2_with fail
  refine (require_ok _ _ _ _).mono ?_
  rintro e w' ⟨rfl, rfl⟩
  go_wp2
  go_end0
  exact ⟨rfl, HB3.out⟩
end Go.Proofs.YtgfbikknkcaneaaGreat
namespace Go.Proofs.YtgfbikknkcaneaaGreat
open Go.RowKit

set_option maxRecDepth 100000 in
set_option maxHeartbeats 4000000 in
theorem checkObjects_ok (s : Sm) (w : World) (h : SmAt w s) (o : SmOk s) :
    Calls Tryz.prog 54 #[s.prog.val] w fun e w' => e = .returned (.tuple #[]) ∧ Below w.heap.size w w' := by
  have HA := Lib.hid h
  have HO := Lib.hid o
  obtain ⟨W, hW, hb, hp⟩ := sm_box w s 31
  have HB := Lib.hid hb
  have HV := Lib.hid (Sm.val s)
  clear h hb o
  rw [Sm.val]
  go_enter Tryz.func54, Tryz.ntmps54
  go_wp2_with fail
  rw [← hW]
  clear hW
  have hn := names_register s.prog.registers W (HA.out.below HB.out).ok.registers (Nat.zero_le _)
  refine hn.mono ?_
  clear hn
  rintro e w1 ⟨A, c, rfl, _, hb1⟩
  rw [show s.prog.registers.l.length = 0 from rfl]
  go_wp2
  refine wp_loop_rounds 1 ?_
  rw [rounds_succ]
  go_wp2_with fail
  have hn := names_action s.prog.actions w1 (HA.out.below (below_step HB.out hb1)).ok.actions (show (1 : Nat) ≤ 100 by omega)
  refine hn.mono ?_
  clear hn
  rintro e w2 ⟨A2, c2, rfl, hown, hb2⟩
  rw [show s.prog.actions.l.length = 1 from rfl]
  obtain ⟨g, rfl, hg⟩ := OwnStrs.form hown (show 0 < 1 by omega)
  have HG := Lib.hid hg
  have B2 := below_step hb1 hb2
  clear hown hg
  go_wp2
  refine wp_loop_rounds 2 ?_
  rw [rounds_succ]
  go_wp2_with fail
  have hk := actionCheck_ok s w2 (HA.out.below (below_step HB.out B2)) HO.out
  rw [HV.out] at hk
  refine hk.mono ?_
  clear hk
  rintro e w3 ⟨rfl, hb3⟩
  go_wp2_with fail
  refine (require_ok _ _ _ _).mono ?_
  rintro e w' ⟨rfl, rfl⟩
  go_wp2_with fail
  refine (repeated_at _ 1 g c2 0 w2 w3 rfl (by omega) (by omega) HG.out hb3 rfl).mono ?_
  rintro e w4 ⟨rfl, hb4⟩
  go_wp2_with fail
  refine (when_false _ _ _ rfl).mono ?_
  rintro e w' ⟨rfl, rfl⟩
  go_wp2_with fail
  refine (require_ok _ _ _ _).mono ?_
  rintro e w' ⟨rfl, rfl⟩
  have B4 := below_step (below_step B2 hb3) hb4
  clear hb1 hb2 B2 hb3 hb4 HG
  go_wp2
  rw [rounds_succ]
  go_wp2_with fail
  have hn := names_table s.prog.tables w4 (HA.out.below (below_step HB.out B4)).ok.tables (show (1 : Nat) ≤ 100 by omega)
  refine hn.mono ?_
  clear hn
  rintro e w5 ⟨A5, c5, rfl, hown, hb5⟩
  rw [show s.prog.tables.l.length = 1 from rfl]
  obtain ⟨g5, rfl, hg⟩ := OwnStrs.form hown (show 0 < 1 by omega)
  have HG := Lib.hid hg
  have B5 := below_step B4 hb5
  clear hown hg B4 hb5
  go_wp2
  refine wp_loop_rounds 2 ?_
  rw [rounds_succ]
  go_wp2_with fail
  have hk := tableCheck_ok s w5 (HA.out.below (below_step HB.out B5)) HO.out
  rw [HV.out] at hk
  refine hk.mono ?_
  clear hk
  rintro e w6 ⟨rfl, hb6⟩
  go_wp2_with fail
  refine (require_ok _ _ _ _).mono ?_
  rintro e w' ⟨rfl, rfl⟩
  go_wp2_with fail
  refine (repeated_at _ 1 g5 c5 0 w5 w6 rfl (by omega) (by omega) HG.out hb6 rfl).mono ?_
  rintro e w7 ⟨rfl, hb7⟩
  go_wp2_with fail
  refine (when_false _ _ _ rfl).mono ?_
  rintro e w' ⟨rfl, rfl⟩
  go_wp2_with fail
  refine (require_ok _ _ _ _).mono ?_
  rintro e w' ⟨rfl, rfl⟩
  have B7 := Lib.hid (below_step HB.out (below_step (below_step B5 hb6) hb7))
  clear B5 hb6 hb7 HG
  go_wp2
  rw [rounds_succ]
  go_wp2
  go_end0
  exact ⟨rfl, B7.out⟩

/-- the deferred function of program.Check where nothing panics -/
theorem catch_idle (v : Value) (w : World) :
    CallsD Tryz.prog 50 #[v] .returning w fun e u' w' => e = .returned (.tuple #[]) ∧ u' = .returning ∧ w' = w := by
  refine callsD_of_wpS Tryz.func50 rfl fun c₀ cs hu => ?_
  apply wpS_seq
  apply wpS_region
  simp [wpOpsS, go_sem, recoverD, hu, Tryz.ntmps50, Exit.thenS]
  apply wpS_seq
  apply wpS_seq
  apply wpS_region
  simp [wpOpsS, go_sem, Exit.thenS]
  refine wpS_cond (t := true) (by simp [Act.eval]) ?_
  simp only [if_true]
  refine wpS_of_wp (wp_ret ?_)
  cases c₀
  simp_all [Exit.thenS, bodyPostS, results, Tryz.results50]

def zeroDiag : Value := .agg #[.int .i64 0, .int .i64 0, .int .i64 0, .int .i64 0]
theorem sm_limits (s : Sm) : LimitsOk s.prog := ⟨show ident ⟨#[112]⟩ = true by decide +kernel, Nat.zero_le _, Nat.zero_le _, show (1 : Nat) ≤ 16 by omega, show (1 : Nat) ≤ 12 by omega⟩
set_option maxRecDepth 100000 in
set_option maxHeartbeats 4000000 in
theorem check_ok (s : Sm) (w : World) (h : SmAt w s) (o : SmOk s) :
    Calls Tryz.prog 19 #[s.prog.val] w fun e w' => e = .returned (.agg #[.int .i64 0, .int .i64 0, .int .i64 0, .int .i64 0]) ∧ Below w.heap.size w w' := by
  have hmf : ∀ (fn : Fn) (first cap : Array Value) (w : World), (Instr.makeFunc fn first cap).run Tryz.prog w = .ok (.func fn first cap) w := fun _ _ _ _ => rfl
  have HA := Lib.hid h
  have HO := Lib.hid o
  obtain ⟨W, hW, hb, hp, hq⟩ := sm_box2 w s 31 #[.int .i64 0, .int .i64 0, .int .i64 0, .int .i64 0] 45
  have HB := Lib.hid hb
  have HV := Lib.hid (Sm.val s)
  have HF : Hid ((W.frozen? ⟨w.heap.size + 1, 0, none⟩ = false ∧ W.frozen? ⟨w.heap.size + 1, 1, none⟩ = false ∧ W.frozen? ⟨w.heap.size + 1, 2, none⟩ = false ∧ W.frozen? ⟨w.heap.size + 1, 3, none⟩ = false) ∧ w.heap.size + 1 < W.heap.size) := Lib.hid (by rw [hW]; exact ⟨⟨by simp, by simp, by simp, by simp⟩, by simp⟩)
  clear h hb o
  rw [Sm.val]
  go_enter_defers Tryz.func19, Tryz.ntmps19
  go_wp2_with fail
  rw [← hW]
  clear hW
  have hk := checkLimits_ok s.prog W (show (⟨#[112]⟩ : ByteArray).size ≤ maxLen by decide) (sm_limits s)
  rw [HV.out] at hk
  refine hk.mono ?_
  clear hk
  rintro e w1 ⟨rfl, hb1⟩
  go_wp2_with fail
  have hk := checkHeaders_none s.prog w1 (HA.out.below (below_step HB.out hb1)).ok rfl
  rw [HV.out] at hk
  refine hk.mono ?_
  clear hk
  rintro e w2 ⟨rfl, hb2⟩
  have b2 := below_step hb1 hb2
  clear hb1 hb2
  go_wp2_with fail
  have hk := checkMetadata_ok s.prog w2 (HA.out.below (below_step HB.out b2)).ok rfl
  rw [HV.out] at hk
  refine hk.mono ?_
  clear hk
  rintro e w3 ⟨rfl, hb3⟩
  have b3 := below_step b2 hb3
  clear b2 hb3
  go_wp2_with fail
  have hk := checkObjects_ok s w3 (HA.out.below (below_step HB.out b3)) HO.out
  rw [HV.out] at hk
  refine hk.mono ?_
  clear hk
  rintro e w4 ⟨rfl, hb4⟩
  have b4 := below_step b3 hb4
  clear b3 hb4
  go_wp2_with fail
  have hk := checkFlow_ok s w4 (HA.out.below (below_step HB.out b4))
  rw [HV.out] at hk
  refine hk.mono ?_
  clear hk
  rintro e w5 ⟨rfl, hb5⟩
  have b5 := below_step b4 hb5
  clear b4 hb5
  have hz0 : w5.cell? ⟨w.heap.size + 1, 0, none⟩ = some (.int .i64 0) := hq w5 0 b5 (by decide)
  have hz1 : w5.cell? ⟨w.heap.size + 1, 1, none⟩ = some (.int .i64 0) := hq w5 1 b5 (by decide)
  have hz2 : w5.cell? ⟨w.heap.size + 1, 2, none⟩ = some (.int .i64 0) := hq w5 2 b5 (by decide)
  have hz3 : w5.cell? ⟨w.heap.size + 1, 3, none⟩ = some (.int .i64 0) := hq w5 3 b5 (by decide)
  have hf0 := below_frozen b5 HF.out.1.1 HF.out.2
  have hf1 := below_frozen b5 HF.out.1.2.1 HF.out.2
  have hf2 := below_frozen b5 HF.out.1.2.2.1 HF.out.2
  have hf3 := below_frozen b5 HF.out.1.2.2.2 HF.out.2
  have HB5 := Lib.hid (below_step HB.out b5)
  clear b5 hp hq
  go_wp2
  refine leaves_cons (f := 50) (args := #[.pointer (some ⟨w.heap.size + 1, 0, none⟩)]) (by simp) (by simp [go_sem]) ?_
  refine (catch_idle _ _).mono ?_
  rintro e u' w'' ⟨rfl, rfl, rfl⟩
  simp [Leaves, settle, results, Tryz.results19, go_sem, hz0, hz1, hz2, hz3]
  exact (((HB5.out.setCell (Nat.le_succ _) _).setCell (Nat.le_succ _) _).setCell (Nat.le_succ _) _).setCell (Nat.le_succ _) _
end Go.Proofs.YtgfbikknkcaneaaGreat
namespace Go.Proofs.YtgfbikknkcaneaaGreat
open Go.RowKit

theorem blocks_any (n s : Nat) (w : World) (hn : n ≤ 1000000) (h1 : 1 ≤ s) (h2 : s ≤ 10000) :
    Calls Tryz.prog 38 #[.int .i64 n, .int .i64 s] w fun e w' => e = .returned (.int .i64 (((n + s - 1) / s : Nat) : Int)) ∧ w = w' := by
  have hq : Int.tdiv ((n : Int) + (s : Int) - 1) (s : Int) = (((n + s - 1) / s : Nat) : Int) := by
    rw [show (n : Int) + (s : Int) - 1 = ((n + s - 1 : Nat) : Int) by omega, Int.ofNat_tdiv]
  have hle : (n + s - 1) / s ≤ n + s := Nat.le_trans (Nat.div_le_self _ _) (by omega)
  have hz : ¬ (s : Int) = 0 := by omega
  have hz' : ((s : Int) == 0) = false := beq_eq_false_iff_ne.2 hz
  go_enter Tryz.func38, Tryz.ntmps38
  have hw : wrap64 (((n + s - 1 : Nat) : Int) / (s : Int)) = (((n + s - 1) / s : Nat) : Int) := by
    rw [← Int.natCast_ediv]
    clear hq
    generalize (n + s - 1) / s = q at hle ⊢
    unfold Go.RowKit.wrap64; omega
  go_wp2
  go_ret
  exact ⟨congrArg (fun z => Ending.returned (.int .i64 z)) hw, rfl⟩

def argM (s : Sm) : Nat := match s.pw with | none => 0 | some n => n.toNat
theorem argM_le {s : Sm} (o : SmOk s) : argM s ≤ 32 := by
  unfold argM
  rcases hp : s.pw with _ | n
  · exact Nat.zero_le _
  · have := o.pw n hp; simp only; omega

set_option maxRecDepth 100000 in
set_option maxHeartbeats 4000000 in
theorem argumentBits_ok (s : Sm) (w : World) (h : SmAt w s) (o : SmOk s) :
    Calls Tryz.prog 36 #[s.prog.val, .agg #[.string ⟨#[116]⟩, .slice s.kA s.nk s.kc, .slice (some ⟨s.ig, s.io, none⟩) 1 s.ic, .int .i64 0, .slice s.dA s.np s.dc, .int .i64 s.size]] w
      fun e w' => e = .returned (.int .i64 (argM s)) ∧ Below w.heap.size w w' := by
  have hca := @World.cell?_alloc_some
  obtain ⟨c0, c1, c2⟩ := h.act
  have ci := h.acts
  rw [Sm.val]
  rcases hp : s.pw with _ | n
  · have e0 : s.np = 0 := by rw [Sm.np, hp]
    have HM := Lib.hid (show argM s = 0 by rw [argM, hp])
    rw [e0] at c1
    clear hp e0 h o
    go_enter Tryz.func36, Tryz.ntmps36
    go_wp2
    go_step3
    go_wp2
    go_step3
    go_wp2
    refine wp_loop_rounds 2 ?_
    rw [rounds_succ]
    go_wp2
    refine wp_loop_rounds 1 ?_
    rw [rounds_succ]
    go_wp2
    rw [rounds_succ]
    go_wp2
    try rw [Exit.noGoto_ret]
    go_ret
    exact ⟨by rw [HM.out]; rfl, below2 _ _ _⟩
  · have e0 : s.np = 1 := by rw [Sm.np, hp]
    have hn := o.pw n hp
    have HM := Lib.hid (show (argM s : Int) = n by rw [argM, hp]; simp only; omega)
    rw [e0] at c1
    obtain ⟨g, of, hA, p0, p1⟩ := h.par hp
    rw [hA] at c1
    have hn1 := hn.1
    have hn2 := hn.2
    have hmx : max (0 : Int) n = n := by omega
    clear hp e0 h o hA hn
    go_enter Tryz.func36, Tryz.ntmps36
    go_wp2
    go_step3
    go_wp2
    go_step3
    go_wp2
    refine wp_loop_rounds 2 ?_
    rw [rounds_succ]
    go_wp2
    refine wp_loop_rounds 2 ?_
    rw [rounds_succ]
    go_wp2
    rw [rounds_succ]
    go_wp2
    rw [rounds_succ]
    go_wp2
    try rw [Exit.noGoto_ret]
    go_ret
    exact ⟨by rw [HM.out]; rfl, below2 _ _ _⟩

def ceilDiv (n s : Nat) : Nat := (n + s - 1) / s
/-- the blocks that the program's table takes -/
def costM (s : Sm) : Nat × Nat :=
  if s.nk = 0 then (0, 0)
  else if s.kd = 1 then (ceilDiv (s.size.toNat * (8 * s.nk + (8 + argM s))) 4096, 0)
  else (ceilDiv (s.size.toNat * (8 + argM s)) 4096, ceilDiv (s.size.toNat * (8 * s.nk)) 2048)
theorem diag_field (w : World) : (Instr.field 45 (.agg #[.int .i64 0, .int .i64 0, .int .i64 0, .int .i64 0]) 0).run Tryz.prog w = .ok (.int .i64 0) w := by kernel_rfl

set_option maxRecDepth 100000 in
set_option maxHeartbeats 4000000 in
theorem tableCost_ok (s : Sm) (w : World) (h : SmAt w s) (o : SmOk s) (hk0 : 0 < s.nk) :
    Calls Tryz.prog 13 #[s.prog.val, .int .i64 0] w fun e w' => e = .returned (.agg #[.int .i64 ((costM s).1 : Int), .int .i64 ((costM s).2 : Int)]) ∧ Below w.heap.size w w' := by
  have HA := Lib.hid h
  have HO := Lib.hid o
  have hfd := diag_field
  obtain ⟨W, hW, hb, hp, hq⟩ := sm_box2 w s 31 #[.int .i64 0, .int .i64 0] 39
  have HB := Lib.hid hb
  have HV := Lib.hid (Sm.val s)
  have HF : Hid ((W.frozen? ⟨w.heap.size + 1, 0, none⟩ = false ∧ W.frozen? ⟨w.heap.size + 1, 1, none⟩ = false) ∧ w.heap.size + 1 < W.heap.size) := Lib.hid (by rw [hW]; exact ⟨⟨by simp, by simp⟩, by simp⟩)
  clear h hb o
  rw [Sm.val]
  go_enter Tryz.func13, Tryz.ntmps13
  go_wp2_with fail
  rw [← hW]
  clear hW
  have hk := check_ok s W (HA.out.below HB.out) HO.out
  rw [HV.out] at hk
  refine hk.mono ?_
  clear hk
  rintro e w1 ⟨rfl, hb1⟩
  have HB1 := Lib.hid hb1
  have hB : ∀ w', Below w1.heap.size w1 w' → Below W.heap.size W w' := fun w' h => below_step HB1.out h
  have H1 := Lib.hid (Below.refl w1.heap.size w1)
  have h1v := Below.refl w1.heap.size w1
  have ht : ∀ w', Below w1.heap.size w1 w' → w'.cell? ⟨s.tg, s.tof, none⟩ = some (.string ⟨#[116]⟩) ∧ w'.cell? ⟨s.tg, s.tof + 1, none⟩ = some (.slice s.kA s.nk s.kc) ∧
    w'.cell? ⟨s.tg, s.tof + 2, none⟩ = some (.slice (some ⟨s.ig, s.io, none⟩) 1 s.ic) ∧ w'.cell? ⟨s.tg, s.tof + 3, none⟩ = some (.int .i64 0) ∧ w'.cell? ⟨s.tg, s.tof + 4, none⟩ = some (.slice s.dA s.np s.dc) ∧
    w'.cell? ⟨s.tg, s.tof + 5, none⟩ = some (.int .i64 s.size) := fun w' h => (HA.out.below (below_step HB.out (below_step HB1.out h))).tabs
  go_wp2
  go_region_held3 (fun w' => Below w1.heap.size w1 w') (first | exact H1.out | exact below_drew H1.out | exact below_step (by assumption) (by assumption))
    (first | (go_at_call 35; refine (bits_ok s _ (HA.out.below (below_step HB.out (below_step HB1.out (by assumption)))) HO.out).mono ?_; rintro e w2 ⟨rfl, hb2⟩) | (go_at_call 36; refine (argumentBits_ok s _ (HA.out.below (below_step HB.out (below_step HB1.out (by assumption)))) HO.out).mono ?_; rintro e w2 ⟨rfl, hb2⟩))
  have HB2 : Hid (Below w1.heap.size w1 _) := Lib.hid (by assumption)
  have hsz : ∃ z : Nat, s.size = z ∧ 1 ≤ z ∧ z ≤ 256 := ⟨s.size.toNat, by have := HO.out.lo; omega, by have := HO.out.lo; omega, by have := HO.out.hi; omega⟩
  obtain ⟨z, hz, hz1, hz2⟩ := hsz
  have ha := argM_le HO.out
  have hnk := HO.out.nk
  clear ht h1v
  have hB2 := hB _ HB2.out
  go_wp2_with fail
  refine (kind_ok s _ (HA.out.below (below_step HB.out (below_step HB1.out HB2.out))) HO.out).mono ?_
  rintro e w3 ⟨rfl, hb3⟩
  have HB3 := Lib.hid (below_step HB1.out (below_step HB2.out hb3))
  have hf0 := below_frozen HB3.out HF.out.1.1 HF.out.2
  have hf1 := below_frozen HB3.out HF.out.1.2 HF.out.2
  have hc0 : w3.cell? ⟨w.heap.size + 1, 0, none⟩ = some (.int .i64 0) := hq w3 0 HB3.out (by decide)
  have hc1 : w3.cell? ⟨w.heap.size + 1, 1, none⟩ = some (.int .i64 0) := hq w3 1 HB3.out (by decide)
  clear hb3 hq hp hB hB2 hb1
  rw [hz]
  rcases HO.out.kd with hkd | hkd
  · rw [show kindM s = 1 by rw [kindM, if_neg (by omega)]]
    have HC := Lib.hid (show costM s = (ceilDiv (z * (8 * s.nk + (8 + argM s))) 4096, 0) by rw [costM, if_neg (by omega), if_pos hkd, hz]; rfl)
    generalize argM s = a at *
    generalize hm : z * (8 * s.nk + (8 + a)) = m at *
    have hm2 : m ≤ 1000000 := by
      rw [← hm]
      exact Nat.le_trans (Nat.mul_le_mul hz2 (show 8 * s.nk + (8 + a) ≤ 100 by omega)) (by decide)
    have hm3 : (z : Int) * (8 * (s.nk : Int) + (8 + (a : Int))) = (m : Int) := by rw [← hm]; simp
    go_wp2_with fail
    refine (blocks_any m 4096 _ hm2 (by omega) (by omega)).mono ?_
    rintro e w4 ⟨rfl, rfl⟩
    have hcd : (m + 4096 - 1) / 4096 = ceilDiv m 4096 := rfl
    rw [hcd]
    generalize ceilDiv m 4096 = q at *
    clear hcd hm3
    go_wp2
    refine bodyPost_ret (v := .agg #[.int .i64 (q : Int), .int .i64 0]) (by simp [results, Tryz.results13, go_sem, hc0, hc1]) rfl ⟨by rw [HC.out]; rfl, ?_⟩
    exact ((below_step HB.out HB3.out).setCell (Nat.le_succ _) _).setCell (Nat.le_succ _) _
  · rw [show kindM s = 3 by rw [kindM, if_pos ⟨hkd, hk0⟩]]
    have HC := Lib.hid (show costM s = (ceilDiv (z * (8 + argM s)) 4096, ceilDiv (z * (8 * s.nk)) 2048) by rw [costM, if_neg (by omega), if_neg (by omega), hz]; rfl)
    generalize argM s = a at *
    generalize hm : z * (8 + a) = m at *
    generalize hk : z * (8 * s.nk) = k at *
    have hm2 : m ≤ 1000000 := by
      rw [← hm]
      exact Nat.le_trans (Nat.mul_le_mul hz2 (show 8 + a ≤ 100 by omega)) (by decide)
    have hk2 : k ≤ 1000000 := by
      rw [← hk]
      exact Nat.le_trans (Nat.mul_le_mul hz2 (show 8 * s.nk ≤ 100 by omega)) (by decide)
    have hm3 : (z : Int) * (8 + (a : Int)) = (m : Int) := by rw [← hm]; simp
    have hk3 : (z : Int) * (8 * (s.nk : Int)) = (k : Int) := by rw [← hk]; simp
    go_wp2_with fail
    refine (blocks_any m 4096 _ hm2 (by omega) (by omega)).mono ?_
    rintro e w4 ⟨rfl, rfl⟩
    have hcd : (m + 4096 - 1) / 4096 = ceilDiv m 4096 := rfl
    rw [hcd]
    generalize ceilDiv m 4096 = q at *
    clear hcd hm3
    go_wp2_with fail
    refine (blocks_any k 2048 _ hk2 (by omega) (by omega)).mono ?_
    rintro e w4 ⟨rfl, rfl⟩
    have hcd : (k + 2048 - 1) / 2048 = ceilDiv k 2048 := rfl
    rw [hcd]
    generalize ceilDiv k 2048 = r at *
    clear hcd hk3
    go_wp2
    refine bodyPost_ret (v := .agg #[.int .i64 (q : Int), .int .i64 (r : Int)]) (by simp [results, Tryz.results13, go_sem, hc0, hc1]) rfl ⟨by rw [HC.out], ?_⟩
    exact ((below_step HB.out HB3.out).setCell (Nat.le_succ _) _).setCell (Nat.le_succ _) _
end Go.Proofs.YtgfbikknkcaneaaGreat
