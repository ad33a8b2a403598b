/- Walks of the reference's numbers and widths of cells (package patchbayref31). No condition but that the program lies in memory and its lists are short. -/
import Derived.Test.YtbfjknidinkafaaGreatSe
import Derived.Deep.AppendLies
import Derived.Laws.OwnMore
import Derived.Test.YtbfjknidinkafaaGreatSf
import Derived.Test.YtbfjknidinkafaaGreatSd
import Derived.BigQuiet
namespace Go.Proofs.YtbfjknidinkafaaGreat
open Go.RowKit
set_option maxRecDepth 100000
set_option maxHeartbeats 16000000
theorem step_append_L {P : Program} {w : World} {ops : Array Oper} {o : Oper} {a : Act} {K : Act → World → Prop} {Q : Exit → Act → World → Prop} {E : Prop} (hgd : o.guard = none) (s x : Operand) (t : TypeId)
    (ho : o.op = .call { callee := .builtin .append, args := #[s, x], argTypes := #[t, t] })
    (base : Nat) (e : TypeId) (i : TypeInfo) (z : Value) (size bytes : Nat) (ht : P.underlying t = some (.slice e)) (hi : P.info? e = some i) (hz : i.zero = some z)
    (hsize : i.size = size) (hby : i.bytes = bytes) (hzs : z.cells.size = size) (hsz : 0 < size)
    (v : Value) (n : Nat) (xs : List Value) (hs : a.eval s = v) (hown : w.ownsRow base e size v n xs)
    {α : Type} {cells : α → List Value} (y : L α) (hx : a.eval x = y.v) (hy : LOk w size cells y) (hnil : y.A = none → y.c = 0) (hk : ∀ u, (cells u).length = size) (h1 : ∀ u, ∀ c ∈ cells u, c.oneCell' = true)
    (h63 : n + y.l.length ≤ maxLen) (hbytes : (n + y.l.length) * bytes ≤ 140737488355328) (hbase : base ≤ w.heap.size)
    (h : ∀ v' w', w'.ownsRow base e size v' (n + y.l.length) (xs ++ y.l.flatMap cells) → w.grownBy w' v.ownBlock → K (a.put o.dst v') w') :
    if Region.wanted o (yielded ops a.tmps) = true then Oper.wp P o a w K Q else E := by
  have hw : Region.wanted o (yielded ops a.tmps) = true := by simp [Region.wanted, hgd]
  rw [if_pos hw]
  obtain ⟨l, A, c⟩ := y
  cases A with
  | none =>
    have hl : l = [] := by
      rcases hy.2 with h0 | ⟨g, o, e, _⟩
      · exact h0
      · cases e
    subst hl
    obtain rfl : c = 0 := hnil rfl
    have hx' : a.eval x = .slice none 0 0 := hx
    have hrun := run_append_owned_none (P := P) (w := w) base t o.type e i size ht hi v n xs hown
    unfold Oper.wp
    simp [execOp, ho, resolve, invoke, builtin, hs, hx', hrun, Result.andThen]
    exact h v w (by simpa using hown) ⟨rfl, rfl, rfl, Nat.le_refl _, fun _ _ _ => rfl⟩
  | some ad =>
    refine wp_append_own w s x t ho base e i z size bytes ht hi hz hsize hby hzs hsz v n xs hs hown ad l.length c (l.flatMap cells) hx (flat_len cells size hk l) (fun m u hu => ?_) (fun u hu => ?_) h63 hbytes hbase (fun v' w' h2 h3 _ => h v' w' h2 h3)
    · obtain ⟨i', hi', j, hj, rfl, hc⟩ := flat_of cells size hk l m u hu
      obtain ⟨g, o, e', _, hcc⟩ := hy.at (x := ⟨l, some ad, c⟩) hi'
      simp only [Option.some.injEq] at e'
      rw [e', Addr.add_lit, ← Nat.add_assoc, hcc j hj, hc]
    · obtain ⟨r, _, hr⟩ := List.mem_flatMap.1 hu
      exact h1 r u hr
structure KcHyp (w0 : World) (ga B : Nat) (gb gf of k fn fc : Nat) (xl : List Int) (xA : Option Addr) (xc : Nat) (lf : List (L Int)) (Af : Option Addr) (cf : Nat) : Prop where
  a1 : ∀ u, Below w0.heap.size w0 u → u.cell? ⟨ga, 1, none⟩ = some (.slice Af lf.length cf)
  lt : ga < w0.heap.size
  fr : ∀ u, Below w0.heap.size w0 u → u.frozen? ⟨ga, 1, none⟩ = false
  s1 : ∀ u, Below B w0 u → u.cell? ⟨gb, 1, none⟩ = some (.slice (some ⟨gf, of, none⟩) fn fc)
  s2 : ∀ u, Below B w0 u → u.cell? ⟨gf, of + k, none⟩ = some (.slice xA xl.length xc)
  kn : (k : Int) < (fn : Int)
  lx : ∀ u, Below w0.heap.size w0 u → LOkN u 1 ucell ⟨xl, xA, xc⟩
  of : ∀ u, Below w0.heap.size w0 u → OwnL u B 53 lcell ⟨lf, Af, cf⟩
  off : OffB ga (⟨lf, Af, cf⟩ : L (L Int)).v
  mx : xl.length ≤ 1000
  mf : lf.length ≤ 1000
  le : B ≤ w0.heap.size
  gB : B ≤ ga
def kcop0 : Oper := { dst := some 18, op := Op.fieldAddr 56 (Operand.tmp 3) 1, type := 0, pos := "ref.go:120", after := #[], guard := none }
def kcop1 : Oper := { dst := some 19, op := Op.load 52 (Operand.tmp 18), type := 52, pos := "ref.go:120", after := #[{ on := 0, ground := Ground.data }], guard := none }
def kcop2 : Oper := { dst := some 20, op := Op.buildSlice 53 0 #[], type := 53, pos := "ref.go:120", after := #[], guard := none }
def kcop3 : Oper := { dst := some 21, op := Op.fieldAddr 56 (Operand.tmp 1) 1, type := 0, pos := "ref.go:120", after := #[], guard := none }
def kcop4 : Oper := { dst := some 22, op := Op.load 52 (Operand.tmp 21), type := 52, pos := "ref.go:120", after := #[{ on := 3, ground := Ground.data }], guard := none }
def kcop5 : Oper := { dst := some 23, op := Op.move (Operand.tmp 4), type := 3, pos := "ref.go:120", after := #[], guard := none }
def kcop6 : Oper := { dst := some 24, op := Op.indexAddr 52 (Operand.tmp 22) (Operand.tmp 23), type := 0, pos := "ref.go:120", after := #[{ on := 4, ground := Ground.data }, { on := 5, ground := Ground.data }], guard := none }
def kcop7 : Oper := { dst := some 25, op := Op.load 53 (Operand.tmp 24), type := 53, pos := "ref.go:120", after := #[{ on := 6, ground := Ground.data }], guard := none }
def kcop8 : Oper := { dst := some 26, op := Op.call { callee := Callee.builtin Builtin.append, args := #[Operand.tmp 20, Operand.tmp 25], argTypes := #[53, 53] }, type := 53, pos := "ref.go:120", after := #[{ on := 2, ground := Ground.data }, { on := 7, ground := Ground.data }], guard := none }
def kcop9 : Oper := { dst := some 27, op := Op.buildSlice 52 1 #[(0, Operand.tmp 26)], type := 52, pos := "ref.go:120", after := #[{ on := 8, ground := Ground.data }], guard := none }
def kcop10 : Oper := { dst := some 28, op := Op.call { callee := Callee.builtin Builtin.append, args := #[Operand.tmp 19, Operand.tmp 27], argTypes := #[52, 52] }, type := 52, pos := "ref.go:120", after := #[{ on := 1, ground := Ground.data }, { on := 9, ground := Ground.data }, { on := 8, ground := Ground.chain }], guard := none }
def kcop11 : Oper := { dst := some 29, op := Op.fieldAddr 56 (Operand.tmp 3) 1, type := 0, pos := "ref.go:120", after := #[{ on := 0, ground := Ground.phase }, { on := 1, ground := Ground.phase }, { on := 2, ground := Ground.phase }, { on := 3, ground := Ground.phase }, { on := 4, ground := Ground.phase }, { on := 5, ground := Ground.phase }, { on := 6, ground := Ground.phase }, { on := 7, ground := Ground.phase }, { on := 8, ground := Ground.phase }, { on := 9, ground := Ground.phase }, { on := 10, ground := Ground.phase }], guard := none }
def kcop12 : Oper := { dst := none, op := Op.store 52 (Operand.tmp 29) (Operand.tmp 28), type := 0, pos := "ref.go:120", after := #[{ on := 11, ground := Ground.data }, { on := 10, ground := Ground.data }, { on := 10, ground := Ground.chain }, { on := 0, ground := Ground.phase }, { on := 1, ground := Ground.phase }, { on := 2, ground := Ground.phase }, { on := 3, ground := Ground.phase }, { on := 4, ground := Ground.phase }, { on := 5, ground := Ground.phase }, { on := 6, ground := Ground.phase }, { on := 7, ground := Ground.phase }, { on := 8, ground := Ground.phase }, { on := 9, ground := Ground.phase }, { on := 10, ground := Ground.phase }], guard := none }
def kcops : Array Oper := #[kcop0, kcop1, kcop2, kcop3, kcop4, kcop5, kcop6, kcop7, kcop8, kcop9, kcop10, kcop11, kcop12]
def KcFin (w0 : World) (ga B : Nat) (gb gf of k fn fc : Nat) (xl : List Int) (xA : Option Addr) (xc : Nat) (lf : List (L Int)) (Af : Option Addr) (cf : Nat) (v0 v2 v5 v6 v7 v8 v9 v10 v11 v12 v13 v14 v15 v16 v17 v30 v31 v32 v33 v34 v35 v36 v37 v38 v39 v40 v41 v42 : Value) (Q : Exit → Act → World → Prop) : Prop :=
  ∀ (wm wz : World) (q0 : Nat) (q2 : Nat) (A1 : Option Addr) (c1 g cap : Nat), Below w0.heap.size w0 wm → OwnL wm w0.heap.size 83 ucell ⟨xl, A1, c1⟩ → wm.grownBy wz (⟨lf, Af, cf⟩ : L (L Int)).v.ownBlock →
    wz.ownsRow B 53 1 (.slice (some ⟨g, 0, none⟩) (lf.length + 1) cap) (lf.length + 1) (lf.flatMap lcell ++ [.slice A1 xl.length c1]) → ((⟨lf, Af, cf⟩ : L (L Int)).v.ownBlock = some g ∨ g = wm.heap.size) → g < wz.heap.size →
    Q .normal { tmps := #[v0, .pointer (some ⟨gb, 0, none⟩), v2, .pointer (some ⟨ga, 0, none⟩), .int .i64 (k : Nat), v5, v6, v7, v8, v9, v10, v11, v12, v13, v14, v15, v16, v17, .pointer (some ⟨ga, 1, none⟩), .slice Af lf.length cf, .slice (some ⟨q0, 0, none⟩) 0 0, .pointer (some ⟨gb, 1, none⟩), .slice (some ⟨gf, of, none⟩) fn fc, .int .i64 (k : Nat), .pointer (some ⟨gf, of + k, none⟩), .slice xA xl.length xc, .slice A1 xl.length c1, .slice (some ⟨q2, 0, none⟩) 1 1, .slice (some ⟨g, 0, none⟩) (lf.length + 1) cap, .pointer (some ⟨ga, 1, none⟩), v30, v31, v32, v33, v34, v35, v36, v37, v38, v39, v40, v41, v42], defers := [] } (wz.setCell ⟨ga, 1, none⟩ (.slice (some ⟨g, 0, none⟩) (lf.length + 1) cap))
section
variable {w0 : World} {ga B : Nat} {gb gf of k fn fc : Nat} {xl : List Int} {xA : Option Addr} {xc : Nat} {lf : List (L Int)} {Af : Option Addr} {cf : Nat} {v0 v2 v5 v6 v7 v8 v9 v10 v11 v12 v13 v14 v15 v16 v17 v18 v19 v20 v21 v22 v23 v24 v25 v26 v27 v28 v29 v30 v31 v32 v33 v34 v35 v36 v37 v38 v39 v40 v41 v42 : Value} {Q : Exit → Act → World → Prop}
theorem kc_31 (hQ : KcFin w0 ga B gb gf of k fn fc xl xA xc lf Af cf v0 v2 v5 v6 v7 v8 v9 v10 v11 v12 v13 v14 v15 v16 v17 v30 v31 v32 v33 v34 v35 v36 v37 v38 v39 v40 v41 v42 Q) (hP : ∀ c (d : Option Tmp) v a w, Q (.panic c) (a.put d v) w → Q (.panic c) a w) (HC : KcHyp w0 ga B gb gf of k fn fc xl xA xc lf Af cf) (w : World) (q0 : Nat) (A1 : Option Addr) (c1 : Nat) (q2 : Nat) (hB : Below w0.heap.size w0 w) (o1 : OwnL w w0.heap.size 83 ucell ⟨xl, A1, c1⟩) (k2 : w.cell? ⟨q2, 0, none⟩ = some (.slice A1 xl.length c1)) :
    wpAnyH Tryz.prog .any kcops Q (fun u => Below B w0 u) 3 #[true, true, true, true, true, true, true, true, true, true, false, false, false] { tmps := #[v0, .pointer (some ⟨gb, 0, none⟩), v2, .pointer (some ⟨ga, 0, none⟩), .int .i64 (k : Nat), v5, v6, v7, v8, v9, v10, v11, v12, v13, v14, v15, v16, v17, .pointer (some ⟨ga, 1, none⟩), .slice Af lf.length cf, .slice (some ⟨q0, 0, none⟩) 0 0, .pointer (some ⟨gb, 1, none⟩), .slice (some ⟨gf, of, none⟩) fn fc, .int .i64 (k : Nat), .pointer (some ⟨gf, of + k, none⟩), .slice xA xl.length xc, .slice A1 xl.length c1, .slice (some ⟨q2, 0, none⟩) 1 1, v28, v29, v30, v31, v32, v33, v34, v35, v36, v37, v38, v39, v40, v41, v42], defers := [] } w := by
  refine wpAnyH_ready (rs := [10]) (by kernel_rfl) (by simp) ?_
  refine AllReadyH.cons (o := kcop10) rfl (fun K hK => ?_) AllReadyH.nil
  · obtain ⟨i0, hi, hz0, hz1, hz2⟩ := info_parts info_u32s
    have hown : w.ownsRow B 53 1 (.slice Af lf.length cf) lf.length (lf.flatMap lcell) := HC.of w hB
    refine step_append_lies w (o := kcop10) rfl (Operand.tmp 19) (Operand.tmp 27) 52 rfl B 53 i0 _ 1 24 Tryz.underlying52 hi hz0 hz1 hz2 rfl (by decide) _ _ _ rfl hown ⟨q2, 0, none⟩ 1 1 [.slice A1 xl.length c1] rfl rfl ?a1 ?a2 (by decide) ?a3 ?a4 ?a5 w.heap.size rfl ?a6
    case a1 =>
      intro j u hj
      match j, hj with
      | 0, hj => simp only [List.getElem?_cons_zero, Option.some.injEq] at hj; subst hj; exact k2
    case a2 => intro u hu; simp only [List.mem_cons, List.not_mem_nil, or_false] at hu; subst hu; rfl
    case a3 => unfold maxLen; have := HC.mf; omega
    case a4 => have := HC.mf; omega
    case a5 => exact Nat.le_trans HC.le hB.size
    intro g cap wz hrow hgr hat hlt
    have hBz : Below B w0 wz := (hB.mono HC.le).grown hgr (Nat.le_trans HC.le hB.size) (fun j e => ((HC.of w hB).lt j e).1)
    refine hK.out _ _ hBz (fun _ => ?_)
    clear hK K
    try simp only [Act.put, kcop10, sA, sZ, sS]
    refine wpAnyH_take (i := 11) (oi := kcop11) (v := ?t1v) rfl (by kernel_rfl) (by kernel_rfl) (by kernel_rfl) (fun c a w h => hP c _ _ a w h) (Or.inl ⟨by rfl, ?t1y⟩) (by assumption) ?t1r
    case t1y => (intro w hSw; (try dsimp only at hSw); have q1 := HC.s1; have q2 := HC.s2; have q3 := HC.kn; simp only [kcop11]; go_simp; try (with_reducible rfl))
    try simp only [Act.put, kcop11, sA, sZ, sS]
    refine wpAnyH_ready (rs := [12]) (by kernel_rfl) (by simp) ?_
    refine AllReadyH.cons (o := kcop12) rfl (fun K hK => ?_) AllReadyH.nil
    have hne : some ga ≠ (⟨lf, Af, cf⟩ : L (L Int)).v.ownBlock := fun e => HC.off ga e.symm rfl
    have hlw : ga < w.heap.size := Nat.lt_of_lt_of_le HC.lt hB.size
    have a1 : wz.cell? ⟨ga, 1, none⟩ = some (.slice Af lf.length cf) := by rw [World.cell?_of_block (a := ⟨ga, 1, none⟩) (hgr.block ga hlw hne)]; exact HC.a1 w hB
    have af : wz.frozen? ⟨ga, 1, none⟩ = false := by rw [World.frozen?_of_block (a := ⟨ga, 1, none⟩) (hgr.block ga hlw hne)]; exact HC.fr w hB
    simp only [kcop12]
    go_simp
    refine hK.out _ _ (hBz.setCell (by exact HC.gB) _) (fun _ => ?_)
    clear hK K
    try simp only [sA, sZ, sS]
    refine wpAnyH_done (by kernel_rfl) ?_ _
    exact hQ w wz q0 q2 A1 c1 g cap hB o1 hgr hrow hat hlt
theorem kc_30 (hQ : KcFin w0 ga B gb gf of k fn fc xl xA xc lf Af cf v0 v2 v5 v6 v7 v8 v9 v10 v11 v12 v13 v14 v15 v16 v17 v30 v31 v32 v33 v34 v35 v36 v37 v38 v39 v40 v41 v42 Q) (hP : ∀ c (d : Option Tmp) v a w, Q (.panic c) (a.put d v) w → Q (.panic c) a w) (HC : KcHyp w0 ga B gb gf of k fn fc xl xA xc lf Af cf) (w : World) (q0 : Nat) (A1 : Option Addr) (c1 : Nat) (q2 : Nat) (hB : Below w0.heap.size w0 w) (o1 : OwnL w w0.heap.size 83 ucell ⟨xl, A1, c1⟩) (k2 : w.cell? ⟨q2, 0, none⟩ = some (.slice A1 xl.length c1)) :
    wpAnyH Tryz.prog .any kcops Q (fun u => Below B w0 u) 4 #[true, false, true, true, true, true, true, true, true, true, false, false, false] { tmps := #[v0, .pointer (some ⟨gb, 0, none⟩), v2, .pointer (some ⟨ga, 0, none⟩), .int .i64 (k : Nat), v5, v6, v7, v8, v9, v10, v11, v12, v13, v14, v15, v16, v17, .pointer (some ⟨ga, 1, none⟩), v19, .slice (some ⟨q0, 0, none⟩) 0 0, .pointer (some ⟨gb, 1, none⟩), .slice (some ⟨gf, of, none⟩) fn fc, .int .i64 (k : Nat), .pointer (some ⟨gf, of + k, none⟩), .slice xA xl.length xc, .slice A1 xl.length c1, .slice (some ⟨q2, 0, none⟩) 1 1, v28, v29, v30, v31, v32, v33, v34, v35, v36, v37, v38, v39, v40, v41, v42], defers := [] } w := by
  refine wpAnyH_ready (rs := [1]) (by kernel_rfl) (by simp) ?_
  refine AllReadyH.cons (o := kcop1) rfl (fun K hK => ?_) AllReadyH.nil
  · simp only [kcop1]
    have a1 := HC.a1 w hB
    go_simp
    refine hK.out _ _ (hB.mono HC.le) (fun _ => ?_)
    clear hK K
    try simp only [sA, sZ, sS]
    exact kc_31 hQ hP HC w q0 A1 c1 q2 hB o1 k2
theorem kc_21 (hQ : KcFin w0 ga B gb gf of k fn fc xl xA xc lf Af cf v0 v2 v5 v6 v7 v8 v9 v10 v11 v12 v13 v14 v15 v16 v17 v30 v31 v32 v33 v34 v35 v36 v37 v38 v39 v40 v41 v42 Q) (hP : ∀ c (d : Option Tmp) v a w, Q (.panic c) (a.put d v) w → Q (.panic c) a w) (HC : KcHyp w0 ga B gb gf of k fn fc xl xA xc lf Af cf) (w : World) (q0 : Nat) (A1 : Option Addr) (c1 : Nat) (hB : Below w0.heap.size w0 w) (o1 : OwnL w w0.heap.size 83 ucell ⟨xl, A1, c1⟩) :
    wpAnyH Tryz.prog .any kcops Q (fun u => Below B w0 u) 4 #[true, true, true, true, true, true, true, true, true, false, false, false, false] { tmps := #[v0, .pointer (some ⟨gb, 0, none⟩), v2, .pointer (some ⟨ga, 0, none⟩), .int .i64 (k : Nat), v5, v6, v7, v8, v9, v10, v11, v12, v13, v14, v15, v16, v17, .pointer (some ⟨ga, 1, none⟩), .slice Af lf.length cf, .slice (some ⟨q0, 0, none⟩) 0 0, .pointer (some ⟨gb, 1, none⟩), .slice (some ⟨gf, of, none⟩) fn fc, .int .i64 (k : Nat), .pointer (some ⟨gf, of + k, none⟩), .slice xA xl.length xc, .slice A1 xl.length c1, v27, v28, v29, v30, v31, v32, v33, v34, v35, v36, v37, v38, v39, v40, v41, v42], defers := [] } w := by
  refine wpAnyH_ready (rs := [9]) (by kernel_rfl) (by simp) ?_
  refine AllReadyH.cons (o := kcop9) rfl (fun K hK => ?_) AllReadyH.nil
  · simp only [kcop9]
    go_simp
    refine hK.out _ _ ((below_step hB (below1 w _)).mono HC.le) (fun _ => ?_)
    clear hK K
    try simp only [sA, sZ, sS]
    exact kc_31 hQ hP HC _ q0 A1 c1 w.heap.size (below_step hB (below1 w _)) (o1.below (below1 w _)) ((Blk.new w 53 #[.slice A1 xl.length c1]).cell 0)
theorem kc_20 (hQ : KcFin w0 ga B gb gf of k fn fc xl xA xc lf Af cf v0 v2 v5 v6 v7 v8 v9 v10 v11 v12 v13 v14 v15 v16 v17 v30 v31 v32 v33 v34 v35 v36 v37 v38 v39 v40 v41 v42 Q) (hP : ∀ c (d : Option Tmp) v a w, Q (.panic c) (a.put d v) w → Q (.panic c) a w) (HC : KcHyp w0 ga B gb gf of k fn fc xl xA xc lf Af cf) (w : World) (q0 : Nat) (A1 : Option Addr) (c1 : Nat) (hB : Below w0.heap.size w0 w) (o1 : OwnL w w0.heap.size 83 ucell ⟨xl, A1, c1⟩) :
    wpAnyH Tryz.prog .any kcops Q (fun u => Below B w0 u) 5 #[true, false, true, true, true, true, true, true, true, false, false, false, false] { tmps := #[v0, .pointer (some ⟨gb, 0, none⟩), v2, .pointer (some ⟨ga, 0, none⟩), .int .i64 (k : Nat), v5, v6, v7, v8, v9, v10, v11, v12, v13, v14, v15, v16, v17, .pointer (some ⟨ga, 1, none⟩), v19, .slice (some ⟨q0, 0, none⟩) 0 0, .pointer (some ⟨gb, 1, none⟩), .slice (some ⟨gf, of, none⟩) fn fc, .int .i64 (k : Nat), .pointer (some ⟨gf, of + k, none⟩), .slice xA xl.length xc, .slice A1 xl.length c1, v27, v28, v29, v30, v31, v32, v33, v34, v35, v36, v37, v38, v39, v40, v41, v42], defers := [] } w := by
  refine wpAnyH_ready (rs := [1, 9]) (by kernel_rfl) (by simp) ?_
  refine AllReadyH.cons (o := kcop1) rfl (fun K hK => ?_) (AllReadyH.cons (o := kcop9) rfl (fun K hK => ?_) AllReadyH.nil)
  · simp only [kcop1]
    have a1 := HC.a1 w hB
    go_simp
    refine hK.out _ _ (hB.mono HC.le) (fun _ => ?_)
    clear hK K
    try simp only [sA, sZ, sS]
    exact kc_21 hQ hP HC w q0 A1 c1 hB o1
  · simp only [kcop9]
    go_simp
    refine hK.out _ _ ((below_step hB (below1 w _)).mono HC.le) (fun _ => ?_)
    clear hK K
    try simp only [sA, sZ, sS]
    exact kc_30 hQ hP HC _ q0 A1 c1 w.heap.size (below_step hB (below1 w _)) (o1.below (below1 w _)) ((Blk.new w 53 #[.slice A1 xl.length c1]).cell 0)
theorem kc_11 (hQ : KcFin w0 ga B gb gf of k fn fc xl xA xc lf Af cf v0 v2 v5 v6 v7 v8 v9 v10 v11 v12 v13 v14 v15 v16 v17 v30 v31 v32 v33 v34 v35 v36 v37 v38 v39 v40 v41 v42 Q) (hP : ∀ c (d : Option Tmp) v a w, Q (.panic c) (a.put d v) w → Q (.panic c) a w) (HC : KcHyp w0 ga B gb gf of k fn fc xl xA xc lf Af cf) (w : World) (q0 : Nat) (hB : Below w0.heap.size w0 w) (r0 : w.ownsRow w0.heap.size 83 1 (.slice (some ⟨q0, 0, none⟩) 0 0) 0 []) :
    wpAnyH Tryz.prog .any kcops Q (fun u => Below B w0 u) 5 #[true, true, true, true, true, true, true, true, false, false, false, false, false] { tmps := #[v0, .pointer (some ⟨gb, 0, none⟩), v2, .pointer (some ⟨ga, 0, none⟩), .int .i64 (k : Nat), v5, v6, v7, v8, v9, v10, v11, v12, v13, v14, v15, v16, v17, .pointer (some ⟨ga, 1, none⟩), .slice Af lf.length cf, .slice (some ⟨q0, 0, none⟩) 0 0, .pointer (some ⟨gb, 1, none⟩), .slice (some ⟨gf, of, none⟩) fn fc, .int .i64 (k : Nat), .pointer (some ⟨gf, of + k, none⟩), .slice xA xl.length xc, v26, v27, v28, v29, v30, v31, v32, v33, v34, v35, v36, v37, v38, v39, v40, v41, v42], defers := [] } w := by
  refine wpAnyH_ready (rs := [8]) (by kernel_rfl) (by simp) ?_
  refine AllReadyH.cons (o := kcop8) rfl (fun K hK => ?_) AllReadyH.nil
  · obtain ⟨i0, hi, hz0, hz1, hz2⟩ := info_parts info_u32
    have hx := HC.lx w hB
    refine step_append_L (o := kcop8) rfl (Operand.tmp 20) (Operand.tmp 25) 53 rfl w0.heap.size 83 i0 _ 1 4 Tryz.underlying53 hi hz0 hz1 hz2 rfl (by decide) _ _ _ rfl r0 (⟨xl, xA, xc⟩ : L Int) rfl hx.1 hx.2 (fun _ => rfl) one_ucell ?a3 ?a4 hB.size ?a6
    case a3 => unfold maxLen; have := HC.mx; simp only; omega
    case a4 => have := HC.mx; simp only; omega
    intro v' w1 hrow hgr
    simp only [Nat.zero_add, List.nil_append] at hrow
    obtain ⟨A1, c1, rfl, _⟩ := own_list (cells := ucell) (l := xl) (fun _ => rfl) hrow
    have hown : OwnL w1 w0.heap.size 83 ucell ⟨xl, A1, c1⟩ := hrow
    have hB1 : Below w0.heap.size w0 w1 := hB.grown hgr hB.size (fun j e => (r0.lt j e).1)
    refine hK.out _ _ (hB1.mono HC.le) (fun _ => ?_)
    clear hK K
    try simp only [Act.put, kcop8, sA, sZ, sS]
    exact kc_21 hQ hP HC w1 q0 A1 c1 hB1 hown
theorem kc_10 (hQ : KcFin w0 ga B gb gf of k fn fc xl xA xc lf Af cf v0 v2 v5 v6 v7 v8 v9 v10 v11 v12 v13 v14 v15 v16 v17 v30 v31 v32 v33 v34 v35 v36 v37 v38 v39 v40 v41 v42 Q) (hP : ∀ c (d : Option Tmp) v a w, Q (.panic c) (a.put d v) w → Q (.panic c) a w) (HC : KcHyp w0 ga B gb gf of k fn fc xl xA xc lf Af cf) (w : World) (q0 : Nat) (hB : Below w0.heap.size w0 w) (r0 : w.ownsRow w0.heap.size 83 1 (.slice (some ⟨q0, 0, none⟩) 0 0) 0 []) :
    wpAnyH Tryz.prog .any kcops Q (fun u => Below B w0 u) 6 #[true, false, true, true, true, true, true, true, false, false, false, false, false] { tmps := #[v0, .pointer (some ⟨gb, 0, none⟩), v2, .pointer (some ⟨ga, 0, none⟩), .int .i64 (k : Nat), v5, v6, v7, v8, v9, v10, v11, v12, v13, v14, v15, v16, v17, .pointer (some ⟨ga, 1, none⟩), v19, .slice (some ⟨q0, 0, none⟩) 0 0, .pointer (some ⟨gb, 1, none⟩), .slice (some ⟨gf, of, none⟩) fn fc, .int .i64 (k : Nat), .pointer (some ⟨gf, of + k, none⟩), .slice xA xl.length xc, v26, v27, v28, v29, v30, v31, v32, v33, v34, v35, v36, v37, v38, v39, v40, v41, v42], defers := [] } w := by
  refine wpAnyH_ready (rs := [1, 8]) (by kernel_rfl) (by simp) ?_
  refine AllReadyH.cons (o := kcop1) rfl (fun K hK => ?_) (AllReadyH.cons (o := kcop8) rfl (fun K hK => ?_) AllReadyH.nil)
  · simp only [kcop1]
    have a1 := HC.a1 w hB
    go_simp
    refine hK.out _ _ (hB.mono HC.le) (fun _ => ?_)
    clear hK K
    try simp only [sA, sZ, sS]
    exact kc_11 hQ hP HC w q0 hB r0
  · obtain ⟨i0, hi, hz0, hz1, hz2⟩ := info_parts info_u32
    have hx := HC.lx w hB
    refine step_append_L (o := kcop8) rfl (Operand.tmp 20) (Operand.tmp 25) 53 rfl w0.heap.size 83 i0 _ 1 4 Tryz.underlying53 hi hz0 hz1 hz2 rfl (by decide) _ _ _ rfl r0 (⟨xl, xA, xc⟩ : L Int) rfl hx.1 hx.2 (fun _ => rfl) one_ucell ?a3 ?a4 hB.size ?a6
    case a3 => unfold maxLen; have := HC.mx; simp only; omega
    case a4 => have := HC.mx; simp only; omega
    intro v' w1 hrow hgr
    simp only [Nat.zero_add, List.nil_append] at hrow
    obtain ⟨A1, c1, rfl, _⟩ := own_list (cells := ucell) (l := xl) (fun _ => rfl) hrow
    have hown : OwnL w1 w0.heap.size 83 ucell ⟨xl, A1, c1⟩ := hrow
    have hB1 : Below w0.heap.size w0 w1 := hB.grown hgr hB.size (fun j e => (r0.lt j e).1)
    refine hK.out _ _ (hB1.mono HC.le) (fun _ => ?_)
    clear hK K
    try simp only [Act.put, kcop8, sA, sZ, sS]
    exact kc_20 hQ hP HC w1 q0 A1 c1 hB1 hown
theorem kc_01 (hQ : KcFin w0 ga B gb gf of k fn fc xl xA xc lf Af cf v0 v2 v5 v6 v7 v8 v9 v10 v11 v12 v13 v14 v15 v16 v17 v30 v31 v32 v33 v34 v35 v36 v37 v38 v39 v40 v41 v42 Q) (hP : ∀ c (d : Option Tmp) v a w, Q (.panic c) (a.put d v) w → Q (.panic c) a w) (HC : KcHyp w0 ga B gb gf of k fn fc xl xA xc lf Af cf) (w : World) (hB : Below w0.heap.size w0 w) :
    wpAnyH Tryz.prog .any kcops Q (fun u => Below B w0 u) 6 #[true, true, false, true, true, true, true, true, false, false, false, false, false] { tmps := #[v0, .pointer (some ⟨gb, 0, none⟩), v2, .pointer (some ⟨ga, 0, none⟩), .int .i64 (k : Nat), v5, v6, v7, v8, v9, v10, v11, v12, v13, v14, v15, v16, v17, .pointer (some ⟨ga, 1, none⟩), .slice Af lf.length cf, v20, .pointer (some ⟨gb, 1, none⟩), .slice (some ⟨gf, of, none⟩) fn fc, .int .i64 (k : Nat), .pointer (some ⟨gf, of + k, none⟩), .slice xA xl.length xc, v26, v27, v28, v29, v30, v31, v32, v33, v34, v35, v36, v37, v38, v39, v40, v41, v42], defers := [] } w := by
  refine wpAnyH_ready (rs := [2]) (by kernel_rfl) (by simp) ?_
  refine AllReadyH.cons (o := kcop2) rfl (fun K hK => ?_) AllReadyH.nil
  · simp only [kcop2]
    go_simp
    refine hK.out _ _ ((below_step hB (below1 w _)).mono HC.le) (fun _ => ?_)
    clear hK K
    try simp only [sA, sZ, sS]
    exact kc_11 hQ hP HC _ w.heap.size (below_step hB (below1 w _)) (World.ownsRow_lit w #[] 0 hB.size (Nat.zero_le _) rfl)
theorem kc_00 (hQ : KcFin w0 ga B gb gf of k fn fc xl xA xc lf Af cf v0 v2 v5 v6 v7 v8 v9 v10 v11 v12 v13 v14 v15 v16 v17 v30 v31 v32 v33 v34 v35 v36 v37 v38 v39 v40 v41 v42 Q) (hP : ∀ c (d : Option Tmp) v a w, Q (.panic c) (a.put d v) w → Q (.panic c) a w) (HC : KcHyp w0 ga B gb gf of k fn fc xl xA xc lf Af cf) (w : World) (hB : Below w0.heap.size w0 w) :
    wpAnyH Tryz.prog .any kcops Q (fun u => Below B w0 u) 7 #[true, false, false, true, true, true, true, true, false, false, false, false, false] { tmps := #[v0, .pointer (some ⟨gb, 0, none⟩), v2, .pointer (some ⟨ga, 0, none⟩), .int .i64 (k : Nat), v5, v6, v7, v8, v9, v10, v11, v12, v13, v14, v15, v16, v17, .pointer (some ⟨ga, 1, none⟩), v19, v20, .pointer (some ⟨gb, 1, none⟩), .slice (some ⟨gf, of, none⟩) fn fc, .int .i64 (k : Nat), .pointer (some ⟨gf, of + k, none⟩), .slice xA xl.length xc, v26, v27, v28, v29, v30, v31, v32, v33, v34, v35, v36, v37, v38, v39, v40, v41, v42], defers := [] } w := by
  refine wpAnyH_ready (rs := [1, 2]) (by kernel_rfl) (by simp) ?_
  refine AllReadyH.cons (o := kcop1) rfl (fun K hK => ?_) (AllReadyH.cons (o := kcop2) rfl (fun K hK => ?_) AllReadyH.nil)
  · simp only [kcop1]
    have a1 := HC.a1 w hB
    go_simp
    refine hK.out _ _ (hB.mono HC.le) (fun _ => ?_)
    clear hK K
    try simp only [sA, sZ, sS]
    exact kc_01 hQ hP HC w  hB
  · simp only [kcop2]
    go_simp
    refine hK.out _ _ ((below_step hB (below1 w _)).mono HC.le) (fun _ => ?_)
    clear hK K
    try simp only [sA, sZ, sS]
    exact kc_10 hQ hP HC _ w.heap.size (below_step hB (below1 w _)) (World.ownsRow_lit w #[] 0 hB.size (Nat.zero_le _) rfl)
theorem kc_region (HC : KcHyp w0 ga B gb gf of k fn fc xl xA xc lf Af cf) (hP : ∀ c (d : Option Tmp) v a w, Q (.panic c) (a.put d v) w → Q (.panic c) a w) (hQ : KcFin w0 ga B gb gf of k fn fc xl xA xc lf Af cf v0 v2 v5 v6 v7 v8 v9 v10 v11 v12 v13 v14 v15 v16 v17 v30 v31 v32 v33 v34 v35 v36 v37 v38 v39 v40 v41 v42 Q) :
    (Code.region 6 kcops true).wp Tryz.prog Q { tmps := #[v0, .pointer (some ⟨gb, 0, none⟩), v2, .pointer (some ⟨ga, 0, none⟩), .int .i64 (k : Nat), v5, v6, v7, v8, v9, v10, v11, v12, v13, v14, v15, v16, v17, v18, v19, v20, v21, v22, v23, v24, v25, v26, v27, v28, v29, v30, v31, v32, v33, v34, v35, v36, v37, v38, v39, v40, v41, v42], defers := [] } w0 := by
  refine wp_region_held_drew (S := (fun u => Below B w0 u)) (by kernel_rfl) ((below_drew (Below.refl _ _)).mono HC.le) (fun hHeld => ?_)
  refine wpAnyH_take (i := 0) (oi := kcop0) (v := ?t2v) rfl (by kernel_rfl) (by kernel_rfl) (by kernel_rfl) (fun c a w h => hP c _ _ a w h) (Or.inl ⟨by rfl, ?t2y⟩) (by assumption) ?t2r
  case t2y => (intro w hSw; (try dsimp only at hSw); have q1 := HC.s1; have q2 := HC.s2; have q3 := HC.kn; simp only [kcop0]; go_simp; try (with_reducible rfl))
  try simp only [Act.put, kcop0, sA, sZ, sS]
  refine wpAnyH_take (i := 3) (oi := kcop3) (v := ?t3v) rfl (by kernel_rfl) (by kernel_rfl) (by kernel_rfl) (fun c a w h => hP c _ _ a w h) (Or.inl ⟨by rfl, ?t3y⟩) (by assumption) ?t3r
  case t3y => (intro w hSw; (try dsimp only at hSw); have q1 := HC.s1; have q2 := HC.s2; have q3 := HC.kn; simp only [kcop3]; go_simp; try (with_reducible rfl))
  try simp only [Act.put, kcop3, sA, sZ, sS]
  refine wpAnyH_take (i := 4) (oi := kcop4) (v := ?t4v) rfl (by kernel_rfl) (by kernel_rfl) (by kernel_rfl) (fun c a w h => hP c _ _ a w h) (Or.inl ⟨by rfl, ?t4y⟩) (by assumption) ?t4r
  case t4y => (intro w hSw; (try dsimp only at hSw); have q1 := HC.s1; have q2 := HC.s2; have q3 := HC.kn; simp only [kcop4]; go_simp; try (with_reducible rfl))
  try simp only [Act.put, kcop4, sA, sZ, sS]
  refine wpAnyH_take (i := 5) (oi := kcop5) (v := ?t5v) rfl (by kernel_rfl) (by kernel_rfl) (by kernel_rfl) (fun c a w h => hP c _ _ a w h) (Or.inl ⟨by rfl, ?t5y⟩) (by assumption) ?t5r
  case t5y => (intro w hSw; (try dsimp only at hSw); have q1 := HC.s1; have q2 := HC.s2; have q3 := HC.kn; simp only [kcop5]; go_simp; try (with_reducible rfl))
  try simp only [Act.put, kcop5, sA, sZ, sS]
  refine wpAnyH_take (i := 6) (oi := kcop6) (v := ?t6v) rfl (by kernel_rfl) (by kernel_rfl) (by kernel_rfl) (fun c a w h => hP c _ _ a w h) (Or.inl ⟨by rfl, ?t6y⟩) (by assumption) ?t6r
  case t6y => (intro w hSw; (try dsimp only at hSw); have q1 := HC.s1; have q2 := HC.s2; have q3 := HC.kn; simp only [kcop6]; go_simp; try (with_reducible rfl))
  try simp only [Act.put, kcop6, sA, sZ, sS]
  refine wpAnyH_take (i := 7) (oi := kcop7) (v := ?t7v) rfl (by kernel_rfl) (by kernel_rfl) (by kernel_rfl) (fun c a w h => hP c _ _ a w h) (Or.inl ⟨by rfl, ?t7y⟩) (by assumption) ?t7r
  case t7y => (intro w hSw; (try dsimp only at hSw); have q1 := HC.s1; have q2 := HC.s2; have q3 := HC.kn; simp only [kcop7]; go_simp; try (with_reducible rfl))
  try simp only [Act.put, kcop7, sA, sZ, sS]
  exact kc_00 hQ hP HC _ (below_drew (Below.refl _ _))
end
structure KnHyp (w0 : World) (ga B : Nat) (gb gf of k fn fc n : Nat) (xA : Option Addr) (xc : Nat) (lf : List (L Int)) (Af : Option Addr) (cf : Nat) : Prop where
  a1 : ∀ u, Below w0.heap.size w0 u → u.cell? ⟨ga, 1, none⟩ = some (.slice Af lf.length cf)
  lt : ga < w0.heap.size
  fr : ∀ u, Below w0.heap.size w0 u → u.frozen? ⟨ga, 1, none⟩ = false
  s1 : ∀ u, Below B w0 u → u.cell? ⟨gb, 1, none⟩ = some (.slice (some ⟨gf, of, none⟩) fn fc)
  s2 : ∀ u, Below B w0 u → u.cell? ⟨gf, of + k * 2 + 1, none⟩ = some (.slice xA n xc)
  kn : (k : Int) < (fn : Int)
  of : ∀ u, Below w0.heap.size w0 u → OwnL u B 53 lcell ⟨lf, Af, cf⟩
  off : OffB ga (⟨lf, Af, cf⟩ : L (L Int)).v
  mx : n ≤ 1000
  mf : lf.length ≤ 1000
  le : B ≤ w0.heap.size
  gB : B ≤ ga
def knop0 : Oper := { dst := some 17, op := Op.fieldAddr 56 (Operand.tmp 3) 1, type := 0, pos := "ref.go:26", after := #[], guard := none }
def knop1 : Oper := { dst := some 18, op := Op.load 52 (Operand.tmp 17), type := 52, pos := "ref.go:26", after := #[{ on := 0, ground := Ground.data }], guard := none }
def knop2 : Oper := { dst := some 19, op := Op.fieldAddr 31 (Operand.tmp 1) 1, type := 0, pos := "ref.go:26", after := #[], guard := none }
def knop3 : Oper := { dst := some 20, op := Op.load 22 (Operand.tmp 19), type := 22, pos := "ref.go:26", after := #[{ on := 2, ground := Ground.data }], guard := none }
def knop4 : Oper := { dst := some 21, op := Op.move (Operand.tmp 4), type := 3, pos := "ref.go:26", after := #[], guard := none }
def knop5 : Oper := { dst := some 22, op := Op.indexAddr 22 (Operand.tmp 20) (Operand.tmp 21), type := 0, pos := "ref.go:26", after := #[{ on := 3, ground := Ground.data }, { on := 4, ground := Ground.data }], guard := none }
def knop6 : Oper := { dst := some 23, op := Op.fieldAddr 96 (Operand.tmp 22) 1, type := 0, pos := "ref.go:26", after := #[{ on := 5, ground := Ground.data }], guard := none }
def knop7 : Oper := { dst := some 24, op := Op.load 23 (Operand.tmp 23), type := 23, pos := "ref.go:26", after := #[{ on := 6, ground := Ground.data }], guard := none }
def knop8 : Oper := { dst := some 25, op := Op.call { callee := Callee.builtin Builtin.len, args := #[Operand.tmp 24], argTypes := #[23] }, type := 3, pos := "ref.go:26", after := #[{ on := 7, ground := Ground.data }], guard := none }
def knop9 : Oper := { dst := some 26, op := Op.makeSlice 53 (Operand.tmp 25) (Operand.tmp 25), type := 53, pos := "ref.go:26", after := #[{ on := 8, ground := Ground.data }, { on := 8, ground := Ground.data }], guard := none }
def knop10 : Oper := { dst := some 27, op := Op.buildSlice 52 1 #[(0, Operand.tmp 26)], type := 52, pos := "ref.go:26", after := #[{ on := 9, ground := Ground.data }], guard := none }
def knop11 : Oper := { dst := some 28, op := Op.call { callee := Callee.builtin Builtin.append, args := #[Operand.tmp 18, Operand.tmp 27], argTypes := #[52, 52] }, type := 52, pos := "ref.go:26", after := #[{ on := 1, ground := Ground.data }, { on := 10, ground := Ground.data }], guard := none }
def knop12 : Oper := { dst := some 29, op := Op.fieldAddr 56 (Operand.tmp 3) 1, type := 0, pos := "ref.go:26", after := #[{ on := 0, ground := Ground.phase }, { on := 1, ground := Ground.phase }, { on := 2, ground := Ground.phase }, { on := 3, ground := Ground.phase }, { on := 4, ground := Ground.phase }, { on := 5, ground := Ground.phase }, { on := 6, ground := Ground.phase }, { on := 7, ground := Ground.phase }, { on := 8, ground := Ground.phase }, { on := 9, ground := Ground.phase }, { on := 10, ground := Ground.phase }, { on := 11, ground := Ground.phase }], guard := none }
def knop13 : Oper := { dst := none, op := Op.store 52 (Operand.tmp 29) (Operand.tmp 28), type := 0, pos := "ref.go:26", after := #[{ on := 12, ground := Ground.data }, { on := 11, ground := Ground.data }, { on := 11, ground := Ground.chain }, { on := 0, ground := Ground.phase }, { on := 1, ground := Ground.phase }, { on := 2, ground := Ground.phase }, { on := 3, ground := Ground.phase }, { on := 4, ground := Ground.phase }, { on := 5, ground := Ground.phase }, { on := 6, ground := Ground.phase }, { on := 7, ground := Ground.phase }, { on := 8, ground := Ground.phase }, { on := 9, ground := Ground.phase }, { on := 10, ground := Ground.phase }, { on := 11, ground := Ground.phase }], guard := none }
def knops : Array Oper := #[knop0, knop1, knop2, knop3, knop4, knop5, knop6, knop7, knop8, knop9, knop10, knop11, knop12, knop13]
def KnFin (w0 : World) (ga B : Nat) (gb gf of k fn fc n : Nat) (xA : Option Addr) (xc : Nat) (lf : List (L Int)) (Af : Option Addr) (cf : Nat) (v0 v2 v5 v6 v7 v8 v9 v10 v11 v12 v13 v14 v15 v16 v30 v31 v32 v33 v34 v35 : Value) (Q : Exit → Act → World → Prop) : Prop :=
  ∀ (wm wz : World) (q2 : Nat) (A1 : Option Addr) (c1 g cap : Nat), Below w0.heap.size w0 wm → OwnL wm w0.heap.size 83 ucell ⟨(List.replicate n (0 : Int)), A1, c1⟩ → wm.grownBy wz (⟨lf, Af, cf⟩ : L (L Int)).v.ownBlock →
    wz.ownsRow B 53 1 (.slice (some ⟨g, 0, none⟩) (lf.length + 1) cap) (lf.length + 1) (lf.flatMap lcell ++ [.slice A1 n c1]) → ((⟨lf, Af, cf⟩ : L (L Int)).v.ownBlock = some g ∨ g = wm.heap.size) → g < wz.heap.size →
    Q .normal { tmps := #[v0, .pointer (some ⟨gb, 0, none⟩), v2, .pointer (some ⟨ga, 0, none⟩), .int .i64 (k : Nat), v5, v6, v7, v8, v9, v10, v11, v12, v13, v14, v15, v16, .pointer (some ⟨ga, 1, none⟩), .slice Af lf.length cf, .pointer (some ⟨gb, 1, none⟩), .slice (some ⟨gf, of, none⟩) fn fc, .int .i64 (k : Nat), .pointer (some ⟨gf, of + k * 2, none⟩), .pointer (some ⟨gf, of + k * 2 + 1, none⟩), .slice xA n xc, .int .i64 (n : Nat), .slice A1 n c1, .slice (some ⟨q2, 0, none⟩) 1 1, .slice (some ⟨g, 0, none⟩) (lf.length + 1) cap, .pointer (some ⟨ga, 1, none⟩), v30, v31, v32, v33, v34, v35], defers := [] } (wz.setCell ⟨ga, 1, none⟩ (.slice (some ⟨g, 0, none⟩) (lf.length + 1) cap))
section
variable {w0 : World} {ga B : Nat} {gb gf of k fn fc n : Nat} {xA : Option Addr} {xc : Nat} {lf : List (L Int)} {Af : Option Addr} {cf : Nat} {v0 v2 v5 v6 v7 v8 v9 v10 v11 v12 v13 v14 v15 v16 v17 v18 v19 v20 v21 v22 v23 v24 v25 v26 v27 v28 v29 v30 v31 v32 v33 v34 v35 : Value} {Q : Exit → Act → World → Prop}
theorem kn_21 (hQ : KnFin w0 ga B gb gf of k fn fc n xA xc lf Af cf v0 v2 v5 v6 v7 v8 v9 v10 v11 v12 v13 v14 v15 v16 v30 v31 v32 v33 v34 v35 Q) (hP : ∀ c (d : Option Tmp) v a w, Q (.panic c) (a.put d v) w → Q (.panic c) a w) (HC : KnHyp w0 ga B gb gf of k fn fc n xA xc lf Af cf) (w : World) (A1 : Option Addr) (c1 : Nat) (q2 : Nat) (hB : Below w0.heap.size w0 w) (o1 : OwnL w w0.heap.size 83 ucell ⟨(List.replicate n (0 : Int)), A1, c1⟩) (k2 : w.cell? ⟨q2, 0, none⟩ = some (.slice A1 n c1)) :
    wpAnyH Tryz.prog .any knops Q (fun u => Below B w0 u) 3 #[true, true, true, true, true, true, true, true, true, true, true, false, false, false] { tmps := #[v0, .pointer (some ⟨gb, 0, none⟩), v2, .pointer (some ⟨ga, 0, none⟩), .int .i64 (k : Nat), v5, v6, v7, v8, v9, v10, v11, v12, v13, v14, v15, v16, .pointer (some ⟨ga, 1, none⟩), .slice Af lf.length cf, .pointer (some ⟨gb, 1, none⟩), .slice (some ⟨gf, of, none⟩) fn fc, .int .i64 (k : Nat), .pointer (some ⟨gf, of + k * 2, none⟩), .pointer (some ⟨gf, of + k * 2 + 1, none⟩), .slice xA n xc, .int .i64 (n : Nat), .slice A1 n c1, .slice (some ⟨q2, 0, none⟩) 1 1, v28, v29, v30, v31, v32, v33, v34, v35], defers := [] } w := by
  refine wpAnyH_ready (rs := [11]) (by kernel_rfl) (by simp) ?_
  refine AllReadyH.cons (o := knop11) rfl (fun K hK => ?_) AllReadyH.nil
  · obtain ⟨i0, hi, hz0, hz1, hz2⟩ := info_parts info_u32s
    have hown : w.ownsRow B 53 1 (.slice Af lf.length cf) lf.length (lf.flatMap lcell) := HC.of w hB
    refine step_append_lies w (o := knop11) rfl (Operand.tmp 18) (Operand.tmp 27) 52 rfl B 53 i0 _ 1 24 Tryz.underlying52 hi hz0 hz1 hz2 rfl (by decide) _ _ _ rfl hown ⟨q2, 0, none⟩ 1 1 [.slice A1 n c1] rfl rfl ?a1 ?a2 (by decide) ?a3 ?a4 ?a5 w.heap.size rfl ?a6
    case a1 =>
      intro j u hj
      match j, hj with
      | 0, hj => simp only [List.getElem?_cons_zero, Option.some.injEq] at hj; subst hj; exact k2
    case a2 => intro u hu; simp only [List.mem_cons, List.not_mem_nil, or_false] at hu; subst hu; rfl
    case a3 => unfold maxLen; have := HC.mf; omega
    case a4 => have := HC.mf; omega
    case a5 => exact Nat.le_trans HC.le hB.size
    intro g cap wz hrow hgr hat hlt
    have hBz : Below B w0 wz := (hB.mono HC.le).grown hgr (Nat.le_trans HC.le hB.size) (fun j e => ((HC.of w hB).lt j e).1)
    refine hK.out _ _ hBz (fun _ => ?_)
    clear hK K
    try simp only [Act.put, knop11, sA, sZ, sS]
    refine wpAnyH_take (i := 12) (oi := knop12) (v := ?t1v) rfl (by kernel_rfl) (by kernel_rfl) (by kernel_rfl) (fun c a w h => hP c _ _ a w h) (Or.inl ⟨by rfl, ?t1y⟩) (by assumption) ?t1r
    case t1y => (intro w hSw; (try dsimp only at hSw); have q1 := HC.s1; have q2 := HC.s2; have q3 := HC.kn; simp only [knop12]; go_simp; try (with_reducible rfl))
    try simp only [Act.put, knop12, sA, sZ, sS]
    refine wpAnyH_ready (rs := [13]) (by kernel_rfl) (by simp) ?_
    refine AllReadyH.cons (o := knop13) rfl (fun K hK => ?_) AllReadyH.nil
    have hne : some ga ≠ (⟨lf, Af, cf⟩ : L (L Int)).v.ownBlock := fun e => HC.off ga e.symm rfl
    have hlw : ga < w.heap.size := Nat.lt_of_lt_of_le HC.lt hB.size
    have a1 : wz.cell? ⟨ga, 1, none⟩ = some (.slice Af lf.length cf) := by rw [World.cell?_of_block (a := ⟨ga, 1, none⟩) (hgr.block ga hlw hne)]; exact HC.a1 w hB
    have af : wz.frozen? ⟨ga, 1, none⟩ = false := by rw [World.frozen?_of_block (a := ⟨ga, 1, none⟩) (hgr.block ga hlw hne)]; exact HC.fr w hB
    simp only [knop13]
    go_simp
    refine hK.out _ _ (hBz.setCell (by exact HC.gB) _) (fun _ => ?_)
    clear hK K
    try simp only [sA, sZ, sS]
    refine wpAnyH_done (by kernel_rfl) ?_ _
    exact hQ w wz q2 A1 c1 g cap hB o1 hgr hrow hat hlt
theorem kn_20 (hQ : KnFin w0 ga B gb gf of k fn fc n xA xc lf Af cf v0 v2 v5 v6 v7 v8 v9 v10 v11 v12 v13 v14 v15 v16 v30 v31 v32 v33 v34 v35 Q) (hP : ∀ c (d : Option Tmp) v a w, Q (.panic c) (a.put d v) w → Q (.panic c) a w) (HC : KnHyp w0 ga B gb gf of k fn fc n xA xc lf Af cf) (w : World) (A1 : Option Addr) (c1 : Nat) (q2 : Nat) (hB : Below w0.heap.size w0 w) (o1 : OwnL w w0.heap.size 83 ucell ⟨(List.replicate n (0 : Int)), A1, c1⟩) (k2 : w.cell? ⟨q2, 0, none⟩ = some (.slice A1 n c1)) :
    wpAnyH Tryz.prog .any knops Q (fun u => Below B w0 u) 4 #[true, false, true, true, true, true, true, true, true, true, true, false, false, false] { tmps := #[v0, .pointer (some ⟨gb, 0, none⟩), v2, .pointer (some ⟨ga, 0, none⟩), .int .i64 (k : Nat), v5, v6, v7, v8, v9, v10, v11, v12, v13, v14, v15, v16, .pointer (some ⟨ga, 1, none⟩), v18, .pointer (some ⟨gb, 1, none⟩), .slice (some ⟨gf, of, none⟩) fn fc, .int .i64 (k : Nat), .pointer (some ⟨gf, of + k * 2, none⟩), .pointer (some ⟨gf, of + k * 2 + 1, none⟩), .slice xA n xc, .int .i64 (n : Nat), .slice A1 n c1, .slice (some ⟨q2, 0, none⟩) 1 1, v28, v29, v30, v31, v32, v33, v34, v35], defers := [] } w := by
  refine wpAnyH_ready (rs := [1]) (by kernel_rfl) (by simp) ?_
  refine AllReadyH.cons (o := knop1) rfl (fun K hK => ?_) AllReadyH.nil
  · simp only [knop1]
    have a1 := HC.a1 w hB
    go_simp
    refine hK.out _ _ (hB.mono HC.le) (fun _ => ?_)
    clear hK K
    try simp only [sA, sZ, sS]
    exact kn_21 hQ hP HC w A1 c1 q2 hB o1 k2
theorem kn_11 (hQ : KnFin w0 ga B gb gf of k fn fc n xA xc lf Af cf v0 v2 v5 v6 v7 v8 v9 v10 v11 v12 v13 v14 v15 v16 v30 v31 v32 v33 v34 v35 Q) (hP : ∀ c (d : Option Tmp) v a w, Q (.panic c) (a.put d v) w → Q (.panic c) a w) (HC : KnHyp w0 ga B gb gf of k fn fc n xA xc lf Af cf) (w : World) (A1 : Option Addr) (c1 : Nat) (hB : Below w0.heap.size w0 w) (o1 : OwnL w w0.heap.size 83 ucell ⟨(List.replicate n (0 : Int)), A1, c1⟩) :
    wpAnyH Tryz.prog .any knops Q (fun u => Below B w0 u) 4 #[true, true, true, true, true, true, true, true, true, true, false, false, false, false] { tmps := #[v0, .pointer (some ⟨gb, 0, none⟩), v2, .pointer (some ⟨ga, 0, none⟩), .int .i64 (k : Nat), v5, v6, v7, v8, v9, v10, v11, v12, v13, v14, v15, v16, .pointer (some ⟨ga, 1, none⟩), .slice Af lf.length cf, .pointer (some ⟨gb, 1, none⟩), .slice (some ⟨gf, of, none⟩) fn fc, .int .i64 (k : Nat), .pointer (some ⟨gf, of + k * 2, none⟩), .pointer (some ⟨gf, of + k * 2 + 1, none⟩), .slice xA n xc, .int .i64 (n : Nat), .slice A1 n c1, v27, v28, v29, v30, v31, v32, v33, v34, v35], defers := [] } w := by
  refine wpAnyH_ready (rs := [10]) (by kernel_rfl) (by simp) ?_
  refine AllReadyH.cons (o := knop10) rfl (fun K hK => ?_) AllReadyH.nil
  · simp only [knop10]
    go_simp
    refine hK.out _ _ ((below_step hB (below1 w _)).mono HC.le) (fun _ => ?_)
    clear hK K
    try simp only [sA, sZ, sS]
    exact kn_21 hQ hP HC _ A1 c1 w.heap.size (below_step hB (below1 w _)) (o1.below (below1 w _)) ((Blk.new w 53 #[.slice A1 n c1]).cell 0)
theorem kn_10 (hQ : KnFin w0 ga B gb gf of k fn fc n xA xc lf Af cf v0 v2 v5 v6 v7 v8 v9 v10 v11 v12 v13 v14 v15 v16 v30 v31 v32 v33 v34 v35 Q) (hP : ∀ c (d : Option Tmp) v a w, Q (.panic c) (a.put d v) w → Q (.panic c) a w) (HC : KnHyp w0 ga B gb gf of k fn fc n xA xc lf Af cf) (w : World) (A1 : Option Addr) (c1 : Nat) (hB : Below w0.heap.size w0 w) (o1 : OwnL w w0.heap.size 83 ucell ⟨(List.replicate n (0 : Int)), A1, c1⟩) :
    wpAnyH Tryz.prog .any knops Q (fun u => Below B w0 u) 5 #[true, false, true, true, true, true, true, true, true, true, false, false, false, false] { tmps := #[v0, .pointer (some ⟨gb, 0, none⟩), v2, .pointer (some ⟨ga, 0, none⟩), .int .i64 (k : Nat), v5, v6, v7, v8, v9, v10, v11, v12, v13, v14, v15, v16, .pointer (some ⟨ga, 1, none⟩), v18, .pointer (some ⟨gb, 1, none⟩), .slice (some ⟨gf, of, none⟩) fn fc, .int .i64 (k : Nat), .pointer (some ⟨gf, of + k * 2, none⟩), .pointer (some ⟨gf, of + k * 2 + 1, none⟩), .slice xA n xc, .int .i64 (n : Nat), .slice A1 n c1, v27, v28, v29, v30, v31, v32, v33, v34, v35], defers := [] } w := by
  refine wpAnyH_ready (rs := [1, 10]) (by kernel_rfl) (by simp) ?_
  refine AllReadyH.cons (o := knop1) rfl (fun K hK => ?_) (AllReadyH.cons (o := knop10) rfl (fun K hK => ?_) AllReadyH.nil)
  · simp only [knop1]
    have a1 := HC.a1 w hB
    go_simp
    refine hK.out _ _ (hB.mono HC.le) (fun _ => ?_)
    clear hK K
    try simp only [sA, sZ, sS]
    exact kn_11 hQ hP HC w A1 c1 hB o1
  · simp only [knop10]
    go_simp
    refine hK.out _ _ ((below_step hB (below1 w _)).mono HC.le) (fun _ => ?_)
    clear hK K
    try simp only [sA, sZ, sS]
    exact kn_20 hQ hP HC _ A1 c1 w.heap.size (below_step hB (below1 w _)) (o1.below (below1 w _)) ((Blk.new w 53 #[.slice A1 n c1]).cell 0)
theorem kn_01 (hQ : KnFin w0 ga B gb gf of k fn fc n xA xc lf Af cf v0 v2 v5 v6 v7 v8 v9 v10 v11 v12 v13 v14 v15 v16 v30 v31 v32 v33 v34 v35 Q) (hP : ∀ c (d : Option Tmp) v a w, Q (.panic c) (a.put d v) w → Q (.panic c) a w) (HC : KnHyp w0 ga B gb gf of k fn fc n xA xc lf Af cf) (w : World) (hB : Below w0.heap.size w0 w) :
    wpAnyH Tryz.prog .any knops Q (fun u => Below B w0 u) 5 #[true, true, true, true, true, true, true, true, true, false, false, false, false, false] { tmps := #[v0, .pointer (some ⟨gb, 0, none⟩), v2, .pointer (some ⟨ga, 0, none⟩), .int .i64 (k : Nat), v5, v6, v7, v8, v9, v10, v11, v12, v13, v14, v15, v16, .pointer (some ⟨ga, 1, none⟩), .slice Af lf.length cf, .pointer (some ⟨gb, 1, none⟩), .slice (some ⟨gf, of, none⟩) fn fc, .int .i64 (k : Nat), .pointer (some ⟨gf, of + k * 2, none⟩), .pointer (some ⟨gf, of + k * 2 + 1, none⟩), .slice xA n xc, .int .i64 (n : Nat), v26, v27, v28, v29, v30, v31, v32, v33, v34, v35], defers := [] } w := by
  refine wpAnyH_ready (rs := [9]) (by kernel_rfl) (by simp) ?_
  refine AllReadyH.cons (o := knop9) rfl (fun K hK => ?_) AllReadyH.nil
  · simp only [knop9]
    obtain ⟨i0, hi, hz0, hz1, hz2⟩ := info_parts info_u32
    obtain ⟨w1, hrun, hrow, hgr⟩ := run_make_full (P := Tryz.prog) (w := w) w.heap.size 53 83 i0 _ 1 Tryz.underlying53 hi hz0 hz1 .i64 .i64 n (by rw [hz2]; have := HC.mx; omega) (by unfold maxLen; have := HC.mx; omega) (Nat.le_refl _)
    have hown : OwnL w1 w.heap.size 83 ucell (⟨List.replicate n 0, some ⟨w.heap.size, 0, none⟩, n⟩ : L Int) := by
      rw [made_zero3] at hrow
      unfold OwnL
      simp only [L.v, List.length_replicate]
      exact hrow
    have hB1 := below_step hB (below_none hgr)
    have hK2 := hK.out
    clear hK
    go_simp
    refine hK2 _ _ (hB1.mono HC.le) (fun _ => ?_)
    clear hK2 K
    try simp only [sA, sZ, sS]
    exact kn_11 hQ hP HC w1 _ _ hB1 (hown.lower hB.size)
theorem kn_00 (hQ : KnFin w0 ga B gb gf of k fn fc n xA xc lf Af cf v0 v2 v5 v6 v7 v8 v9 v10 v11 v12 v13 v14 v15 v16 v30 v31 v32 v33 v34 v35 Q) (hP : ∀ c (d : Option Tmp) v a w, Q (.panic c) (a.put d v) w → Q (.panic c) a w) (HC : KnHyp w0 ga B gb gf of k fn fc n xA xc lf Af cf) (w : World) (hB : Below w0.heap.size w0 w) :
    wpAnyH Tryz.prog .any knops Q (fun u => Below B w0 u) 6 #[true, false, true, true, true, true, true, true, true, false, false, false, false, false] { tmps := #[v0, .pointer (some ⟨gb, 0, none⟩), v2, .pointer (some ⟨ga, 0, none⟩), .int .i64 (k : Nat), v5, v6, v7, v8, v9, v10, v11, v12, v13, v14, v15, v16, .pointer (some ⟨ga, 1, none⟩), v18, .pointer (some ⟨gb, 1, none⟩), .slice (some ⟨gf, of, none⟩) fn fc, .int .i64 (k : Nat), .pointer (some ⟨gf, of + k * 2, none⟩), .pointer (some ⟨gf, of + k * 2 + 1, none⟩), .slice xA n xc, .int .i64 (n : Nat), v26, v27, v28, v29, v30, v31, v32, v33, v34, v35], defers := [] } w := by
  refine wpAnyH_ready (rs := [1, 9]) (by kernel_rfl) (by simp) ?_
  refine AllReadyH.cons (o := knop1) rfl (fun K hK => ?_) (AllReadyH.cons (o := knop9) rfl (fun K hK => ?_) AllReadyH.nil)
  · simp only [knop1]
    have a1 := HC.a1 w hB
    go_simp
    refine hK.out _ _ (hB.mono HC.le) (fun _ => ?_)
    clear hK K
    try simp only [sA, sZ, sS]
    exact kn_01 hQ hP HC w  hB
  · simp only [knop9]
    obtain ⟨i0, hi, hz0, hz1, hz2⟩ := info_parts info_u32
    obtain ⟨w1, hrun, hrow, hgr⟩ := run_make_full (P := Tryz.prog) (w := w) w.heap.size 53 83 i0 _ 1 Tryz.underlying53 hi hz0 hz1 .i64 .i64 n (by rw [hz2]; have := HC.mx; omega) (by unfold maxLen; have := HC.mx; omega) (Nat.le_refl _)
    have hown : OwnL w1 w.heap.size 83 ucell (⟨List.replicate n 0, some ⟨w.heap.size, 0, none⟩, n⟩ : L Int) := by
      rw [made_zero3] at hrow
      unfold OwnL
      simp only [L.v, List.length_replicate]
      exact hrow
    have hB1 := below_step hB (below_none hgr)
    have hK2 := hK.out
    clear hK
    go_simp
    refine hK2 _ _ (hB1.mono HC.le) (fun _ => ?_)
    clear hK2 K
    try simp only [sA, sZ, sS]
    exact kn_10 hQ hP HC w1 _ _ hB1 (hown.lower hB.size)
theorem kn_region (HC : KnHyp w0 ga B gb gf of k fn fc n xA xc lf Af cf) (hP : ∀ c (d : Option Tmp) v a w, Q (.panic c) (a.put d v) w → Q (.panic c) a w) (hQ : KnFin w0 ga B gb gf of k fn fc n xA xc lf Af cf v0 v2 v5 v6 v7 v8 v9 v10 v11 v12 v13 v14 v15 v16 v30 v31 v32 v33 v34 v35 Q) :
    (Code.region 6 knops true).wp Tryz.prog Q { tmps := #[v0, .pointer (some ⟨gb, 0, none⟩), v2, .pointer (some ⟨ga, 0, none⟩), .int .i64 (k : Nat), v5, v6, v7, v8, v9, v10, v11, v12, v13, v14, v15, v16, v17, v18, v19, v20, v21, v22, v23, v24, v25, v26, v27, v28, v29, v30, v31, v32, v33, v34, v35], defers := [] } w0 := by
  refine wp_region_held_drew (S := (fun u => Below B w0 u)) (by kernel_rfl) ((below_drew (Below.refl _ _)).mono HC.le) (fun hHeld => ?_)
  refine wpAnyH_take (i := 0) (oi := knop0) (v := ?t2v) rfl (by kernel_rfl) (by kernel_rfl) (by kernel_rfl) (fun c a w h => hP c _ _ a w h) (Or.inl ⟨by rfl, ?t2y⟩) (by assumption) ?t2r
  case t2y => (intro w hSw; (try dsimp only at hSw); have q1 := HC.s1; have q2 := HC.s2; have q3 := HC.kn; simp only [knop0]; go_simp; try (with_reducible rfl))
  try simp only [Act.put, knop0, sA, sZ, sS]
  refine wpAnyH_take (i := 2) (oi := knop2) (v := ?t3v) rfl (by kernel_rfl) (by kernel_rfl) (by kernel_rfl) (fun c a w h => hP c _ _ a w h) (Or.inl ⟨by rfl, ?t3y⟩) (by assumption) ?t3r
  case t3y => (intro w hSw; (try dsimp only at hSw); have q1 := HC.s1; have q2 := HC.s2; have q3 := HC.kn; simp only [knop2]; go_simp; try (with_reducible rfl))
  try simp only [Act.put, knop2, sA, sZ, sS]
  refine wpAnyH_take (i := 3) (oi := knop3) (v := ?t4v) rfl (by kernel_rfl) (by kernel_rfl) (by kernel_rfl) (fun c a w h => hP c _ _ a w h) (Or.inl ⟨by rfl, ?t4y⟩) (by assumption) ?t4r
  case t4y => (intro w hSw; (try dsimp only at hSw); have q1 := HC.s1; have q2 := HC.s2; have q3 := HC.kn; simp only [knop3]; go_simp; try (with_reducible rfl))
  try simp only [Act.put, knop3, sA, sZ, sS]
  refine wpAnyH_take (i := 4) (oi := knop4) (v := ?t5v) rfl (by kernel_rfl) (by kernel_rfl) (by kernel_rfl) (fun c a w h => hP c _ _ a w h) (Or.inl ⟨by rfl, ?t5y⟩) (by assumption) ?t5r
  case t5y => (intro w hSw; (try dsimp only at hSw); have q1 := HC.s1; have q2 := HC.s2; have q3 := HC.kn; simp only [knop4]; go_simp; try (with_reducible rfl))
  try simp only [Act.put, knop4, sA, sZ, sS]
  refine wpAnyH_take (i := 5) (oi := knop5) (v := ?t6v) rfl (by kernel_rfl) (by kernel_rfl) (by kernel_rfl) (fun c a w h => hP c _ _ a w h) (Or.inl ⟨by rfl, ?t6y⟩) (by assumption) ?t6r
  case t6y => (intro w hSw; (try dsimp only at hSw); have q1 := HC.s1; have q2 := HC.s2; have q3 := HC.kn; simp only [knop5]; go_simp; try (with_reducible rfl))
  try simp only [Act.put, knop5, sA, sZ, sS]
  refine wpAnyH_take (i := 6) (oi := knop6) (v := ?t7v) rfl (by kernel_rfl) (by kernel_rfl) (by kernel_rfl) (fun c a w h => hP c _ _ a w h) (Or.inl ⟨by rfl, ?t7y⟩) (by assumption) ?t7r
  case t7y => (intro w hSw; (try dsimp only at hSw); have q1 := HC.s1; have q2 := HC.s2; have q3 := HC.kn; simp only [knop6]; go_simp; try (with_reducible rfl))
  try simp only [Act.put, knop6, sA, sZ, sS]
  refine wpAnyH_take (i := 7) (oi := knop7) (v := ?t8v) rfl (by kernel_rfl) (by kernel_rfl) (by kernel_rfl) (fun c a w h => hP c _ _ a w h) (Or.inl ⟨by rfl, ?t8y⟩) (by assumption) ?t8r
  case t8y => (intro w hSw; (try dsimp only at hSw); have q1 := HC.s1; have q2 := HC.s2; have q3 := HC.kn; simp only [knop7]; go_simp; try (with_reducible rfl))
  try simp only [Act.put, knop7, sA, sZ, sS]
  refine wpAnyH_take (i := 8) (oi := knop8) (v := ?t9v) rfl (by kernel_rfl) (by kernel_rfl) (by kernel_rfl) (fun c a w h => hP c _ _ a w h) (Or.inl ⟨by rfl, ?t9y⟩) (by assumption) ?t9r
  case t9y => (intro w hSw; (try dsimp only at hSw); have q1 := HC.s1; have q2 := HC.s2; have q3 := HC.kn; simp only [knop8]; go_simp; try (with_reducible rfl))
  try simp only [Act.put, knop8, sA, sZ, sS]
  exact kn_00 hQ hP HC _ (below_drew (Below.refl _ _))
end
theorem EnvBlk.setV {w w1 : World} {B ga : Nat} {e : EnvD} {l : List Bool} {A : Option Addr} {c : Nat} (h : EnvBlk w B ga e) (hB : B ≤ w.heap.size) (hb : Below w.heap.size w w1) (ho : OwnL w1 w.heap.size 4 bcell ⟨l, A, c⟩) :
    EnvBlk (w1.setCell ⟨ga, 0, none⟩ (.slice A l.length c)) B ga ⟨⟨l, A, c⟩, e.fields, e.metaV, e.payload⟩ := by
  obtain ⟨⟨hv, hf, hx, hm, hp, ⟨vm, vp, mp, vf, mf, pf, xv, xm, xp, xf, xx⟩⟩, hk, ov, om, op, of, ox⟩ := h
  have pt : ∀ {t : TypeId} {α : Type} {cells : α → List Value} {y : L α}, OwnL w B t cells y → OffB ga y.v → OwnL (w1.setCell ⟨ga, 0, none⟩ (.slice A l.length c)) B t cells y := fun hy hof => (hy.below hb).far _ (fun e => hof ga e rfl)
  have pn : OwnL (w1.setCell ⟨ga, 0, none⟩ (.slice A l.length c)) B 4 bcell ⟨l, A, c⟩ := (ho.far _ (fun e => by have h1 := (ho.lt ga e).1; have h2 := hk.lt; omega)).lower hB
  refine ⟨⟨pn, pt hf of, fun x hx0 => pt (hx x hx0) (ox x hx0), pt hm om, pt hp op, ⟨fun b e1 e2 => by have h1 := (ho.lt b e1).1; have h2 := (hm.lt b e2).2; omega, fun b e1 e2 => by have h1 := (ho.lt b e1).1; have h2 := (hp.lt b e2).2; omega, mp, fun b e1 e2 => by have h1 := (ho.lt b e1).1; have h2 := (hf.lt b e2).2; omega, mf, pf, fun x hx0 b e1 e2 => by have h1 := (ho.lt b e2).1; have h2 := ((hx x hx0).lt b e1).2; omega, xm, xp, xf, xx⟩⟩, ?_, fun b e1 e2 => by have h1 := (ho.lt b e1).1; have h2 := hk.lt; omega, om, op, of, ox⟩
  have h1 := (hk.below hb hk.lt).set_ 0 (.slice A l.length c)
  have e2 : (envCells e).setIfInBounds 0 (.slice A l.length c) = envCells ⟨⟨l, A, c⟩, e.fields, e.metaV, e.payload⟩ := by simp [envCells]
  rw [e2] at h1
  exact h1
theorem EnvBlk.setM {w w1 : World} {B ga : Nat} {e : EnvD} {l : List Int} {A : Option Addr} {c : Nat} (h : EnvBlk w B ga e) (hB : B ≤ w.heap.size) (hb : Below w.heap.size w w1) (ho : OwnL w1 w.heap.size 83 ucell ⟨l, A, c⟩) :
    EnvBlk (w1.setCell ⟨ga, 2, none⟩ (.slice A l.length c)) B ga ⟨e.valid, e.fields, ⟨l, A, c⟩, e.payload⟩ := by
  obtain ⟨⟨hv, hf, hx, hm, hp, ⟨vm, vp, mp, vf, mf, pf, xv, xm, xp, xf, xx⟩⟩, hk, ov, om, op, of, ox⟩ := h
  have pt : ∀ {t : TypeId} {α : Type} {cells : α → List Value} {y : L α}, OwnL w B t cells y → OffB ga y.v → OwnL (w1.setCell ⟨ga, 2, none⟩ (.slice A l.length c)) B t cells y := fun hy hof => (hy.below hb).far _ (fun e => hof ga e rfl)
  have pn : OwnL (w1.setCell ⟨ga, 2, none⟩ (.slice A l.length c)) B 83 ucell ⟨l, A, c⟩ := (ho.far _ (fun e => by have h1 := (ho.lt ga e).1; have h2 := hk.lt; omega)).lower hB
  refine ⟨⟨pt hv ov, pt hf of, fun x hx0 => pt (hx x hx0) (ox x hx0), pn, pt hp op, ⟨fun b e1 e2 => by have h1 := (ho.lt b e2).1; have h2 := (hv.lt b e1).2; omega, vp, fun b e1 e2 => by have h1 := (ho.lt b e1).1; have h2 := (hp.lt b e2).2; omega, vf, fun b e1 e2 => by have h1 := (ho.lt b e1).1; have h2 := (hf.lt b e2).2; omega, pf, xv, fun x hx0 b e1 e2 => by have h1 := (ho.lt b e2).1; have h2 := ((hx x hx0).lt b e1).2; omega, xp, xf, xx⟩⟩, ?_, ov, fun b e1 e2 => by have h1 := (ho.lt b e1).1; have h2 := hk.lt; omega, op, of, ox⟩
  have h1 := (hk.below hb hk.lt).set_ 2 (.slice A l.length c)
  have e2 : (envCells e).setIfInBounds 2 (.slice A l.length c) = envCells ⟨e.valid, e.fields, ⟨l, A, c⟩, e.payload⟩ := by simp [envCells]
  rw [e2] at h1
  exact h1
theorem EnvBlk.setP {w w1 : World} {B ga : Nat} {e : EnvD} {l : List Int} {A : Option Addr} {c : Nat} (h : EnvBlk w B ga e) (hB : B ≤ w.heap.size) (hb : Below w.heap.size w w1) (ho : OwnL w1 w.heap.size 5 ycell ⟨l, A, c⟩) :
    EnvBlk (w1.setCell ⟨ga, 3, none⟩ (.slice A l.length c)) B ga ⟨e.valid, e.fields, e.metaV, ⟨l, A, c⟩⟩ := by
  obtain ⟨⟨hv, hf, hx, hm, hp, ⟨vm, vp, mp, vf, mf, pf, xv, xm, xp, xf, xx⟩⟩, hk, ov, om, op, of, ox⟩ := h
  have pt : ∀ {t : TypeId} {α : Type} {cells : α → List Value} {y : L α}, OwnL w B t cells y → OffB ga y.v → OwnL (w1.setCell ⟨ga, 3, none⟩ (.slice A l.length c)) B t cells y := fun hy hof => (hy.below hb).far _ (fun e => hof ga e rfl)
  have pn : OwnL (w1.setCell ⟨ga, 3, none⟩ (.slice A l.length c)) B 5 ycell ⟨l, A, c⟩ := (ho.far _ (fun e => by have h1 := (ho.lt ga e).1; have h2 := hk.lt; omega)).lower hB
  refine ⟨⟨pt hv ov, pt hf of, fun x hx0 => pt (hx x hx0) (ox x hx0), pt hm om, pn, ⟨vm, fun b e1 e2 => by have h1 := (ho.lt b e2).1; have h2 := (hv.lt b e1).2; omega, fun b e1 e2 => by have h1 := (ho.lt b e2).1; have h2 := (hm.lt b e1).2; omega, vf, mf, fun b e1 e2 => by have h1 := (ho.lt b e1).1; have h2 := (hf.lt b e2).2; omega, xv, xm, fun x hx0 b e1 e2 => by have h1 := (ho.lt b e2).1; have h2 := ((hx x hx0).lt b e1).2; omega, xf, xx⟩⟩, ?_, ov, om, fun b e1 e2 => by have h1 := (ho.lt b e1).1; have h2 := hk.lt; omega, of, ox⟩
  have h1 := (hk.below hb hk.lt).set_ 3 (.slice A l.length c)
  have e2 : (envCells e).setIfInBounds 3 (.slice A l.length c) = envCells ⟨e.valid, e.fields, e.metaV, ⟨l, A, c⟩⟩ := by simp [envCells]
  rw [e2] at h1
  exact h1
theorem EnvBlk.fresh (w : World) : EnvBlk (w.alloc (.cells #[.slice none 0 0, .slice none 0 0, .slice none 0 0, .slice none 0 0] 56)) w.heap.size w.heap.size ⟨⟨[], none, 0⟩, ⟨[], none, 0⟩, ⟨[], none, 0⟩, ⟨[], none, 0⟩⟩ :=
  ⟨⟨World.ownsRow_nil _ _ _ _, World.ownsRow_nil _ _ _ _, fun x h => (by cases h), World.ownsRow_nil _ _ _ _, World.ownsRow_nil _ _ _ _, ⟨fun b h => (by cases h), fun b h => (by cases h), fun b h => (by cases h), fun b h => (by cases h), fun b h => (by cases h), fun b h => (by cases h), fun x h => (by cases h), fun x h => (by cases h), fun x h => (by cases h), fun x h => (by cases h), .nil⟩⟩, Blk.new _ _ _, fun b h => (by cases h), fun b h => (by cases h), fun b h => (by cases h), fun b h => (by cases h), fun x h => (by cases h)⟩
theorem rclone_any (e : EnvD) (w : World) (o : EnvOk w e) (hf : EnvFit e.bare) :
    Calls Tryz.prog 111 #[.agg (envCells e)] w fun r w' => ∃ e', r = .returned (.agg (envCells e')) ∧ e'.bare = e.bare ∧ EnvMine w' w.heap.size e' ∧ Below w.heap.size w w' := by
  obtain ⟨W, hW⟩ : ∃ W, W = (w.alloc (.cells (envCells e) 56)).alloc (.cells #[.slice none 0 0, .slice none 0 0, .slice none 0 0, .slice none 0 0] 56) := ⟨_, rfl⟩
  have hw : Below w.heap.size w W := by rw [hW]; exact below2 _ _ _
  have HW := hi_ hw
  have HSz : Hid (W.heap.size = w.heap.size + 1 + 1) := hi_ (by rw [hW]; simp)
  have HP0 : Hid (Blk W w.heap.size 56 (envCells e)) := hi_ (by rw [hW]; exact (Blk.new _ _ _).alloc _)
  have HP1 : Hid (Blk W (w.heap.size + 1) 56 #[.slice none 0 0, .slice none 0 0, .slice none 0 0, .slice none 0 0]) := hi_ (by rw [hW]; simpa using Blk.new (w.alloc (.cells (envCells e) 56)) 56 #[.slice none 0 0, .slice none 0 0, .slice none 0 0, .slice none 0 0])
  have HA := hi_ (fun u (h : Below W.heap.size W u) => blk_cells' (n := 4) HP0.out u h)
  have HO := hi_ (fun u (h : Below W.heap.size W u) => o.below (below_step hw h))
  obtain ⟨⟨vl, vA, vc⟩, ⟨fl, fA, fc⟩, ⟨ml, mA, mc⟩, ⟨pl, pA, pc⟩⟩ := e
  have hfl : fl.length ≤ 1000 := by have := hf.fields; simpa [EnvD.bare] using this
  have hvl : vl.length ≤ 1000 := hf.valid
  have hml : ml.length ≤ 1000 := hf.metaV
  have hpl : pl.length ≤ 1000 := hf.payload
  have HF := hi_ hf
  clear o hf hw
  go_enter Tryz.func111, Tryz.ntmps111
  go_upto_region 1 with fail
  rw [← hW]
  clear hW
  refine Exists.elim (⟨_, rfl⟩ : ∃ V, V = W.alloc (.cells #[.slice none 0 0, .slice none 0 0, .slice none 0 0, .slice none 0 0] 56)) fun V hV => ?_
  have HK : Hid (EnvBlk V W.heap.size W.heap.size ⟨⟨[], none, 0⟩, ⟨[], none, 0⟩, ⟨[], none, 0⟩, ⟨[], none, 0⟩⟩) := hi_ (by rw [hV]; exact EnvBlk.fresh W)
  have HB : Hid (Below W.heap.size W V) := hi_ (by rw [hV]; exact below1 _ _)
  go_upto_region 2 with fail
  rw [← hV]
  clear hV
  have g0 : V.cell? ⟨W.heap.size, 0, none⟩ = some (.slice none 0 0) := HK.out.blk.cell 0
  have gf : V.frozen? ⟨W.heap.size, 0, none⟩ = false := HK.out.blk.frozen 0
  have a0 := HA.out V HB.out
  simp only [envCells] at a0
  obtain ⟨i0, hi, hz0, hz1, hz2⟩ := info_parts info_bool
  have hgl := HK.out.blk.lt
  have hxo := HO.out V HB.out
  go_wp2_with (first | (at_builtin; refine wpList_append_L rfl _ _ 51 rfl V.heap.size 4 i0 _ 1 1 Tryz.underlying51 hi hz0 hz1 hz2 rfl (by decide) _ _ _ rfl (World.ownsRow_nil _ _ _ _) ⟨vl, vA, vc⟩ rfl hxo.valid.1 hxo.valid.2 (fun _ => rfl) one_bcell ?c1 ?c2 ?c3 ?_))
  case c1 => unfold maxLen; omega
  case c2 => omega
  try (case c3 => exact Nat.le_refl _)
  intro v' w1 hown1 hgrow
  have HB1 : Hid (Below V.heap.size V w1) := hi_ (grown_below (World.ownsRow_nil V V.heap.size 4 1) hgrow (Nat.le_refl _))
  try simp only [Nat.zero_add, List.nil_append] at hown1
  obtain ⟨A1, c1, rfl, _⟩ := own_list (cells := bcell) (l := vl) (fun _ => rfl) hown1
  have HPo : Hid (OwnL w1 V.heap.size 4 bcell ⟨vl, A1, c1⟩) := hi_ hown1
  have g0' : w1.cell? ⟨W.heap.size, 0, none⟩ = some (.slice none 0 0) := (HK.out.blk.below HB1.out HK.out.blk.lt).cell 0
  have gf' := (HK.out.blk.below HB1.out HK.out.blk.lt).frozen 0
  clear hown1 hgrow g0 gf a0 hxo
  go_upto_region 3 with fail
  refine Exists.elim (⟨_, rfl⟩ : ∃ U, U = w1.setCell ⟨W.heap.size, 0, none⟩ (.slice A1 vl.length c1)) fun U1 hU => ?_
  have HKn := hi_ (HK.out.setV (HB.out.size) HB1.out HPo.out)
  have HBn : Hid (Below W.heap.size W U1) := hi_ (by rw [hU]; exact (below_step HB.out HB1.out).setCell (Nat.le_refl _) _)
  rw [← hU] at HKn ⊢
  clear hU g0' gf' HPo HK HB HB1 hgl hi hz0 hz1 hz2
  have HK := HKn
  have HB := HBn
  clear HKn HBn
  go_wp2
  go_loopw [4] (fun iv wr => ∃ (k : Nat) (lf : List (L Int)) (Af : Option Addr) (cf : Nat), k ≤ fl.length ∧ iv = .int .i64 k ∧ Hid (lf.map L.l = (fl.take k).map L.l) ∧ Hid (EnvBlk wr W.heap.size W.heap.size ⟨⟨vl, A1, c1⟩, ⟨lf, Af, cf⟩, ⟨[], none, 0⟩, ⟨[], none, 0⟩⟩) ∧ Below W.heap.size W wr) (fun i _ => fl.length - (intOf i).toNat)
  case atStart => exact ⟨0, [], none, 0, Nat.zero_le _, rfl, hi_ rfl, HK, HB.out⟩
  clear HK HB
  case round =>
  obtain ⟨k, lf, Af, cf, hk, rfl, HM, HK, HB⟩ := hrel
  have hp3 := HA.out wr HB
  by_cases hlt : k < fl.length
  case neg =>
    have e : k = fl.length := by omega
    have HMf : Hid (lf.map L.l = fl.map L.l) := hi_ (by rw [HM.out, e, List.take_length])
    replace HB := hi_ HB
    clear e HM
    go_upto_region 7 with fail
    clear hp3
    have g2 : wr.cell? ⟨W.heap.size, 2, none⟩ = some (.slice none 0 0) := HK.out.blk.cell 2
    have gf : wr.frozen? ⟨W.heap.size, 2, none⟩ = false := HK.out.blk.frozen 2
    have a2 := HA.out wr HB.out
    simp only [envCells] at a2
    obtain ⟨i0, hi, hz0, hz1, hz2⟩ := info_parts info_u32
    have hgl := HK.out.blk.lt
    have hxo := HO.out wr HB.out
    go_wp2_with (first | (at_builtin; refine wpList_append_L rfl _ _ 53 rfl wr.heap.size 83 i0 _ 1 4 Tryz.underlying53 hi hz0 hz1 hz2 rfl (by decide) _ _ _ rfl (World.ownsRow_nil _ _ _ _) ⟨ml, mA, mc⟩ rfl hxo.metaV.1 hxo.metaV.2 (fun _ => rfl) one_ucell ?c1 ?c2 ?c3 ?_))
    case c1 => unfold maxLen; omega
    case c2 => omega
    try (case c3 => exact Nat.le_refl _)
    intro v' w2 hown2 hgrow
    have HB2 : Hid (Below wr.heap.size wr w2) := hi_ (grown_below (World.ownsRow_nil wr wr.heap.size 83 1) hgrow (Nat.le_refl _))
    try simp only [Nat.zero_add, List.nil_append] at hown2
    obtain ⟨A2, c2, rfl, _⟩ := own_list (cells := ucell) (l := ml) (fun _ => rfl) hown2
    have HPo : Hid (OwnL w2 wr.heap.size 83 ucell ⟨ml, A2, c2⟩) := hi_ hown2
    have g2' : w2.cell? ⟨W.heap.size, 2, none⟩ = some (.slice none 0 0) := (HK.out.blk.below HB2.out HK.out.blk.lt).cell 2
    have gf' := (HK.out.blk.below HB2.out HK.out.blk.lt).frozen 2
    clear hown2 hgrow g2 gf a2 hxo
    go_upto_region 8 with fail
    refine Exists.elim (⟨_, rfl⟩ : ∃ U, U = w2.setCell ⟨W.heap.size, 2, none⟩ (.slice A2 ml.length c2)) fun U2 hU => ?_
    have HKn := hi_ (HK.out.setM (HB.out.size) HB2.out HPo.out)
    have HBn : Hid (Below W.heap.size W U2) := hi_ (by rw [hU]; exact (below_step HB.out HB2.out).setCell (Nat.le_refl _) _)
    rw [← hU] at HKn ⊢
    clear hU g2' gf' HPo HK HB HB2 hgl hi hz0 hz1 hz2
    have HK := HKn
    have HB := HBn
    clear HKn HBn
    have g3 : U2.cell? ⟨W.heap.size, 3, none⟩ = some (.slice none 0 0) := HK.out.blk.cell 3
    have gf : U2.frozen? ⟨W.heap.size, 3, none⟩ = false := HK.out.blk.frozen 3
    have a3 := HA.out U2 HB.out
    simp only [envCells] at a3
    obtain ⟨i0, hi, hz0, hz1, hz2⟩ := info_parts info_u8
    have hgl := HK.out.blk.lt
    have hxo := HO.out U2 HB.out
    go_wp2_with (first | (at_builtin; refine wpList_append_L rfl _ _ 54 rfl U2.heap.size 5 i0 _ 1 1 Tryz.underlying54 hi hz0 hz1 hz2 rfl (by decide) _ _ _ rfl (World.ownsRow_nil _ _ _ _) ⟨pl, pA, pc⟩ rfl hxo.payload.1 hxo.payload.2 (fun _ => rfl) one_ycell ?c1 ?c2 ?c3 ?_))
    case c1 => unfold maxLen; omega
    case c2 => omega
    try (case c3 => exact Nat.le_refl _)
    intro v' w3 hown3 hgrow
    have HB3 : Hid (Below U2.heap.size U2 w3) := hi_ (grown_below (World.ownsRow_nil U2 U2.heap.size 5 1) hgrow (Nat.le_refl _))
    try simp only [Nat.zero_add, List.nil_append] at hown3
    obtain ⟨A3, c3, rfl, _⟩ := own_list (cells := ycell) (l := pl) (fun _ => rfl) hown3
    have HPo : Hid (OwnL w3 U2.heap.size 5 ycell ⟨pl, A3, c3⟩) := hi_ hown3
    have g3' : w3.cell? ⟨W.heap.size, 3, none⟩ = some (.slice none 0 0) := (HK.out.blk.below HB3.out HK.out.blk.lt).cell 3
    have gf' := (HK.out.blk.below HB3.out HK.out.blk.lt).frozen 3
    clear hown3 hgrow g3 gf a3 hxo
    go_upto_region 9 with fail
    refine Exists.elim (⟨_, rfl⟩ : ∃ U, U = w3.setCell ⟨W.heap.size, 3, none⟩ (.slice A3 pl.length c3)) fun U3 hU => ?_
    have HKn := hi_ (HK.out.setP (HB.out.size) HB3.out HPo.out)
    have HBn : Hid (Below W.heap.size W U3) := hi_ (by rw [hU]; exact (below_step HB.out HB3.out).setCell (Nat.le_refl _) _)
    rw [← hU] at HKn ⊢
    clear hU g3' gf' HPo HK HB HB3 hgl hi hz0 hz1 hz2
    have HK := HKn
    have HB := HBn
    clear HKn HBn
    have k0 : U3.cell? ⟨W.heap.size, 0, none⟩ = some (.slice A1 vl.length c1) := HK.out.blk.cell 0
    have k1 : U3.cell? ⟨W.heap.size, 1, none⟩ = some (.slice Af lf.length cf) := HK.out.blk.cell 1
    have k2 : U3.cell? ⟨W.heap.size, 2, none⟩ = some (.slice A2 ml.length c2) := HK.out.blk.cell 2
    have k3 : U3.cell? ⟨W.heap.size, 3, none⟩ = some (.slice A3 pl.length c3) := HK.out.blk.cell 3
    have HZ : Hid (Blk U3 (w.heap.size + 1) 56 #[.slice none 0 0, .slice none 0 0, .slice none 0 0, .slice none 0 0]) := hi_ (HP1.out.below HB.out HP1.out.lt)
    have z0 : U3.cell? ⟨w.heap.size + 1, 0, none⟩ = some (.slice none 0 0) := HZ.out.cell 0
    have z1 : U3.cell? ⟨w.heap.size + 1, 1, none⟩ = some (.slice none 0 0) := HZ.out.cell 1
    have z2 : U3.cell? ⟨w.heap.size + 1, 2, none⟩ = some (.slice none 0 0) := HZ.out.cell 2
    have z3 : U3.cell? ⟨w.heap.size + 1, 3, none⟩ = some (.slice none 0 0) := HZ.out.cell 3
    have zf : ∀ j, U3.frozen? ⟨w.heap.size + 1, j, none⟩ = false := fun j => HZ.out.frozen j
    go_wp2
    try rw [Exit.noGoto_ret]
    try simp only [Exit.jump]
    refine bodyPost_ret (v := .agg #[.slice A1 vl.length c1, .slice Af lf.length cf, .slice A2 ml.length c2, .slice A3 pl.length c3]) ?_ rfl ?_
    · refine results_cell_row (fn := Tryz.f111) (p := 2) (ty := 56) rfl _ _ (w.heap.size + 1) 56 #[.slice A1 vl.length c1, .slice Af lf.length cf, .slice A2 ml.length c2, .slice A3 pl.length c3] (0, 0) _ rfl ?_ Tryz.underlying56 rfl (by kernel_rfl)
      exact (((HZ.out.set_ 0 _).set_ 1 _).set_ 2 _).set_ 3 _
    · have hsz := HSz.out
      have hle : w.heap.size ≤ w.heap.size + 1 := by omega
      have hput : ∀ {t : TypeId} {α : Type} {cells : α → List Value} {y : L α} (a b c d : Value), OwnL U3 W.heap.size t cells y → OwnL ((((U3.setCell ⟨w.heap.size + 1, 0, none⟩ a).setCell ⟨w.heap.size + 1, 1, none⟩ b).setCell ⟨w.heap.size + 1, 2, none⟩ c).setCell ⟨w.heap.size + 1, 3, none⟩ d) w.heap.size t cells y := fun {t α cells y} a b c d h => by
        exact (h.four (fun q e1 e2 => by have := (h.lt q e1).1; omega) a b c d).lower (by omega)
      refine ⟨⟨⟨vl, A1, c1⟩, ⟨lf, Af, cf⟩, ⟨ml, A2, c2⟩, ⟨pl, A3, c3⟩⟩, rfl, ?_, ⟨hput _ _ _ _ HK.out.env.valid, hput _ _ _ _ HK.out.env.fields, fun x hx => hput _ _ _ _ (HK.out.env.each x hx), hput _ _ _ _ HK.out.env.metaV, hput _ _ _ _ HK.out.env.payload, HK.out.env.apt⟩, ((((below_step HW.out HB.out).setCell hle _).setCell hle _).setCell hle _).setCell hle _⟩
      simp only [EnvD.bare, HMf.out]
  obtain ⟨g0, of0, hA, d0⟩ := lcell_atA (HO.out W (Below.refl _ _)).fields.1 hlt
  simp only at hA d0
  have hg0 : g0 < W.heap.size := World.block_lt_of_cell? W _ (d0 W (Below.refl _ _))
  have d1 := d0 wr HB
  have HXo := hi_ (fun u (h : Below wr.heap.size wr u) => (HO.out u (below_step HB h)).each fl[k] (List.getElem_mem hlt))
  have hxl : fl[k].l.length ≤ 1000 := HF.out.each _ (List.mem_map_of_mem (List.getElem_mem hlt))
  have HT : Hid ((fl.take (k + 1)).map L.l = (fl.take k).map L.l ++ [fl[k].l]) := hi_ (by rw [List.take_succ_eq_append_getElem hlt, List.map_append]; rfl)
  have HD : Hid (∀ u, Below W.heap.size wr u → u.cell? ⟨g0, of0 + k, none⟩ = some (.slice fl[k].A fl[k].l.length fl[k].c)) := hi_ (fun u hu => (hu.cell hg0).trans d1)
  have HE : Hid (∀ u, Below W.heap.size wr u → u.cell? ⟨w.heap.size, 1, none⟩ = some (.slice fA fl.length fc)) := hi_ (fun u hu => (hu.cell (by exact HP0.out.lt)).trans ((HP0.out.below HB HP0.out.lt).cell 1))
  subst hA
  clear d0
  generalize fl[k] = x at *
  obtain ⟨xl, xA, xc⟩ := x
  simp only at d1 HXo hxl HT HD
  have hlf : lf.length = k := by have := congrArg List.length HM.out; simp at this; omega
  have HC5 : Hid (KcHyp wr W.heap.size W.heap.size w.heap.size g0 of0 k fl.length fc xl xA xc lf Af cf) := Lib.hid
    ⟨fun u h => (HK.out.blk.below h HK.out.blk.lt).cell 1, HK.out.blk.lt, fun u h => (HK.out.blk.below h HK.out.blk.lt).frozen 1, HE.out, HD.out, by omega, fun u h => HXo.out u h, fun u h => HK.out.env.fields.below h, HK.out.of, hxl, by omega, HB.size, Nat.le_refl _⟩
  have HBr := hi_ HB
  clear HB hlf hxl HXo HD HE hg0
  go_upto_region 6 with fail
  clear d1 hp3
  refine kc_region HC5.out (fun _ d _ _ _ h => by cases d <;> exact h) ?_
  rintro wm wz q0 q2 B1 b1 g cap hbm o1 hgr hrow hat hlt2
  have HKn := hi_ (HK.out.more HBr.out.size hbm o1 hgr hrow hat)
  have HMn : Hid ((lf ++ [(⟨xl, B1, b1⟩ : L Int)]).map L.l = (fl.take (k + 1)).map L.l) := hi_ (by rw [List.map_append, HM.out, HT.out]; rfl)
  have HBn : Hid (Below W.heap.size W (wz.setCell ⟨W.heap.size, 1, none⟩ (.slice (some ⟨g, 0, none⟩) (lf.length + 1) cap))) := Lib.hid
    ((((HBr.out.trans (hbm.mono HBr.out.size)).grown hgr (Nat.le_trans HBr.out.size hbm.size) (fun j e => ((HC5.out.of wm hbm).lt j e).1)).setCell (Nat.le_refl _) _))
  clear hbm o1 hgr hrow hat hlt2 HK HM HBr HC5
  go_wp2
  go_roundw
  case rel => exact ⟨k + 1, _, _, _, by omega, by go_num, HMn, by simpa using HKn, HBn.out⟩
  case measure => simp [intOf]; omega
theorem rnew_any (p : ProgD) (w : World) (o : ProgOk w p) (hs : AccSm p) :
    Calls Tryz.prog 73 #[.agg (progCells p)] w fun r w' => ∃ e', r = .returned (.agg (envCells e')) ∧ e'.bare = newE p ∧ EnvMine w' w.heap.size e' ∧ e'.payload = ⟨[], none, 0⟩ ∧ Below w.heap.size w w' := by
  obtain ⟨W, hW⟩ : ∃ W, W = (w.alloc (.cells (progCells p) 31)).alloc (.cells #[.slice none 0 0, .slice none 0 0, .slice none 0 0, .slice none 0 0] 56) := ⟨_, rfl⟩
  have hw : Below w.heap.size w W := by rw [hW]; exact below2 _ _ _
  have HW := hi_ hw
  have HSz : Hid (W.heap.size = w.heap.size + 1 + 1) := hi_ (by rw [hW]; simp)
  have HP : Hid (Blk W w.heap.size 31 (progCells p)) := hi_ (by rw [hW]; exact (Blk.new _ _ _).alloc _)
  have HZ0 : Hid (Blk W (w.heap.size + 1) 56 #[.slice none 0 0, .slice none 0 0, .slice none 0 0, .slice none 0 0]) := hi_ (by rw [hW]; simpa using Blk.new (w.alloc (.cells (progCells p) 31)) 56 #[.slice none 0 0, .slice none 0 0, .slice none 0 0, .slice none 0 0])
  have HO := hi_ (o.headers.below hw (Nat.le_refl _))
  have hH := hs.headers
  have hM := hs.metadata
  have HFS := hi_ hs.fields
  have HF : Hid (∀ k (h : k < p.headers.l.length), nF p k = p.headers.l[k].fields.l.length) := hi_ (fun k h => nF_at h)
  have HS1 : Hid (∀ u, Below W.heap.size W u → u.cell? ⟨w.heap.size, 1, none⟩ = some (.slice p.headers.A p.headers.l.length p.headers.c)) := hi_ (fun u h => (HP.out.below h HP.out.lt).cell 1)
  have HS2 : Hid (∀ u, Below W.heap.size W u → u.cell? ⟨w.heap.size, 2, none⟩ = some (.slice p.metadata.A p.metadata.l.length p.metadata.c)) := hi_ (fun u h => (HP.out.below h HP.out.lt).cell 2)
  clear o hs hw
  obtain ⟨hn, hhn⟩ : ∃ hn, hn = p.headers.l.length := ⟨_, rfl⟩
  obtain ⟨mn, hmn⟩ : ∃ mn, mn = p.metadata.l.length := ⟨_, rfl⟩
  have HHn := hi_ hhn
  have HMn := hi_ hmn
  rw [← hhn] at HS1 hH
  rw [← hmn] at HS2 hM
  clear hhn hmn
  go_enter Tryz.func73, Tryz.ntmps73
  go_upto_region 1 with fail
  rw [← hW]
  clear hW
  refine Exists.elim (⟨_, rfl⟩ : ∃ V, V = W.alloc (.cells #[.slice none 0 0, .slice none 0 0, .slice none 0 0, .slice none 0 0] 56)) fun V hV => ?_
  have HK0 : Hid (EnvBlk V W.heap.size W.heap.size ⟨⟨[], none, 0⟩, ⟨[], none, 0⟩, ⟨[], none, 0⟩, ⟨[], none, 0⟩⟩) := hi_ (by rw [hV]; exact EnvBlk.fresh W)
  have HB0 : Hid (Below W.heap.size W V) := hi_ (by rw [hV]; exact below1 _ _)
  go_upto_region 2 with fail
  rw [← hV]
  clear hV
  have g1 : V.cell? ⟨w.heap.size, 1, none⟩ = some (.slice p.headers.A hn p.headers.c) := HS1.out V HB0.out
  obtain ⟨i0, hi, hz0, hz1, hz2⟩ := info_parts info_bool
  obtain ⟨w1, hrun, hrow, hgr⟩ := run_make_full (P := Tryz.prog) (w := V) V.heap.size 51 4 i0 _ 1 Tryz.underlying51 hi hz0 hz1 .i64 .i64 hn (by rw [hz2]; omega) (by unfold maxLen; omega) (Nat.le_refl _)
  have HO1 : Hid (OwnL w1 V.heap.size 4 bcell (⟨List.replicate hn false, some ⟨V.heap.size, 0, none⟩, hn⟩ : L Bool)) := hi_ (by
    rw [made_false] at hrow
    unfold OwnL
    simp only [L.v, List.length_replicate]
    exact hrow)
  have hb1 := below_none hgr
  have HB1 := hi_ hb1
  have HK1 := hi_ (HK0.out.below hb1)
  have k10 : w1.cell? ⟨W.heap.size, 0, none⟩ = some (.slice none 0 0) := HK1.out.blk.cell 0
  have k1f : w1.frozen? ⟨W.heap.size, 0, none⟩ = false := HK1.out.blk.frozen 0
  go_upto_region 3 with fail
  refine Exists.elim (⟨_, rfl⟩ : ∃ U, U = w1.setCell ⟨W.heap.size, 0, none⟩ (.slice (some ⟨V.heap.size, 0, none⟩) hn hn)) fun U hU => ?_
  have HK : Hid (EnvBlk U W.heap.size W.heap.size ⟨⟨List.replicate hn false, some ⟨V.heap.size, 0, none⟩, hn⟩, ⟨[], none, 0⟩, ⟨[], none, 0⟩, ⟨[], none, 0⟩⟩) := hi_ (by
    rw [hU]
    have h9 := HK0.out.setV (HB0.out.size) HB1.out HO1.out
    simpa using h9)
  have HB : Hid (Below W.heap.size W U) := hi_ (by rw [hU]; exact (below_step HB0.out HB1.out).setCell (Nat.le_refl _) _)
  rw [← hU]
  have HgV : Hid (W.heap.size < V.heap.size) := hi_ HK0.out.blk.lt
  generalize V.heap.size = gv at *
  clear hU k10 k1f hrun hrow hgr hb1 HO1 HB1 HK1 HK0 HB0 g1 hi hz0 hz1 hz2
  have s1 := HS1.out U HB.out
  go_wp2
  clear s1
  go_loopw [4] (fun iv wr => ∃ (k : Nat) (lf : List (L Int)) (Af : Option Addr) (cf : Nat), k ≤ hn ∧ iv = .int .i64 k ∧ Hid (lf.map L.l = (List.range k).map (fun i => List.replicate (nF p i) (0 : Int))) ∧ Hid (EnvBlk wr W.heap.size W.heap.size ⟨⟨List.replicate hn false, some ⟨gv, 0, none⟩, hn⟩, ⟨lf, Af, cf⟩, ⟨[], none, 0⟩, ⟨[], none, 0⟩⟩) ∧ Below W.heap.size W wr) (fun i _ => hn - (intOf i).toNat)
  case atStart => exact ⟨0, [], none, 0, Nat.zero_le _, rfl, hi_ rfl, HK, HB.out⟩
  clear HK HB
  case round =>
  obtain ⟨k, lf, Af, cf, hk, rfl, HM, HK, HB⟩ := hrel
  have hlf : lf.length = k := by have := congrArg List.length HM.out; simpa using this
  by_cases hlt : k < hn
  case pos =>
    have hlk : k < p.headers.l.length := by rw [← HHn.out]; exact hlt
    obtain ⟨g0, of0, hA, hall⟩ := HeaderD.atA HO.out hlk
    have hd1 := fun u (h : Below W.heap.size W u) => (hall u h).2
    have hn1 := HF.out k hlk
    have hn2 : nF p k ≤ 100 := HFS.out k
    rw [← hn1] at hd1
    obtain ⟨n, hnn⟩ : ∃ n, n = nF p k := ⟨_, rfl⟩
    rw [← hnn] at hd1 hn2
    have HNn := hi_ hnn
    have hg0 : g0 < W.heap.size := World.block_lt_of_cell? W _ (hd1 W (Below.refl _ _))
    have hm0 : p.headers.l.length ≤ 1000 := by rw [← HHn.out]; omega
    have HC : Hid (KnHyp wr W.heap.size W.heap.size w.heap.size g0 of0 k hn p.headers.c n p.headers.l[k].fields.A p.headers.l[k].fields.c lf Af cf) := Lib.hid
      ⟨fun u h => (HK.out.blk.below h HK.out.blk.lt).cell 1, HK.out.blk.lt, fun u h => (HK.out.blk.below h HK.out.blk.lt).frozen 1,
        fun u h => by rw [← hA]; exact (h.cell (by have := HP.out.lt; omega)).trans (HS1.out wr HB),
        fun u h => (h.cell hg0).trans (hd1 wr HB), by omega, fun u h => HK.out.env.fields.below h, HK.out.of, by omega, by omega, HB.size, Nat.le_refl _⟩
    have s1 := HS1.out wr HB
    have HBr := hi_ HB
    have HT : Hid ((List.range (k + 1)).map (fun i => List.replicate (nF p i) (0 : Int)) = (List.range k).map (fun i => List.replicate (nF p i) (0 : Int)) ++ [List.replicate n 0]) := hi_ (by rw [List.range_succ, List.map_append, hnn]; rfl)
    rw [hA] at s1
    clear hnn hall hd1 hn1 hA hg0 HB hm0 hlf
    go_upto_region 6 with fail
    clear s1
    refine kn_region HC.out (fun _ d _ _ _ h => by cases d <;> exact h) ?_
    rintro wm wz q2 B1 b1 g cap hbm o1 hgr hrow hat hlt2
    have HKn : Hid (EnvBlk (wz.setCell ⟨W.heap.size, 1, none⟩ (.slice (some ⟨g, 0, none⟩) (lf.length + 1) cap)) W.heap.size W.heap.size _) := hi_ (HK.out.more HBr.out.size hbm o1 hgr (by simpa using hrow) hat)
    have HMn : Hid ((lf ++ [(⟨List.replicate n 0, B1, b1⟩ : L Int)]).map L.l = (List.range (k + 1)).map (fun i => List.replicate (nF p i) (0 : Int))) := hi_ (by rw [List.map_append, HM.out, HT.out]; rfl)
    have HBn : Hid (Below W.heap.size W (wz.setCell ⟨W.heap.size, 1, none⟩ (.slice (some ⟨g, 0, none⟩) (lf.length + 1) cap))) := Lib.hid
      ((((HBr.out.trans (hbm.mono HBr.out.size)).grown hgr (Nat.le_trans HBr.out.size hbm.size) (fun j e => ((HC.out.of wm hbm).lt j e).1)).setCell (Nat.le_refl _) _))
    clear hbm o1 hgr hrow hat hlt2 HK HM HBr HC
    go_wp2
    go_roundw
    case rel => exact ⟨k + 1, _, _, _, by omega, by go_num, HMn, by simpa using HKn, HBn.out⟩
    case measure => simp [intOf]; omega
  have HBs := hi_ HB
  have s1 := HS1.out wr HB
  have s2 := HS2.out wr HB
  have hkn : k = hn := by omega
  subst hkn
  obtain ⟨i0, hi, hz0, hz1, hz2⟩ := info_parts info_u32
  obtain ⟨w1, hrun, hrow, hgr⟩ := run_make_full (P := Tryz.prog) (w := wr) wr.heap.size 53 83 i0 _ 1 Tryz.underlying53 hi hz0 hz1 .i64 .i64 mn (by rw [hz2]; omega) (by unfold maxLen; omega) (Nat.le_refl _)
  have HO1 : Hid (OwnL w1 wr.heap.size 83 ucell (⟨List.replicate mn (0 : Int), some ⟨wr.heap.size, 0, none⟩, mn⟩ : L Int)) := hi_ (by
    rw [made_zero3] at hrow
    unfold OwnL
    simp only [L.v, List.length_replicate]
    exact hrow)
  have hb1 := below_none hgr
  have HB1 := hi_ hb1
  have HK1 := hi_ (HK.out.below hb1)
  have k12 : w1.cell? ⟨W.heap.size, 2, none⟩ = some (.slice none 0 0) := HK1.out.blk.cell 2
  have k1f : w1.frozen? ⟨W.heap.size, 2, none⟩ = false := HK1.out.blk.frozen 2
  clear HB
  go_upto_region 8 with fail
  refine Exists.elim (⟨_, rfl⟩ : ∃ U, U = w1.setCell ⟨W.heap.size, 2, none⟩ (.slice (some ⟨wr.heap.size, 0, none⟩) mn mn)) fun U2 hU => ?_
  have HKn : Hid (EnvBlk U2 W.heap.size W.heap.size ⟨⟨List.replicate k false, some ⟨gv, 0, none⟩, k⟩, ⟨lf, Af, cf⟩, ⟨List.replicate mn 0, some ⟨wr.heap.size, 0, none⟩, mn⟩, ⟨[], none, 0⟩⟩) := hi_ (by
    rw [hU]
    have h9 := HK.out.setM (HBs.out.size) HB1.out HO1.out
    simpa using h9)
  have HB : Hid (Below W.heap.size W U2) := hi_ (by rw [hU]; exact (below_step HBs.out HB1.out).setCell (Nat.le_refl _) _)
  rw [← hU]
  generalize wr.heap.size = gm at *
  clear hU k12 k1f hrun hrow hgr hb1 HO1 HB1 HK1 HK HBs s1 s2 hi hz0 hz1 hz2
  have k0 : U2.cell? ⟨W.heap.size, 0, none⟩ = some (.slice (some ⟨gv, 0, none⟩) k k) := by have := HKn.out.blk.cell 0; simpa [envCells] using this
  have k1 : U2.cell? ⟨W.heap.size, 1, none⟩ = some (.slice Af lf.length cf) := HKn.out.blk.cell 1
  have k2 : U2.cell? ⟨W.heap.size, 2, none⟩ = some (.slice (some ⟨gm, 0, none⟩) mn mn) := by have := HKn.out.blk.cell 2; simpa [envCells] using this
  have k3 : U2.cell? ⟨W.heap.size, 3, none⟩ = some (.slice none 0 0) := HKn.out.blk.cell 3
  have HZ : Hid (Blk U2 (w.heap.size + 1) 56 #[.slice none 0 0, .slice none 0 0, .slice none 0 0, .slice none 0 0]) := hi_ (HZ0.out.below HB.out HZ0.out.lt)
  have z0 : U2.cell? ⟨w.heap.size + 1, 0, none⟩ = some (.slice none 0 0) := HZ.out.cell 0
  have z1 : U2.cell? ⟨w.heap.size + 1, 1, none⟩ = some (.slice none 0 0) := HZ.out.cell 1
  have z2 : U2.cell? ⟨w.heap.size + 1, 2, none⟩ = some (.slice none 0 0) := HZ.out.cell 2
  have z3 : U2.cell? ⟨w.heap.size + 1, 3, none⟩ = some (.slice none 0 0) := HZ.out.cell 3
  have zf : ∀ j, U2.frozen? ⟨w.heap.size + 1, j, none⟩ = false := fun j => HZ.out.frozen j
  have HLf := hi_ hlf
  clear hlf
  go_wp2
  try rw [Exit.noGoto_ret]
  try simp only [Exit.jump]
  refine bodyPost_ret (v := .agg #[.slice (some ⟨gv, 0, none⟩) k k, .slice Af lf.length cf, .slice (some ⟨gm, 0, none⟩) mn mn, .slice none 0 0]) ?_ rfl ?_
  · refine results_cell_row (fn := Tryz.f73) (p := 2) (ty := 56) rfl _ _ (w.heap.size + 1) 56 #[.slice (some ⟨gv, 0, none⟩) k k, .slice Af lf.length cf, .slice (some ⟨gm, 0, none⟩) mn mn, .slice none 0 0] (0, 0) _ rfl ?_ Tryz.underlying56 rfl (by kernel_rfl)
    exact (((HZ.out.set_ 0 _).set_ 1 _).set_ 2 _).set_ 3 _
  · have hsz := HSz.out
    have hle : w.heap.size ≤ w.heap.size + 1 := by omega
    have hput : ∀ {t : TypeId} {α : Type} {cells : α → List Value} {y : L α} (a b c d : Value), OwnL U2 W.heap.size t cells y → OwnL ((((U2.setCell ⟨w.heap.size + 1, 0, none⟩ a).setCell ⟨w.heap.size + 1, 1, none⟩ b).setCell ⟨w.heap.size + 1, 2, none⟩ c).setCell ⟨w.heap.size + 1, 3, none⟩ d) w.heap.size t cells y := fun {t α cells y} a b c d h => by
      exact (h.four (fun q e1 e2 => by have := (h.lt q e1).1; omega) a b c d).lower (by omega)
    refine ⟨⟨⟨List.replicate k false, some ⟨gv, 0, none⟩, k⟩, ⟨lf, Af, cf⟩, ⟨List.replicate mn 0, some ⟨gm, 0, none⟩, mn⟩, ⟨[], none, 0⟩⟩, by simp [envCells], ?_, ⟨hput _ _ _ _ HKn.out.env.valid, hput _ _ _ _ HKn.out.env.fields, fun x hx => hput _ _ _ _ (HKn.out.env.each x hx), hput _ _ _ _ HKn.out.env.metaV, hput _ _ _ _ HKn.out.env.payload, HKn.out.env.apt⟩, rfl, ((((below_step HW.out HB.out).setCell hle _).setCell hle _).setCell hle _).setCell hle _⟩
    unfold newE stateE EnvD.bare
    rw [← HHn.out, ← HMn.out]
    simp only [HM.out]
    congr 1
    · refine List.ext_getElem? fun i => ?_
      rw [List.getElem?_replicate, List.getElem?_map]
      by_cases hi : i < k <;> simp [hi]
    · refine List.map_congr_left fun i hi => ?_
      refine List.ext_getElem? fun j => ?_
      rw [List.getElem?_replicate, List.getElem?_map]
      by_cases hj : j < nF p i <;> simp [hj]
    · refine List.ext_getElem? fun i => ?_
      rw [List.getElem?_replicate, List.getElem?_map]
      by_cases hi : i < mn <;> simp [hi]
theorem mod_and {v n : Int} (h0 : 0 ≤ v) (h1 : v ≤ 4294967295) (hn : okW n = true) : (((v.toNat % 2 ^ n.toNat : Nat) : Int)) = bits .and .u32 v (maskM n) := by
  have hr : 1 ≤ n ∧ n ≤ 32 := by simpa [okW] using hn
  obtain ⟨m, rfl⟩ : ∃ m : Nat, n = m := ⟨n.toNat, by omega⟩
  obtain ⟨k, rfl⟩ : ∃ k : Nat, v = k := ⟨v.toNat, by omega⟩
  have hm : maskM (m : Int) = 2 ^ m - 1 := by rw [maskM, if_pos hn]; rfl
  have hp : 0 < 2 ^ m := Nat.pow_pos (by decide)
  rw [hm, bits_and32]
  congr 1
  simp only [Int.toNat_natCast]
  rw [← Nat.and_two_pow_sub_one_eq_mod]
  refine Nat.eq_of_testBit_eq fun i => ?_
  rw [BitVec.testBit_toNat, BitVec.getLsbD_and, bv_get, bv_get, Nat.testBit_and, Nat.testBit_two_pow_sub_one]
  by_cases hi : i < 32
  · simp [hi]
  · have h2 : k.testBit i = false := Nat.testBit_lt_two_pow (Nat.lt_of_lt_of_le (show k < 2 ^ 32 by omega) (Nat.pow_le_pow_right (by decide) (by omega)))
    simp [h2]
theorem rmodulo_any (v n : Int) (h0 : 0 ≤ v) (h1 : v ≤ 4294967295) (hn : okW n = true) (w : World) :
    Calls Tryz.prog 115 #[.int .u32 v, .int .i64 n] w fun e w' => e = .returned (.int .u32 (bits .and .u32 v (maskM n))) ∧ w = w' := by
  have HM := hi_ (mod_and h0 h1 hn)
  have hr : 1 ≤ n ∧ n ≤ 32 := by simpa [okW] using hn
  obtain ⟨m, rfl⟩ : ∃ m : Nat, n = m := ⟨n.toNat, by omega⟩
  obtain ⟨k0, rfl⟩ : ∃ k : Nat, v = k := ⟨v.toNat, by omega⟩
  simp only [Int.toNat_natCast] at HM
  clear hn h0
  go_enter Tryz.func115, Tryz.ntmps115
  go_wp2
  go_loop [5, 6] (fun v i => ∃ k x : Nat, k ≤ m ∧ i = .int .i64 k ∧ v = .int .u64 x ∧ Hid (x = 2 ^ k)) (fun _ i => m - (intOf i).toNat)
  case atStart => exact ⟨0, 1, Nat.zero_le _, rfl, rfl, hi_ rfl⟩
  case round =>
  obtain ⟨k, x, hk, rfl, rfl, hx⟩ := hrel
  by_cases hlt : k < m
  · have HX : Hid (2 * x = 2 ^ (k + 1) ∧ 2 * x ≤ 1099511627776) := hi_ (by
      have h1 : 2 * x = 2 ^ (k + 1) := by rw [hx.out, Nat.pow_succ, Nat.mul_comm]
      exact ⟨h1, by rw [h1]; exact pow_le40 (by omega)⟩)
    go_wp2
    go_round
    case rel => exact ⟨k + 1, 2 * x, by omega, by go_num, by
      have h2 := HX.out.2
      refine congrArg (Value.int .u64) ?_
      rw [IntWalk.u64_in _ (by omega)]; rfl, hi_ HX.out.1⟩
    case measure => simp [intOf]; omega
  · have e : k = m := by omega
    subst e
    have hxp : 0 < x := by rw [hx.out]; exact Nat.pow_pos (by decide)
    have hx0 : ((x : Int) == 0) = false := by simp; omega
    have hlx : k0 % x ≤ k0 := Nat.mod_le _ _
    have HMx : Hid (((k0 % x : Nat) : Int) = bits .and .u32 k0 (maskM k)) := hi_ (by rw [hx.out]; exact HM.out)
    go_wp2
    go_ret
    refine ⟨?_, rfl⟩
    rw [← HMx.out]
    congr 2
    first
      | done
      | (rw [IntWalk.u64_in _ (by omega)]; first | rfl | (rw [show (k0 : Int).tmod (x : Int) = ((k0 % x : Nat) : Int) from rfl]; first | done | (rw [IntWalk.u64_in _ (by omega)]) | skip))
theorem rhas_any (e : EnvD) (k : Nat) (w : World) (o : EnvOk w e) :
    Calls Tryz.prog 114 #[.agg (envCells e), .int .i64 k] w fun r w' => r = .returned (.bool (atB e.valid k)) ∧ Below w.heap.size w w' := by
  obtain ⟨W, hW, hw, HB, hp⟩ := box1 w (envCells e) 56
  have HW := hi_ hw
  have HO := hi_ (o.below hw)
  have s0 : W.cell? ⟨w.heap.size, 0, none⟩ = some (.slice e.valid.A e.valid.l.length e.valid.c) := hp W HB 0 (by show (0 : Nat) < 4; decide)
  have h0 : (0 : Int) ≤ (k : Int) := by omega
  clear o hw
  by_cases hk : k < e.valid.l.length
  · have hk' : (k : Int) < (e.valid.l.length : Int) := by omega
    obtain ⟨g, of, hA, d0⟩ := bcell_atA HO.out.valid.1 hk
    have d1 := d0 W (Below.refl _ _)
    have HR : Hid (atB e.valid k = e.valid.l[k]) := hi_ (by rw [atB, if_neg (by omega)]; simp [hk])
    rw [hA] at s0
    generalize e.valid.l[k] = b at *
    clear d0 hp hA
    go_enter Tryz.func114, Tryz.ntmps114
    go_upto_region 1 with fail
    rw [← hW]
    clear hW
    go_wp2
    go_ret
    exact ⟨by rw [HR.out]; rfl, below_step HW.out HB⟩
  · have hk' : ¬ (k : Int) < (e.valid.l.length : Int) := by omega
    have HR : Hid (atB e.valid k = false) := hi_ (by rw [atB, if_neg (by omega)]; simp; rw [List.getElem?_eq_none (by omega)]; rfl)
    clear hp
    go_enter Tryz.func114, Tryz.ntmps114
    go_upto_region 1 with fail
    rw [← hW]
    clear hW
    go_wp2
    go_ret
    exact ⟨by rw [HR.out]; rfl, below_step HW.out HB⟩
theorem relem_meta (e : EnvD) (f : Nat) (w : World) :
    Calls Tryz.prog 113 #[.agg (envCells e), .agg #[.int .i64 (-1), .int .i64 f]] w fun r w' => r = .returned (.bool (decide (f < e.metaV.l.length))) ∧ Below w.heap.size w w' := by
  obtain ⟨W, hW, hw, HB, hp⟩ := box2 w (envCells e) 56 #[.int .i64 (-1), .int .i64 f] 98
  have HW := hi_ hw
  have h0 : (0 : Int) ≤ (f : Int) := by omega
  have hp3 := hp W HB
  clear hw hp
  by_cases hf : f < e.metaV.l.length
  · have hf' : (f : Int) < (e.metaV.l.length : Int) := by omega
    have HR : Hid (decide (f < e.metaV.l.length) = true) := hi_ (decide_eq_true hf)
    rw [HR.out]
    go_enter Tryz.func113, Tryz.ntmps113
    go_upto_region 1 with fail
    rw [← hW]
    clear hW
    go_wp2
    go_ret
    exact ⟨rfl, below_step HW.out HB⟩
  · have hf' : ¬ (f : Int) < (e.metaV.l.length : Int) := by omega
    have HR : Hid (decide (f < e.metaV.l.length) = false) := hi_ (decide_eq_false hf)
    rw [HR.out]
    go_enter Tryz.func113, Tryz.ntmps113
    go_upto_region 1 with fail
    rw [← hW]
    clear hW
    go_wp2
    go_ret
    exact ⟨rfl, below_step HW.out HB⟩
theorem relem_fld (e : EnvD) (k f : Nat) (w : World) (o : EnvOk w e) :
    Calls Tryz.prog 113 #[.agg (envCells e), .agg #[.int .i64 k, .int .i64 f]] w fun r w' => r = .returned (.bool (decide (f < (atU e.fields k).l.length))) ∧ Below w.heap.size w w' := by
  obtain ⟨W, hW, hw, HB, hp⟩ := box2 w (envCells e) 56 #[.int .i64 k, .int .i64 f] 98
  have HW := hi_ hw
  have HO := hi_ (o.below hw)
  have b0 : decide ((0 : Int) ≤ (k : Int)) = true := decide_eq_true (by omega)
  have b1 : decide ((0 : Int) ≤ (f : Int)) = true := decide_eq_true (by omega)
  have hm : ((k : Int) == -1) = false := beq_eq_false_iff_ne.2 (by omega)
  clear o hw
  by_cases hk : k < e.fields.l.length
  · have b2 : decide ((k : Int) < (e.fields.l.length : Int)) = true := decide_eq_true (by omega)
    have hk' : (k : Int) < (e.fields.l.length : Int) := by omega
    obtain ⟨g, of, hA, d0⟩ := lcell_atA HO.out.fields.1 hk
    have d1 := d0 W (Below.refl _ _)
    have HR : Hid (atU e.fields k = e.fields.l[k]) := hi_ (by rw [atU, if_neg (by omega)]; simp [hk])
    rw [HR.out]
    simp only [envCells, hA] at hp hW ⊢
    generalize e.fields.l[k] = x at *
    obtain ⟨l, xA, xc⟩ := x
    simp only at d1 ⊢
    have hp3 := hp W HB
    clear d0 hp hA
    by_cases hf : f < l.length
    · have b3 : decide ((f : Int) < (l.length : Int)) = true := decide_eq_true (by omega)
      have HR : Hid (decide (f < l.length) = true) := hi_ (decide_eq_true hf)
      rw [HR.out]
      go_enter Tryz.func113, Tryz.ntmps113
      go_upto_region 1 with fail
      rw [← hW]
      clear hW
      go_upto_region 3 with fail
      go_quiet (fail)
      go_wp2
      go_ret
      exact ⟨rfl, below_step HW.out (below_drewN HB _)⟩
    · have b3 : decide ((f : Int) < (l.length : Int)) = false := decide_eq_false (by omega)
      have HR : Hid (decide (f < l.length) = false) := hi_ (decide_eq_false hf)
      rw [HR.out]
      go_enter Tryz.func113, Tryz.ntmps113
      go_upto_region 1 with fail
      rw [← hW]
      clear hW
      go_upto_region 3 with fail
      go_quiet (fail)
      go_wp2
      go_ret
      exact ⟨rfl, below_step HW.out (below_drewN HB _)⟩
  · have b2 : decide ((k : Int) < (e.fields.l.length : Int)) = false := decide_eq_false (by omega)
    have HR : Hid (decide (f < (atU e.fields k).l.length) = false) := hi_ (by
      rw [atU, if_neg (by omega)]; simp; rw [List.getElem?_eq_none (by omega)]; exact Nat.zero_le _)
    have hp3 := hp W HB
    clear hp
    rw [HR.out]
    go_enter Tryz.func113, Tryz.ntmps113
    go_upto_region 1 with fail
    rw [← hW]
    clear hW
    go_upto_region 3 with fail
    go_quiet (fail)
    go_wp2
    go_ret
    exact ⟨rfl, below_step HW.out (below_drewN HB _)⟩
theorem widthAt_decl (p : ProgD) (h f : Int) : widthAt p h f = match declF p h f with | some d => if okW d.width = true then d.width else 0 | none => 0 := by
  have hn : okW noField.width = false := rfl
  unfold widthAt fieldsM
  rcases fieldsOf_cases p h with ⟨rfl, hx⟩ | ⟨h1, h2, hx⟩ | ⟨k, hk, rfl, hx⟩
  · rw [if_pos rfl]
    rcases declF_cases hx f with ⟨h3, hd⟩ | ⟨j, hj, rfl, hd⟩
    · have e : fieldAt p.metadata f = noField := by
        unfold fieldAt
        split
        · rfl
        · rw [List.getElem?_eq_none (by omega)]; rfl
      rw [hd, e, hn]; rfl
    · have e : fieldAt p.metadata j = p.metadata.l[j] := by rw [fieldAt, if_neg (by omega)]; simp [hj]
      rw [hd, e]
  · have e : headerAt p.headers h = noHeader := by
      unfold headerAt
      split
      · rfl
      · rw [List.getElem?_eq_none (by omega)]; rfl
    have e2 : fieldAt noHeader.fields f = noField := by
      unfold fieldAt
      split <;> rfl
    rw [if_neg h1, declF_none hx f, e, e2, hn]; rfl
  · have e0 : headerAt p.headers k = p.headers.l[k] := by rw [headerAt, if_neg (by omega)]; simp [hk]
    rw [if_neg (show ¬ ((k : Nat) : Int) = -1 by omega), e0]
    rcases declF_cases hx f with ⟨h3, hd⟩ | ⟨j, hj, rfl, hd⟩
    · have e : fieldAt p.headers.l[k].fields f = noField := by
        unfold fieldAt
        split
        · rfl
        · rw [List.getElem?_eq_none (by omega)]; rfl
      rw [hd, e, hn]; rfl
    · have e : fieldAt p.headers.l[k].fields j = p.headers.l[k].fields.l[j] := by rw [fieldAt, if_neg (by omega)]; simp [hj]
      rw [hd, e]
theorem rwidth12_any (p : ProgD) (h f : Int) (w : World) (o : ProgOk w p) :
    Calls Tryz.prog 55 #[.agg (progCells p), .agg #[.int .i64 h, .int .i64 f]] w fun e w' => e = .returned (.int .i64 (widthAt p h f)) ∧ Below w.heap.size w w' := by
  have HO := hi_ o
  have HWd := hi_ (widthAt_decl p h f)
  clear o
  have hca := @World.cell?_alloc_some
  rcases fieldsOf_cases p h with ⟨rfl, hx⟩ | ⟨h1, h2, hx⟩ | ⟨k, hk, rfl, hx⟩
  · rcases declF_cases hx f with ⟨h3, hd⟩ | ⟨j, hj, rfl, hd⟩
    · have HR : Hid (widthAt p (-1) f = 0) := hi_ (by rw [HWd.out, hd])
      clear hd hx HWd
      by_cases h4 : f < 0
      · clear h3
        go_enter Tryz.func55, Tryz.ntmps55
        go_wp2
        go_ret
        exact ⟨by rw [HR.out]; rfl, below2 _ _ _⟩
      · have h5 : (p.metadata.l.length : Int) ≤ f := by omega
        clear h3
        go_enter Tryz.func55, Tryz.ntmps55
        go_wp2
        go_ret
        exact ⟨by rw [HR.out]; rfl, below2 _ _ _⟩
    · obtain ⟨g, of, hA, d0, d1⟩ := FieldD.at HO.out.metadata hj
      simp only [progCells, hA]
      have HR : Hid (widthAt p (-1) j = if okW p.metadata.l[j].width = true then p.metadata.l[j].width else 0) := hi_ (by rw [HWd.out, hd])
      clear hd hx hA HWd
      generalize p.metadata.l[j] = y at *
      generalize y.width = n at *
      by_cases h6 : n < 1
      · have HR2 := hi_ (show widthAt p (-1) j = 0 by rw [HR.out, okW_not.2 (.inl h6)]; rfl)
        clear HR
        go_enter Tryz.func55, Tryz.ntmps55
        go_wp2
        go_ret
        exact ⟨by rw [HR2.out]; rfl, below2 _ _ _⟩
      by_cases h7 : 32 < n
      · have HR2 := hi_ (show widthAt p (-1) j = 0 by rw [HR.out, okW_not.2 (.inr h7)]; rfl)
        clear HR
        go_enter Tryz.func55, Tryz.ntmps55
        go_wp2
        go_ret
        exact ⟨by rw [HR2.out]; rfl, below2 _ _ _⟩
      have HR2 := hi_ (show widthAt p (-1) j = n by rw [HR.out, okW_iff.2 ⟨by omega, by omega⟩]; rfl)
      clear HR
      go_enter Tryz.func55, Tryz.ntmps55
      go_wp2
      go_ret
      exact ⟨by rw [HR2.out]; rfl, below2 _ _ _⟩
  · have HR : Hid (widthAt p h f = 0) := hi_ (by rw [HWd.out, declF_none hx f])
    clear hx HWd
    by_cases h4 : h < 0
    · have h5 : h < -1 := by omega
      clear h2
      go_enter Tryz.func55, Tryz.ntmps55
      go_wp2
      go_ret
      exact ⟨by rw [HR.out]; rfl, below2 _ _ _⟩
    · have h5 : (p.headers.l.length : Int) ≤ h := by omega
      clear h2
      go_enter Tryz.func55, Tryz.ntmps55
      go_wp2
      go_ret
      exact ⟨by rw [HR.out]; rfl, below2 _ _ _⟩
  · obtain ⟨g, of, hA, d0, d1⟩ := HeaderD.at HO.out.headers hk
    have HF := hi_ (HO.out.hdr _ (List.getElem_mem hk)).fields
    simp only [progCells, hA]
    clear hA
    generalize p.headers.l[k] = x at *
    obtain ⟨xn, ⟨fl, fA, fc⟩⟩ := x
    simp only [L.v] at d1
    rcases declF_cases hx f with ⟨h3, hd⟩ | ⟨j, hj, rfl, hd⟩
    · have HR : Hid (widthAt p k f = 0) := hi_ (by rw [HWd.out, hd])
      simp only at h3
      clear hd hx HWd
      by_cases h4 : f < 0
      · clear h3
        go_enter Tryz.func55, Tryz.ntmps55
        go_wp2
        go_ret
        exact ⟨by rw [HR.out]; rfl, below2 _ _ _⟩
      · have h5 : (fl.length : Int) ≤ f := by omega
        clear h3
        go_enter Tryz.func55, Tryz.ntmps55
        go_wp2
        go_ret
        exact ⟨by rw [HR.out]; rfl, below2 _ _ _⟩
    · simp only at hj
      have HR : Hid (widthAt p k j = if okW fl[j].width = true then fl[j].width else 0) := hi_ (by rw [HWd.out, hd])
      obtain ⟨g2, of2, hA, e0, e1⟩ := FieldD.at HF.out hj
      simp only at hA e0 e1
      subst hA
      clear hd hx HWd
      generalize fl[j] = y at *
      generalize y.width = n at *
      by_cases h6 : n < 1
      · have HR2 := hi_ (show widthAt p k j = 0 by rw [HR.out, okW_not.2 (.inl h6)]; rfl)
        clear HR
        go_enter Tryz.func55, Tryz.ntmps55
        go_wp2
        go_ret
        exact ⟨by rw [HR2.out]; rfl, below2 _ _ _⟩
      by_cases h7 : 32 < n
      · have HR2 := hi_ (show widthAt p k j = 0 by rw [HR.out, okW_not.2 (.inr h7)]; rfl)
        clear HR
        go_enter Tryz.func55, Tryz.ntmps55
        go_wp2
        go_ret
        exact ⟨by rw [HR2.out]; rfl, below2 _ _ _⟩
      have HR2 := hi_ (show widthAt p k j = n by rw [HR.out, okW_iff.2 ⟨by omega, by omega⟩]; rfl)
      clear HR
      go_enter Tryz.func55, Tryz.ntmps55
      go_wp2
      go_ret
      exact ⟨by rw [HR2.out]; rfl, below2 _ _ _⟩
theorem elemB_meta (e : EnvD) (f : Nat) : elemB e (-1) f = decide (f < e.metaV.l.length) := by
  unfold elemB elemL
  simp only [if_true, decide_true, Bool.true_or, Bool.true_and]
  rw [show decide ((0 : Int) ≤ (f : Int)) = true from decide_eq_true (by omega), Bool.true_and]
  exact decide_eq_decide.2 (by omega)
theorem elemB_fld (e : EnvD) (k f : Nat) : elemB e k f = (atB e.valid k && decide (f < (atU e.fields k).l.length)) := by
  unfold elemB elemL
  rw [show decide ((k : Int) = -1) = false from decide_eq_false (by omega), if_neg (show ¬ (k : Int) = -1 by omega), Bool.false_or]
  rw [show decide ((0 : Int) ≤ (f : Int)) = true from decide_eq_true (by omega), Bool.true_and]
  congr 1
  exact decide_eq_decide.2 (by omega)
theorem atU_l (x : L (L Int)) (i : Int) : (atU x i).l = if i < 0 then [] else ((x.l.map L.l)[i.toNat]?).getD [] := by
  unfold atU
  split
  · rfl
  · rw [List.getElem?_map]
    cases x.l[i.toNat]? <;> rfl
theorem elemB_bare {e e' : EnvD} (h : e'.bare = e.bare) (hd f : Int) : elemB e' hd f = elemB e hd f := by
  have hv : e'.valid.l = e.valid.l := congrArg EnvP.valid h
  have hm : e'.metaV.l = e.metaV.l := congrArg EnvP.metaV h
  have hf : e'.fields.l.map L.l = e.fields.l.map L.l := congrArg EnvP.fields h
  unfold elemB elemL
  have e1 : atB e'.valid hd = atB e.valid hd := by unfold atB; rw [hv]
  have e2 : (atU e'.fields hd).l = (atU e.fields hd).l := by rw [atU_l, atU_l, hf]
  rw [e1]
  by_cases h1 : hd = -1
  · rw [if_pos h1, if_pos h1, hm]
  · rw [if_neg h1, if_neg h1, e2]
theorem okW_at {p : ProgD} {h f : Int} (hw : widthAt p h f ≠ 0) : okW (widthAt p h f) = true := by
  unfold widthAt at *
  split
  · assumption
  · rename_i h1; rw [if_neg h1] at hw; exact absurd rfl hw
theorem rset_meta (p : ProgD) (e : EnvD) (f : Nat) (v : Int) (w : World) (o : ProgOk w p) (oe : EnvOk w e) (hf : EnvFit e.bare) (hv0 : 0 ≤ v) (hv1 : v ≤ 4294967295) :
    Calls Tryz.prog 76 #[.agg (progCells p), .agg (envCells e), .agg #[.int .i64 (-1), .int .i64 f], .int .u32 v] w fun r w' => ∃ e', r = .returned (.agg (envCells e')) ∧ e'.bare = setE p e.bare (-1) f v ∧ EnvMine w' w.heap.size e' ∧ Below w.heap.size w w' := by
  obtain ⟨W, hW⟩ : ∃ W, W = (((w.alloc (.cells (progCells p) 31)).alloc (.cells (envCells e) 56)).alloc (.cells #[.int .i64 (-1), .int .i64 f] 98)).alloc (.cells #[.slice none 0 0, .slice none 0 0, .slice none 0 0, .slice none 0 0] 56) := ⟨_, rfl⟩
  have hw : Below w.heap.size w W := by rw [hW]; exact below_step (below3 _ _ _ _) (below1 _ _)
  have HW := hi_ hw
  have HSz : Hid (W.heap.size = w.heap.size + 1 + 1 + 1 + 1) := hi_ (by rw [hW]; simp)
  have HP : Hid (Blk W w.heap.size 31 (progCells p)) := hi_ (by rw [hW]; exact (((Blk.new _ _ _).alloc _).alloc _).alloc _)
  have HE : Hid (Blk W (w.heap.size + 1) 56 (envCells e)) := hi_ (by rw [hW]; exact ((by simpa using Blk.new (w.alloc (.cells (progCells p) 31)) 56 (envCells e) : Blk _ (w.heap.size + 1) _ _).alloc _).alloc _)
  have HR : Hid (Blk W (w.heap.size + 1 + 1) 98 #[.int .i64 (-1), .int .i64 f]) := hi_ (by rw [hW]; exact (by simpa using Blk.new ((w.alloc (.cells (progCells p) 31)).alloc (.cells (envCells e) 56)) 98 #[.int .i64 (-1), .int .i64 f] : Blk _ (w.heap.size + 1 + 1) _ _).alloc _)
  have HZ : Hid (Blk W (w.heap.size + 1 + 1 + 1) 56 #[.slice none 0 0, .slice none 0 0, .slice none 0 0, .slice none 0 0]) := hi_ (by rw [hW]; simpa using Blk.new (((w.alloc (.cells (progCells p) 31)).alloc (.cells (envCells e) 56)).alloc (.cells #[.int .i64 (-1), .int .i64 f] 98)) 56 #[.slice none 0 0, .slice none 0 0, .slice none 0 0, .slice none 0 0])
  have HCl := hi_ (fun u (hb : Below W.heap.size W u) => rclone_any e u (oe.below (below_step hw hb)) hf)
  have HWd := hi_ (fun u (hb : Below W.heap.size W u) => rwidth12_any p (-1) f u (o.below (below_step hw hb)))
  have HMo := hi_ (fun (hw : widthAt p (-1) f ≠ 0) u => rmodulo_any v (widthAt p (-1) f) hv0 hv1 (okW_at hw) u)
  have HEl := hi_ (fun u => relem_meta e f u)
  have HEq := hi_ (elemB_meta e f)
  have HBb := hi_ (fun (e' : EnvD) (hb : e'.bare = e.bare) => elemB_bare hb (-1) f)
  have hp0 := fun w' (h : Below W.heap.size W w') => blk_cells' (n := 9) HP.out w' h
  have hp1 := fun w' (h : Below W.heap.size W w') => blk_cells' (n := 4) HE.out w' h
  have hwr := widthAt_le p (-1) f
  have HSn := hi_ (fun (e' : EnvD) (hb : elemB e' (-1) f = false ∨ widthAt p (-1) f = 0) => setE_none (p := p) (v := v) hb)
  have HSs := hi_ (fun (e' : EnvD) (hb : elemB e' (-1) f = true) (hw : widthAt p (-1) f ≠ 0) => setE_some (p := p) (e := e') (v := v) hb hw)
  clear o oe hf hw
  generalize widthAt p (-1) f = wd at *
  have HB0 := hi_ (Below.refl W.heap.size W)
  go_enter Tryz.func76, Tryz.ntmps76
  go_upto_region 1 with fail
  rw [← hW]
  clear hW
  have hq0 := hp1 W HB0.out
  go_wp2_with fail
  refine (HCl.out W HB0.out).mono ?_
  rintro r w1 ⟨e', rfl, hbe, hm, hb1⟩
  have HM1 := hi_ hm
  have HB1 := hi_ hb1
  have HBe := hi_ hbe
  have HOwn : Hid (∀ gl, (elemL e' (-1)).A = some ⟨gl, 0, none⟩ → elemB e' (-1) f = true → W.heap.size ≤ gl ∧ gl < w1.heap.size) := hi_ (fun gl hA hb => (HM1.out.elem hb).lt gl (by rw [L.v, hA]; rfl))
  have HFw : Hid (∀ g : Nat, e'.fields.v.ownBlock = some g → g < w1.heap.size) := hi_ (fun g hA => (HM1.out.fields.lt g hA).2)
  clear hbe hm hb1 hq0 HCl
  refine Exists.elim (⟨_, rfl⟩ : ∃ V, V = w1.alloc (.cells (envCells e') 56)) fun V hV => ?_
  have HGV : Hid (Blk V w1.heap.size 56 (envCells e')) := hi_ (by rw [hV]; exact Blk.new _ _ _)
  have HMV : Hid (EnvMine V W.heap.size e') := hi_ (by rw [hV]; exact HM1.out.below (below1 _ _))
  have HBV : Hid (Below W.heap.size W V) := hi_ (by rw [hV]; exact below_step HB1.out (below1 _ _))
  have HgW : Hid (W.heap.size ≤ w1.heap.size) := hi_ HB1.out.size
  go_upto_region 2 with fail
  rw [← hV]
  clear hV HM1 HB1
  generalize w1.heap.size = ga at *
  have hq0 := hp0 V HBV.out
  have r0 : V.cell? ⟨w.heap.size + 1 + 1, 0, none⟩ = some (.int .i64 (-1)) := (HR.out.below HBV.out HR.out.lt).cell 0
  have r1 : V.cell? ⟨w.heap.size + 1 + 1, 1, none⟩ = some (.int .i64 f) := (HR.out.below HBV.out HR.out.lt).cell 1
  go_wp2_with fail
  refine (HWd.out V HBV.out).mono ?_
  rintro r w2 ⟨rfl, hb2⟩
  have HG2 := hi_ (HGV.out.below hb2 HGV.out.lt)
  have HM2 := hi_ (HMV.out.below hb2)
  have HB2 := hi_ (below_step HBV.out hb2)
  have HZ2 := hi_ (HZ.out.below HB2.out HZ.out.lt)
  have hbe := HBe.out
  clear hq0 r0 r1 hb2 HGV HMV HBV HWd hp0
  by_cases hw0 : wd = 0
  · have hwv := hw0
    have hwb : (wd == 0) = true := beq_iff_eq.2 hw0
    clear hp1
    have k0 : w2.cell? ⟨ga, 0, none⟩ = some (.slice e'.valid.A e'.valid.l.length e'.valid.c) := HG2.out.cell 0
    have k1 : w2.cell? ⟨ga, 1, none⟩ = some (.slice e'.fields.A e'.fields.l.length e'.fields.c) := HG2.out.cell 1
    have k2 : w2.cell? ⟨ga, 2, none⟩ = some (.slice e'.metaV.A e'.metaV.l.length e'.metaV.c) := HG2.out.cell 2
    have k3 : w2.cell? ⟨ga, 3, none⟩ = some (.slice e'.payload.A e'.payload.l.length e'.payload.c) := HG2.out.cell 3
    have z0 : w2.cell? ⟨w.heap.size + 1 + 1 + 1, 0, none⟩ = some (.slice none 0 0) := HZ2.out.cell 0
    have z1 : w2.cell? ⟨w.heap.size + 1 + 1 + 1, 1, none⟩ = some (.slice none 0 0) := HZ2.out.cell 1
    have z2 : w2.cell? ⟨w.heap.size + 1 + 1 + 1, 2, none⟩ = some (.slice none 0 0) := HZ2.out.cell 2
    have z3 : w2.cell? ⟨w.heap.size + 1 + 1 + 1, 3, none⟩ = some (.slice none 0 0) := HZ2.out.cell 3
    have zf : ∀ j, w2.frozen? ⟨w.heap.size + 1 + 1 + 1, j, none⟩ = false := fun j => HZ2.out.frozen j
    go_wp2
    try rw [Exit.noGoto_ret]
    try simp only [Exit.jump]
    refine bodyPost_ret (v := .agg #[.slice e'.valid.A e'.valid.l.length e'.valid.c, .slice e'.fields.A e'.fields.l.length e'.fields.c, .slice e'.metaV.A e'.metaV.l.length e'.metaV.c, .slice e'.payload.A e'.payload.l.length e'.payload.c]) ?_ rfl ?_
    · refine results_cell_row (fn := Tryz.f76) (p := 8) (ty := 56) rfl _ _ (w.heap.size + 1 + 1 + 1) 56 #[.slice e'.valid.A e'.valid.l.length e'.valid.c, .slice e'.fields.A e'.fields.l.length e'.fields.c, .slice e'.metaV.A e'.metaV.l.length e'.metaV.c, .slice e'.payload.A e'.payload.l.length e'.payload.c] (0, 0) _ rfl ?_ Tryz.underlying56 rfl (by kernel_rfl)
      exact (((HZ2.out.set_ 0 _).set_ 1 _).set_ 2 _).set_ 3 _
    · have hsz := HSz.out
      have hle : w.heap.size ≤ w.heap.size + 1 + 1 + 1 := by omega
      exact ⟨e', by rfl, by rw [← hbe]; exact (HSn.out e' (.inr hwv)).symm, (HM2.out.four (by omega) _ _ _ _).lower (by omega), ((((below_step HW.out HB2.out).setCell hle _).setCell hle _).setCell hle _).setCell hle _⟩
  have hwb : (wd == 0) = false := beq_eq_false_iff_ne.2 hw0
  have hq1 := hp1 w2 HB2.out
  have r0 : w2.cell? ⟨w.heap.size + 1 + 1, 0, none⟩ = some (.int .i64 (-1)) := (HR.out.below HB2.out HR.out.lt).cell 0
  have r1 : w2.cell? ⟨w.heap.size + 1 + 1, 1, none⟩ = some (.int .i64 f) := (HR.out.below HB2.out HR.out.lt).cell 1
  go_wp2_with fail
  refine (HEl.out w2).mono ?_
  rintro r w3 ⟨rfl, hb3⟩
  have HG3 := hi_ (HG2.out.below hb3 HG2.out.lt)
  have HM3 := hi_ (HM2.out.below hb3)
  have HB3 := hi_ (below_step HB2.out hb3)
  have HZ3 := hi_ (HZ.out.below HB3.out HZ.out.lt)
  clear r0 r1 hb3 hq1 HG2 HM2 HB2 HZ2 HEl
  cases hb : decide (f < e.metaV.l.length) with
  | false =>
    have HEf : Hid (elemB e' (-1) f = false) := hi_ (by rw [HBb.out e' hbe, HEq.out, hb])
    clear hp1
    have k0 : w3.cell? ⟨ga, 0, none⟩ = some (.slice e'.valid.A e'.valid.l.length e'.valid.c) := HG3.out.cell 0
    have k1 : w3.cell? ⟨ga, 1, none⟩ = some (.slice e'.fields.A e'.fields.l.length e'.fields.c) := HG3.out.cell 1
    have k2 : w3.cell? ⟨ga, 2, none⟩ = some (.slice e'.metaV.A e'.metaV.l.length e'.metaV.c) := HG3.out.cell 2
    have k3 : w3.cell? ⟨ga, 3, none⟩ = some (.slice e'.payload.A e'.payload.l.length e'.payload.c) := HG3.out.cell 3
    have z0 : w3.cell? ⟨w.heap.size + 1 + 1 + 1, 0, none⟩ = some (.slice none 0 0) := HZ3.out.cell 0
    have z1 : w3.cell? ⟨w.heap.size + 1 + 1 + 1, 1, none⟩ = some (.slice none 0 0) := HZ3.out.cell 1
    have z2 : w3.cell? ⟨w.heap.size + 1 + 1 + 1, 2, none⟩ = some (.slice none 0 0) := HZ3.out.cell 2
    have z3 : w3.cell? ⟨w.heap.size + 1 + 1 + 1, 3, none⟩ = some (.slice none 0 0) := HZ3.out.cell 3
    have zf : ∀ j, w3.frozen? ⟨w.heap.size + 1 + 1 + 1, j, none⟩ = false := fun j => HZ3.out.frozen j
    go_wp2
    try rw [Exit.noGoto_ret]
    try simp only [Exit.jump]
    refine bodyPost_ret (v := .agg #[.slice e'.valid.A e'.valid.l.length e'.valid.c, .slice e'.fields.A e'.fields.l.length e'.fields.c, .slice e'.metaV.A e'.metaV.l.length e'.metaV.c, .slice e'.payload.A e'.payload.l.length e'.payload.c]) ?_ rfl ?_
    · refine results_cell_row (fn := Tryz.f76) (p := 8) (ty := 56) rfl _ _ (w.heap.size + 1 + 1 + 1) 56 #[.slice e'.valid.A e'.valid.l.length e'.valid.c, .slice e'.fields.A e'.fields.l.length e'.fields.c, .slice e'.metaV.A e'.metaV.l.length e'.metaV.c, .slice e'.payload.A e'.payload.l.length e'.payload.c] (0, 0) _ rfl ?_ Tryz.underlying56 rfl (by kernel_rfl)
      exact (((HZ3.out.set_ 0 _).set_ 1 _).set_ 2 _).set_ 3 _
    · have hsz := HSz.out
      have hle : w.heap.size ≤ w.heap.size + 1 + 1 + 1 := by omega
      exact ⟨e', by rfl, by rw [← hbe]; exact (HSn.out e' (.inl HEf.out)).symm, (HM3.out.four (by omega) _ _ _ _).lower (by omega), ((((below_step HW.out HB3.out).setCell hle _).setCell hle _).setCell hle _).setCell hle _⟩
  | true =>
  have HEt : Hid (elemB e' (-1) f = true) := hi_ (by rw [HBb.out e' hbe, HEq.out, hb])
  have hEt := HEt.out
  obtain ⟨hfl, hfk⟩ := elem_true hEt
  obtain ⟨gl, hA, hgl1, hgl2⟩ := (HM3.out.elem hEt).at (fun e1 => by rw [e1] at hfl; cases hfl)
  have HGl : Hid (W.heap.size ≤ gl ∧ gl < ga) := hi_ (HOwn.out gl hA hEt)
  have HCell : Hid (∀ u, EnvMine u W.heap.size e' → (∃ y : Int, u.cell? ⟨gl, f, none⟩ = some (.int .u32 y)) ∧ u.frozen? ⟨gl, f, none⟩ = false) := hi_ (fun u hu => by
    have ho := hu.elem hEt
    have hfl2 := hfl
    generalize elemL e' (-1) = q at ho hA hfl2
    obtain ⟨ql, qA, qc⟩ := q
    simp only at hA hfl2
    subst hA
    obtain ⟨g', o', e1, d1⟩ := ucell_at (ho.ok (fun _ => rfl)).1 hfl2
    simp only at e1
    injection e1 with e1
    injection e1 with e1 e2
    subst e1 e2
    rw [Nat.zero_add] at d1
    exact ⟨⟨_, d1⟩, ho.frozen f⟩)
  have HPut := hi_ (fun u (hu : EnvMine u W.heap.size e') x => hu.put hEt hA x)
  have HSet := hi_ (HSs.out e' hEt (by omega))
  have HMd := hi_ (HMo.out hw0)
  have hfi : (f : Int) < ((elemL e' (-1)).l.length : Int) := by omega
  have HSB : Hid (∀ u, Below w3.heap.size w3 u → (u.cell? ⟨ga, 2, none⟩ = some (.slice (some ⟨gl, 0, none⟩) (elemL e' (-1)).l.length (elemL e' (-1)).c) ∧ u.cell? ⟨w.heap.size + 1 + 1, 1, none⟩ = some (.int .i64 (f : Nat)) ∧ True ∧ True)) := hi_ (fun u hu => by
    refine ⟨?_, (HR.out.below (below_step HB3.out hu) HR.out.lt).cell 1, trivial, trivial⟩
    have h9 := (HG3.out.below hu HG3.out.lt).cell 2
    rw [← hA]
    exact h9)
  generalize (elemL e' (-1)).l.length = qn at *
  generalize (elemL e' (-1)).c = qc at *
  have r0 : w3.cell? ⟨w.heap.size + 1 + 1, 0, none⟩ = some (.int .i64 (-1)) := (HR.out.below HB3.out HR.out.lt).cell 0
  have r1 : w3.cell? ⟨w.heap.size + 1 + 1, 1, none⟩ = some (.int .i64 f) := (HR.out.below HB3.out HR.out.lt).cell 1
  clear hA hgl1 hgl2 hfl hfk hEt
  go_upto_region 6 with fail
  have hS0 := HSB.out (w3.drew) (below_drew (Below.refl _ _))
  refine wp_region_held_drew (S := fun w' => w'.cell? ⟨ga, 2, none⟩ = some (.slice (some ⟨gl, 0, none⟩) qn qc) ∧ w'.cell? ⟨w.heap.size + 1 + 1, 1, none⟩ = some (.int .i64 (f : Nat)) ∧ True ∧ True) (by kernel_rfl) hS0 (fun hHeld => ?_)
  refine wpAnyH_take (i := 0) (oi := { dst := some 40, op := Op.fieldAddr 56 (Operand.tmp 9) 2, type := 0, pos := "ref.go:135", after := #[], guard := none }) (v := ?s0v) rfl (by kernel_rfl) (by kernel_rfl) (by kernel_rfl) (fun _ _ _ h => h) (Or.inl ⟨by rfl, ?s0y⟩) (by assumption) ?s0r
  case s0y => (intro w hSw; obtain ⟨t1, t2, t3, t4⟩ := hSw; go_simp; try (with_reducible rfl))
  try simp only [Act.put, sA, sZ, sS]
  refine wpAnyH_take (i := 1) (oi := { dst := some 41, op := Op.load 53 (Operand.tmp 40), type := 53, pos := "ref.go:135", after := #[{ on := 0, ground := Ground.data }], guard := none }) (v := ?s1v) rfl (by kernel_rfl) (by kernel_rfl) (by kernel_rfl) (fun _ _ _ h => h) (Or.inl ⟨by rfl, ?s1y⟩) (by assumption) ?s1r
  case s1y => (intro w hSw; obtain ⟨t1, t2, t3, t4⟩ := hSw; go_simp; try (with_reducible rfl))
  try simp only [Act.put, sA, sZ, sS]
  refine wpAnyH_take (i := 2) (oi := { dst := some 42, op := Op.fieldAddr 98 (Operand.tmp 6) 1, type := 0, pos := "ref.go:135", after := #[], guard := none }) (v := ?s2v) rfl (by kernel_rfl) (by kernel_rfl) (by kernel_rfl) (fun _ _ _ h => h) (Or.inl ⟨by rfl, ?s2y⟩) (by assumption) ?s2r
  case s2y => (intro w hSw; obtain ⟨t1, t2, t3, t4⟩ := hSw; go_simp; try (with_reducible rfl))
  try simp only [Act.put, sA, sZ, sS]
  refine wpAnyH_take (i := 3) (oi := { dst := some 43, op := Op.load 3 (Operand.tmp 42), type := 3, pos := "ref.go:135", after := #[{ on := 2, ground := Ground.data }], guard := none }) (v := ?s3v) rfl (by kernel_rfl) (by kernel_rfl) (by kernel_rfl) (fun _ _ _ h => h) (Or.inl ⟨by rfl, ?s3y⟩) (by assumption) ?s3r
  case s3y => (intro w hSw; obtain ⟨t1, t2, t3, t4⟩ := hSw; go_simp; try (with_reducible rfl))
  try simp only [Act.put, sA, sZ, sS]
  refine wpAnyH_take (i := 4) (oi := { dst := some 44, op := Op.move (Operand.tmp 3), type := 83, pos := "ref.go:135", after := #[], guard := none }) (v := ?s4v) rfl (by kernel_rfl) (by kernel_rfl) (by kernel_rfl) (fun _ _ _ h => h) (Or.inl ⟨by rfl, ?s4y⟩) (by assumption) ?s4r
  case s4y => (intro w hSw; obtain ⟨t1, t2, t3, t4⟩ := hSw; go_simp; try (with_reducible rfl))
  try simp only [Act.put, sA, sZ, sS]
  refine wpAnyH_take (i := 5) (oi := { dst := some 45, op := Op.move (Operand.tmp 10), type := 3, pos := "ref.go:135", after := #[], guard := none }) (v := ?s5v) rfl (by kernel_rfl) (by kernel_rfl) (by kernel_rfl) (fun _ _ _ h => h) (Or.inl ⟨by rfl, ?s5y⟩) (by assumption) ?s5r
  case s5y => (intro w hSw; obtain ⟨t1, t2, t3, t4⟩ := hSw; go_simp; try (with_reducible rfl))
  try simp only [Act.put, sA, sZ, sS]
  refine wpAnyH_ready (rs := [6]) (by kernel_rfl) (by simp) ?_
  refine AllReadyH.cons (o := { dst := some 46, op := Op.call { callee := Callee.value (Operand.func 115), args := #[Operand.tmp 44, Operand.tmp 45], argTypes := #[83, 3] }, type := 83, pos := "ref.go:135", after := #[{ on := 4, ground := Ground.data }, { on := 5, ground := Ground.data }], guard := none }) rfl (fun K hK => ?_) AllReadyH.nil
  go_simp
  go_at_call 115
  refine (HMd.out _).mono ?_
  rintro r w6 ⟨rfl, hb6⟩
  have hb6' : Below w3.heap.size w3 w6 := by rw [← hb6]; exact below_drew (Below.refl _ _)
  clear hb6
  have HM6 := hi_ (HM3.out.below hb6')
  have HB6 := hi_ (below_step HB3.out hb6')
  have hS6 := HSB.out w6 hb6'
  have HG6 := hi_ (HG3.out.below hb6' HG3.out.lt)
  refine hK.out _ _ hS6 (fun hHeld2 => ?_)
  clear hK K hb6' r0 r1
  try simp only [Act.put, sA, sZ, sS]
  refine wpAnyH_take (i := 7) (oi := { dst := some 47, op := Op.indexAddr 53 (Operand.tmp 41) (Operand.tmp 43), type := 0, pos := "ref.go:135", after := #[{ on := 1, ground := Ground.data }, { on := 3, ground := Ground.data }, { on := 0, ground := Ground.phase }, { on := 1, ground := Ground.phase }, { on := 2, ground := Ground.phase }, { on := 3, ground := Ground.phase }, { on := 4, ground := Ground.phase }, { on := 5, ground := Ground.phase }, { on := 6, ground := Ground.phase }], guard := none }) (v := ?s7v) rfl (by kernel_rfl) (by kernel_rfl) (by kernel_rfl) (fun _ _ _ h => h) (Or.inl ⟨by rfl, ?s7y⟩) (by assumption) ?s7r
  case s7y => (intro w hSw; obtain ⟨t1, t2, t3, t4⟩ := hSw; go_simp; try (with_reducible rfl))
  try simp only [Act.put, sA, sZ, sS]
  refine wpAnyH_ready (rs := [8]) (by kernel_rfl) (by simp) ?_
  refine AllReadyH.cons (o := { dst := none, op := Op.store 83 (Operand.tmp 47) (Operand.tmp 46), type := 0, pos := "ref.go:135", after := #[{ on := 7, ground := Ground.data }, { on := 6, ground := Ground.data }, { on := 6, ground := Ground.chain }, { on := 0, ground := Ground.phase }, { on := 1, ground := Ground.phase }, { on := 2, ground := Ground.phase }, { on := 3, ground := Ground.phase }, { on := 4, ground := Ground.phase }, { on := 5, ground := Ground.phase }, { on := 6, ground := Ground.phase }], guard := none }) rfl (fun K hK => ?_) AllReadyH.nil
  obtain ⟨⟨y0, e0⟩, f0⟩ := HCell.out w6 HM6.out
  go_simp
  have far : ∀ (b i : Nat), b ≠ gl → (w6.setCell ⟨gl, f, none⟩ (.int .u32 (bits .and .u32 v (maskM wd)))).cell? ⟨b, i, none⟩ = w6.cell? ⟨b, i, none⟩ := fun b i hne => World.cell?_setCell_far _ _ _ _ (by exact fun e => hne e.symm)
  have hS7 : (fun w' => w'.cell? ⟨ga, 2, none⟩ = some (.slice (some ⟨gl, 0, none⟩) qn qc) ∧ w'.cell? ⟨w.heap.size + 1 + 1, 1, none⟩ = some (.int .i64 (f : Nat)) ∧ True ∧ True) (w6.setCell ⟨gl, f, none⟩ (.int .u32 (bits .and .u32 v (maskM wd)))) := by
    have h8 := HGl.out; have h7 := HSz.out
    refine ⟨(far _ _ (by omega)).trans hS6.1, (far _ _ (by omega)).trans hS6.2.1, trivial, trivial⟩
  refine hK.out _ _ hS7 (fun hHeld3 => ?_)
  clear hK K
  try simp only [Act.put, sA, sZ, sS]
  refine wpAnyH_done (by kernel_rfl) ?_ _
  have HB7 : Hid (Below W.heap.size W (w6.setCell ⟨gl, f, none⟩ (.int .u32 (bits .and .u32 v (maskM wd))))) := hi_ (HB6.out.setCell (by exact HGl.out.1) _)
  have HM7 := hi_ (HPut.out w6 HM6.out (bits .and .u32 v (maskM wd)))
  have HG7 := hi_ (HG6.out.far (p := ⟨gl, f, none⟩) (by show ga ≠ gl; have := HGl.out; omega) (.int .u32 (bits .and .u32 v (maskM wd))))
  have HZ7 := hi_ (HZ.out.below HB7.out HZ.out.lt)
  clear hHeld hHeld2 hHeld3 e0 f0 hS0 hS6 hS7 HM6 HB6 HG6 HM3 HG3 HB3 HZ3 HSB far
  generalize w6.setCell ⟨gl, f, none⟩ (.int .u32 (bits .and .u32 v (maskM wd))) = w7 at *
  have k0 : w7.cell? ⟨ga, 0, none⟩ = some (.slice e'.valid.A e'.valid.l.length e'.valid.c) := HG7.out.cell 0
  have k1 : w7.cell? ⟨ga, 1, none⟩ = some (.slice e'.fields.A e'.fields.l.length e'.fields.c) := HG7.out.cell 1
  have k2 : w7.cell? ⟨ga, 2, none⟩ = some (.slice e'.metaV.A e'.metaV.l.length e'.metaV.c) := HG7.out.cell 2
  have k3 : w7.cell? ⟨ga, 3, none⟩ = some (.slice e'.payload.A e'.payload.l.length e'.payload.c) := HG7.out.cell 3
  have z0 : w7.cell? ⟨w.heap.size + 1 + 1 + 1, 0, none⟩ = some (.slice none 0 0) := HZ7.out.cell 0
  have z1 : w7.cell? ⟨w.heap.size + 1 + 1 + 1, 1, none⟩ = some (.slice none 0 0) := HZ7.out.cell 1
  have z2 : w7.cell? ⟨w.heap.size + 1 + 1 + 1, 2, none⟩ = some (.slice none 0 0) := HZ7.out.cell 2
  have z3 : w7.cell? ⟨w.heap.size + 1 + 1 + 1, 3, none⟩ = some (.slice none 0 0) := HZ7.out.cell 3
  have zf : ∀ j, w7.frozen? ⟨w.heap.size + 1 + 1 + 1, j, none⟩ = false := fun j => HZ7.out.frozen j
  go_wp2
  try rw [Exit.noGoto_ret]
  try simp only [Exit.jump]
  refine bodyPost_ret (v := .agg #[.slice e'.valid.A e'.valid.l.length e'.valid.c, .slice e'.fields.A e'.fields.l.length e'.fields.c, .slice e'.metaV.A e'.metaV.l.length e'.metaV.c, .slice e'.payload.A e'.payload.l.length e'.payload.c]) ?_ rfl ?_
  · refine results_cell_row (fn := Tryz.f76) (p := 8) (ty := 56) rfl _ _ (w.heap.size + 1 + 1 + 1) 56 #[.slice e'.valid.A e'.valid.l.length e'.valid.c, .slice e'.fields.A e'.fields.l.length e'.fields.c, .slice e'.metaV.A e'.metaV.l.length e'.metaV.c, .slice e'.payload.A e'.payload.l.length e'.payload.c] (0, 0) _ rfl ?_ Tryz.underlying56 rfl (by kernel_rfl)
    exact (((HZ7.out.set_ 0 _).set_ 1 _).set_ 2 _).set_ 3 _
  · have hsz := HSz.out
    have hle : w.heap.size ≤ w.heap.size + 1 + 1 + 1 := by omega
    exact ⟨setD e' (-1) f (bits .and .u32 v (maskM wd)), by rw [setD_cells], by rw [HSet.out, hbe], (HM7.out.four (by omega) _ _ _ _).lower (by omega), ((((below_step HW.out HB7.out).setCell hle _).setCell hle _).setCell hle _).setCell hle _⟩
theorem rset_fld (p : ProgD) (e : EnvD) (k : Nat) (f : Nat) (v : Int) (w : World) (o : ProgOk w p) (oe : EnvOk w e) (hf : EnvFit e.bare) (hv0 : 0 ≤ v) (hv1 : v ≤ 4294967295) :
    Calls Tryz.prog 76 #[.agg (progCells p), .agg (envCells e), .agg #[.int .i64 (k : Nat), .int .i64 f], .int .u32 v] w fun r w' => ∃ e', r = .returned (.agg (envCells e')) ∧ e'.bare = setE p e.bare (k : Nat) f v ∧ EnvMine w' w.heap.size e' ∧ Below w.heap.size w w' := by
  obtain ⟨W, hW⟩ : ∃ W, W = (((w.alloc (.cells (progCells p) 31)).alloc (.cells (envCells e) 56)).alloc (.cells #[.int .i64 (k : Nat), .int .i64 f] 98)).alloc (.cells #[.slice none 0 0, .slice none 0 0, .slice none 0 0, .slice none 0 0] 56) := ⟨_, rfl⟩
  have hw : Below w.heap.size w W := by rw [hW]; exact below_step (below3 _ _ _ _) (below1 _ _)
  have HW := hi_ hw
  have HSz : Hid (W.heap.size = w.heap.size + 1 + 1 + 1 + 1) := hi_ (by rw [hW]; simp)
  have HP : Hid (Blk W w.heap.size 31 (progCells p)) := hi_ (by rw [hW]; exact (((Blk.new _ _ _).alloc _).alloc _).alloc _)
  have HE : Hid (Blk W (w.heap.size + 1) 56 (envCells e)) := hi_ (by rw [hW]; exact ((by simpa using Blk.new (w.alloc (.cells (progCells p) 31)) 56 (envCells e) : Blk _ (w.heap.size + 1) _ _).alloc _).alloc _)
  have HR : Hid (Blk W (w.heap.size + 1 + 1) 98 #[.int .i64 (k : Nat), .int .i64 f]) := hi_ (by rw [hW]; exact (by simpa using Blk.new ((w.alloc (.cells (progCells p) 31)).alloc (.cells (envCells e) 56)) 98 #[.int .i64 (k : Nat), .int .i64 f] : Blk _ (w.heap.size + 1 + 1) _ _).alloc _)
  have HZ : Hid (Blk W (w.heap.size + 1 + 1 + 1) 56 #[.slice none 0 0, .slice none 0 0, .slice none 0 0, .slice none 0 0]) := hi_ (by rw [hW]; simpa using Blk.new (((w.alloc (.cells (progCells p) 31)).alloc (.cells (envCells e) 56)).alloc (.cells #[.int .i64 (k : Nat), .int .i64 f] 98)) 56 #[.slice none 0 0, .slice none 0 0, .slice none 0 0, .slice none 0 0])
  have HCl := hi_ (fun u (hb : Below W.heap.size W u) => rclone_any e u (oe.below (below_step hw hb)) hf)
  have HWd := hi_ (fun u (hb : Below W.heap.size W u) => rwidth12_any p (k : Nat) f u (o.below (below_step hw hb)))
  have HMo := hi_ (fun (hw : widthAt p (k : Nat) f ≠ 0) u => rmodulo_any v (widthAt p (k : Nat) f) hv0 hv1 (okW_at hw) u)
  have HEl := hi_ (fun u (hb : Below W.heap.size W u) => relem_fld e k f u (oe.below (below_step hw hb)))
  have HHs := hi_ (fun u (hb : Below W.heap.size W u) => rhas_any e k u (oe.below (below_step hw hb)))
  have HEq := hi_ (elemB_fld e k f)
  have hkm : ((k : Int) != -1) = true := bne_iff_ne.2 (by omega)
  have hkm2 : ((k : Int) == -1) = false := beq_eq_false_iff_ne.2 (by omega)
  have HBb := hi_ (fun (e' : EnvD) (hb : e'.bare = e.bare) => elemB_bare hb (k : Nat) f)
  have hp0 := fun w' (h : Below W.heap.size W w') => blk_cells' (n := 9) HP.out w' h
  have hp1 := fun w' (h : Below W.heap.size W w') => blk_cells' (n := 4) HE.out w' h
  have hwr := widthAt_le p (k : Nat) f
  have HSn := hi_ (fun (e' : EnvD) (hb : elemB e' (k : Nat) f = false ∨ widthAt p (k : Nat) f = 0) => setE_none (p := p) (v := v) hb)
  have HSs := hi_ (fun (e' : EnvD) (hb : elemB e' (k : Nat) f = true) (hw : widthAt p (k : Nat) f ≠ 0) => setE_some (p := p) (e := e') (v := v) hb hw)
  clear o oe hf hw
  generalize widthAt p (k : Nat) f = wd at *
  have HB0 := hi_ (Below.refl W.heap.size W)
  go_enter Tryz.func76, Tryz.ntmps76
  go_upto_region 1 with fail
  rw [← hW]
  clear hW
  have hq0 := hp1 W HB0.out
  go_wp2_with fail
  refine (HCl.out W HB0.out).mono ?_
  rintro r w1 ⟨e', rfl, hbe, hm, hb1⟩
  have HM1 := hi_ hm
  have HB1 := hi_ hb1
  have HBe := hi_ hbe
  have HOwn : Hid (∀ gl, (elemL e' (k : Nat)).A = some ⟨gl, 0, none⟩ → elemB e' (k : Nat) f = true → W.heap.size ≤ gl ∧ gl < w1.heap.size) := hi_ (fun gl hA hb => (HM1.out.elem hb).lt gl (by rw [L.v, hA]; rfl))
  have HFw : Hid (∀ g : Nat, e'.fields.v.ownBlock = some g → g < w1.heap.size) := hi_ (fun g hA => (HM1.out.fields.lt g hA).2)
  clear hbe hm hb1 hq0 HCl
  refine Exists.elim (⟨_, rfl⟩ : ∃ V, V = w1.alloc (.cells (envCells e') 56)) fun V hV => ?_
  have HGV : Hid (Blk V w1.heap.size 56 (envCells e')) := hi_ (by rw [hV]; exact Blk.new _ _ _)
  have HMV : Hid (EnvMine V W.heap.size e') := hi_ (by rw [hV]; exact HM1.out.below (below1 _ _))
  have HBV : Hid (Below W.heap.size W V) := hi_ (by rw [hV]; exact below_step HB1.out (below1 _ _))
  have HgW : Hid (W.heap.size ≤ w1.heap.size) := hi_ HB1.out.size
  go_upto_region 2 with fail
  rw [← hV]
  clear hV HM1 HB1
  generalize w1.heap.size = ga at *
  have hq0 := hp0 V HBV.out
  have r0 : V.cell? ⟨w.heap.size + 1 + 1, 0, none⟩ = some (.int .i64 (k : Nat)) := (HR.out.below HBV.out HR.out.lt).cell 0
  have r1 : V.cell? ⟨w.heap.size + 1 + 1, 1, none⟩ = some (.int .i64 f) := (HR.out.below HBV.out HR.out.lt).cell 1
  go_wp2_with fail
  refine (HWd.out V HBV.out).mono ?_
  rintro r w2 ⟨rfl, hb2⟩
  have HG2 := hi_ (HGV.out.below hb2 HGV.out.lt)
  have HM2 := hi_ (HMV.out.below hb2)
  have HB2 := hi_ (below_step HBV.out hb2)
  have HZ2 := hi_ (HZ.out.below HB2.out HZ.out.lt)
  have hbe := HBe.out
  clear hq0 r0 r1 hb2 HGV HMV HBV HWd hp0
  by_cases hw0 : wd = 0
  · have hwv := hw0
    have hwb : (wd == 0) = true := beq_iff_eq.2 hw0
    clear hp1
    have k0 : w2.cell? ⟨ga, 0, none⟩ = some (.slice e'.valid.A e'.valid.l.length e'.valid.c) := HG2.out.cell 0
    have k1 : w2.cell? ⟨ga, 1, none⟩ = some (.slice e'.fields.A e'.fields.l.length e'.fields.c) := HG2.out.cell 1
    have k2 : w2.cell? ⟨ga, 2, none⟩ = some (.slice e'.metaV.A e'.metaV.l.length e'.metaV.c) := HG2.out.cell 2
    have k3 : w2.cell? ⟨ga, 3, none⟩ = some (.slice e'.payload.A e'.payload.l.length e'.payload.c) := HG2.out.cell 3
    have z0 : w2.cell? ⟨w.heap.size + 1 + 1 + 1, 0, none⟩ = some (.slice none 0 0) := HZ2.out.cell 0
    have z1 : w2.cell? ⟨w.heap.size + 1 + 1 + 1, 1, none⟩ = some (.slice none 0 0) := HZ2.out.cell 1
    have z2 : w2.cell? ⟨w.heap.size + 1 + 1 + 1, 2, none⟩ = some (.slice none 0 0) := HZ2.out.cell 2
    have z3 : w2.cell? ⟨w.heap.size + 1 + 1 + 1, 3, none⟩ = some (.slice none 0 0) := HZ2.out.cell 3
    have zf : ∀ j, w2.frozen? ⟨w.heap.size + 1 + 1 + 1, j, none⟩ = false := fun j => HZ2.out.frozen j
    go_wp2
    try rw [Exit.noGoto_ret]
    try simp only [Exit.jump]
    refine bodyPost_ret (v := .agg #[.slice e'.valid.A e'.valid.l.length e'.valid.c, .slice e'.fields.A e'.fields.l.length e'.fields.c, .slice e'.metaV.A e'.metaV.l.length e'.metaV.c, .slice e'.payload.A e'.payload.l.length e'.payload.c]) ?_ rfl ?_
    · refine results_cell_row (fn := Tryz.f76) (p := 8) (ty := 56) rfl _ _ (w.heap.size + 1 + 1 + 1) 56 #[.slice e'.valid.A e'.valid.l.length e'.valid.c, .slice e'.fields.A e'.fields.l.length e'.fields.c, .slice e'.metaV.A e'.metaV.l.length e'.metaV.c, .slice e'.payload.A e'.payload.l.length e'.payload.c] (0, 0) _ rfl ?_ Tryz.underlying56 rfl (by kernel_rfl)
      exact (((HZ2.out.set_ 0 _).set_ 1 _).set_ 2 _).set_ 3 _
    · have hsz := HSz.out
      have hle : w.heap.size ≤ w.heap.size + 1 + 1 + 1 := by omega
      exact ⟨e', by rfl, by rw [← hbe]; exact (HSn.out e' (.inr hwv)).symm, (HM2.out.four (by omega) _ _ _ _).lower (by omega), ((((below_step HW.out HB2.out).setCell hle _).setCell hle _).setCell hle _).setCell hle _⟩
  have hwb : (wd == 0) = false := beq_eq_false_iff_ne.2 hw0
  have hq1 := hp1 w2 HB2.out
  have r0 : w2.cell? ⟨w.heap.size + 1 + 1, 0, none⟩ = some (.int .i64 (k : Nat)) := (HR.out.below HB2.out HR.out.lt).cell 0
  have r1 : w2.cell? ⟨w.heap.size + 1 + 1, 1, none⟩ = some (.int .i64 f) := (HR.out.below HB2.out HR.out.lt).cell 1
  go_wp2_with fail
  refine (HEl.out w2 HB2.out).mono ?_
  rintro r w3 ⟨rfl, hb3⟩
  have HG3 := hi_ (HG2.out.below hb3 HG2.out.lt)
  have HM3 := hi_ (HM2.out.below hb3)
  have HB3 := hi_ (below_step HB2.out hb3)
  have HZ3 := hi_ (HZ.out.below HB3.out HZ.out.lt)
  clear r0 r1 hb3 hq1 HG2 HM2 HB2 HZ2 HEl
  cases hb : decide (f < (atU e.fields k).l.length) with
  | false =>
    have HEf : Hid (elemB e' (k : Nat) f = false) := hi_ (by rw [HBb.out e' hbe, HEq.out, hb]; simp)
    clear hp1
    have k0 : w3.cell? ⟨ga, 0, none⟩ = some (.slice e'.valid.A e'.valid.l.length e'.valid.c) := HG3.out.cell 0
    have k1 : w3.cell? ⟨ga, 1, none⟩ = some (.slice e'.fields.A e'.fields.l.length e'.fields.c) := HG3.out.cell 1
    have k2 : w3.cell? ⟨ga, 2, none⟩ = some (.slice e'.metaV.A e'.metaV.l.length e'.metaV.c) := HG3.out.cell 2
    have k3 : w3.cell? ⟨ga, 3, none⟩ = some (.slice e'.payload.A e'.payload.l.length e'.payload.c) := HG3.out.cell 3
    have z0 : w3.cell? ⟨w.heap.size + 1 + 1 + 1, 0, none⟩ = some (.slice none 0 0) := HZ3.out.cell 0
    have z1 : w3.cell? ⟨w.heap.size + 1 + 1 + 1, 1, none⟩ = some (.slice none 0 0) := HZ3.out.cell 1
    have z2 : w3.cell? ⟨w.heap.size + 1 + 1 + 1, 2, none⟩ = some (.slice none 0 0) := HZ3.out.cell 2
    have z3 : w3.cell? ⟨w.heap.size + 1 + 1 + 1, 3, none⟩ = some (.slice none 0 0) := HZ3.out.cell 3
    have zf : ∀ j, w3.frozen? ⟨w.heap.size + 1 + 1 + 1, j, none⟩ = false := fun j => HZ3.out.frozen j
    go_wp2
    try rw [Exit.noGoto_ret]
    try simp only [Exit.jump]
    refine bodyPost_ret (v := .agg #[.slice e'.valid.A e'.valid.l.length e'.valid.c, .slice e'.fields.A e'.fields.l.length e'.fields.c, .slice e'.metaV.A e'.metaV.l.length e'.metaV.c, .slice e'.payload.A e'.payload.l.length e'.payload.c]) ?_ rfl ?_
    · refine results_cell_row (fn := Tryz.f76) (p := 8) (ty := 56) rfl _ _ (w.heap.size + 1 + 1 + 1) 56 #[.slice e'.valid.A e'.valid.l.length e'.valid.c, .slice e'.fields.A e'.fields.l.length e'.fields.c, .slice e'.metaV.A e'.metaV.l.length e'.metaV.c, .slice e'.payload.A e'.payload.l.length e'.payload.c] (0, 0) _ rfl ?_ Tryz.underlying56 rfl (by kernel_rfl)
      exact (((HZ3.out.set_ 0 _).set_ 1 _).set_ 2 _).set_ 3 _
    · have hsz := HSz.out
      have hle : w.heap.size ≤ w.heap.size + 1 + 1 + 1 := by omega
      exact ⟨e', by rfl, by rw [← hbe]; exact (HSn.out e' (.inl HEf.out)).symm, (HM3.out.four (by omega) _ _ _ _).lower (by omega), ((((below_step HW.out HB3.out).setCell hle _).setCell hle _).setCell hle _).setCell hle _⟩
  | true =>
  have r0 : w3.cell? ⟨w.heap.size + 1 + 1, 0, none⟩ = some (.int .i64 (k : Nat)) := (HR.out.below HB3.out HR.out.lt).cell 0
  have r1 : w3.cell? ⟨w.heap.size + 1 + 1, 1, none⟩ = some (.int .i64 f) := (HR.out.below HB3.out HR.out.lt).cell 1
  have hq1 := hp1 w3 HB3.out
  have hk0 : W.heap.size ≤ W.heap.size := Nat.le_refl _
  go_wp2_with fail
  refine (HHs.out w3 HB3.out).mono ?_
  rintro r w4 ⟨rfl, hb4⟩
  have HG4 := hi_ (HG3.out.below hb4 HG3.out.lt)
  have HM4 := hi_ (HM3.out.below hb4)
  have HB4 := hi_ (below_step HB3.out hb4)
  have HZ4 := hi_ (HZ.out.below HB4.out HZ.out.lt)
  clear r0 r1 hb4 hq1 HG3 HM3 HB3 HZ3 HHs hk0
  cases hbv : atB e.valid k with
  | false =>
    have HEf : Hid (elemB e' (k : Nat) f = false) := hi_ (by rw [HBb.out e' hbe, HEq.out, hbv]; rfl)
    clear hp1
    have k0 : w4.cell? ⟨ga, 0, none⟩ = some (.slice e'.valid.A e'.valid.l.length e'.valid.c) := HG4.out.cell 0
    have k1 : w4.cell? ⟨ga, 1, none⟩ = some (.slice e'.fields.A e'.fields.l.length e'.fields.c) := HG4.out.cell 1
    have k2 : w4.cell? ⟨ga, 2, none⟩ = some (.slice e'.metaV.A e'.metaV.l.length e'.metaV.c) := HG4.out.cell 2
    have k3 : w4.cell? ⟨ga, 3, none⟩ = some (.slice e'.payload.A e'.payload.l.length e'.payload.c) := HG4.out.cell 3
    have z0 : w4.cell? ⟨w.heap.size + 1 + 1 + 1, 0, none⟩ = some (.slice none 0 0) := HZ4.out.cell 0
    have z1 : w4.cell? ⟨w.heap.size + 1 + 1 + 1, 1, none⟩ = some (.slice none 0 0) := HZ4.out.cell 1
    have z2 : w4.cell? ⟨w.heap.size + 1 + 1 + 1, 2, none⟩ = some (.slice none 0 0) := HZ4.out.cell 2
    have z3 : w4.cell? ⟨w.heap.size + 1 + 1 + 1, 3, none⟩ = some (.slice none 0 0) := HZ4.out.cell 3
    have zf : ∀ j, w4.frozen? ⟨w.heap.size + 1 + 1 + 1, j, none⟩ = false := fun j => HZ4.out.frozen j
    go_wp2
    try rw [Exit.noGoto_ret]
    try simp only [Exit.jump]
    refine bodyPost_ret (v := .agg #[.slice e'.valid.A e'.valid.l.length e'.valid.c, .slice e'.fields.A e'.fields.l.length e'.fields.c, .slice e'.metaV.A e'.metaV.l.length e'.metaV.c, .slice e'.payload.A e'.payload.l.length e'.payload.c]) ?_ rfl ?_
    · refine results_cell_row (fn := Tryz.f76) (p := 8) (ty := 56) rfl _ _ (w.heap.size + 1 + 1 + 1) 56 #[.slice e'.valid.A e'.valid.l.length e'.valid.c, .slice e'.fields.A e'.fields.l.length e'.fields.c, .slice e'.metaV.A e'.metaV.l.length e'.metaV.c, .slice e'.payload.A e'.payload.l.length e'.payload.c] (0, 0) _ rfl ?_ Tryz.underlying56 rfl (by kernel_rfl)
      exact (((HZ4.out.set_ 0 _).set_ 1 _).set_ 2 _).set_ 3 _
    · have hsz := HSz.out
      have hle : w.heap.size ≤ w.heap.size + 1 + 1 + 1 := by omega
      exact ⟨e', by rfl, by rw [← hbe]; exact (HSn.out e' (.inl HEf.out)).symm, (HM4.out.four (by omega) _ _ _ _).lower (by omega), ((((below_step HW.out HB4.out).setCell hle _).setCell hle _).setCell hle _).setCell hle _⟩
  | true =>
  have HEt : Hid (elemB e' (k : Nat) f = true) := hi_ (by rw [HBb.out e' hbe, HEq.out, hbv, hb]; rfl)
  have hEt := HEt.out
  obtain ⟨hfl, hfk⟩ := elem_true hEt
  obtain ⟨gl, hA, hgl1, hgl2⟩ := (HM4.out.elem hEt).at (fun e1 => by rw [e1] at hfl; cases hfl)
  have HGl : Hid (W.heap.size ≤ gl ∧ gl < ga) := hi_ (HOwn.out gl hA hEt)
  have HCell : Hid (∀ u, EnvMine u W.heap.size e' → (∃ y : Int, u.cell? ⟨gl, f, none⟩ = some (.int .u32 y)) ∧ u.frozen? ⟨gl, f, none⟩ = false) := hi_ (fun u hu => by
    have ho := hu.elem hEt
    have hfl2 := hfl
    generalize elemL e' (k : Nat) = q at ho hA hfl2
    obtain ⟨ql, qA, qc⟩ := q
    simp only at hA hfl2
    subst hA
    obtain ⟨g', o', e1, d1⟩ := ucell_at (ho.ok (fun _ => rfl)).1 hfl2
    simp only at e1
    injection e1 with e1
    injection e1 with e1 e2
    subst e1 e2
    rw [Nat.zero_add] at d1
    exact ⟨⟨_, d1⟩, ho.frozen f⟩)
  have HPut := hi_ (fun u (hu : EnvMine u W.heap.size e') x => hu.put hEt hA x)
  have HSet := hi_ (HSs.out e' hEt (by omega))
  have HMd := hi_ (HMo.out hw0)
  have hfi : (f : Int) < ((elemL e' (k : Nat)).l.length : Int) := by omega
  obtain ⟨_, hk0, hkl, hke⟩ := hfk (by omega)
  rw [Int.toNat_natCast] at hkl hke
  obtain ⟨gf, hAf, hgf1, hgf2⟩ := HM4.out.fields.at (fun e1 => by rw [e1] at hkl; cases hkl)
  have HGf : Hid (W.heap.size ≤ gf ∧ gf < ga ∧ gf ≠ gl) := hi_ ⟨hgf1, HFw.out gf (by rw [L.v, hAf]; rfl), fun e1 => by
    have h9 := HM4.out.apt.xf (e'.fields.l[k]) (List.getElem_mem hkl)
    have h8 : elemL e' (k : Int) = e'.fields.l[k] := by rw [elemL, if_neg (by omega)]; exact hke hkl
    rw [h8] at hA
    exact h9 gl (by rw [L.v, hA]; rfl) (by rw [L.v, hAf, e1]; rfl)⟩
  have HSB : Hid (∀ u, Below w4.heap.size w4 u → (u.cell? ⟨ga, 1, none⟩ = some (.slice (some ⟨gf, 0, none⟩) e'.fields.l.length e'.fields.c) ∧ u.cell? ⟨w.heap.size + 1 + 1, 0, none⟩ = some (.int .i64 (k : Nat)) ∧ u.cell? ⟨w.heap.size + 1 + 1, 1, none⟩ = some (.int .i64 (f : Nat)) ∧ u.cell? ⟨gf, k, none⟩ = some (.slice (some ⟨gl, 0, none⟩) (elemL e' (k : Int)).l.length (elemL e' (k : Int)).c))) := hi_ (fun u hu => by
    refine ⟨?_, (HR.out.below (below_step HB4.out hu) HR.out.lt).cell 0, (HR.out.below (below_step HB4.out hu) HR.out.lt).cell 1, ?_⟩
    · have h9 := (HG4.out.below hu HG4.out.lt).cell 1
      rw [← hAf]
      exact h9
    · obtain ⟨g', o', e1, d1⟩ := lcell_atA ((HM4.out.below hu).fields.ok (fun _ => rfl)).1 hkl
      rw [hAf] at e1
      injection e1 with e1
      injection e1 with e1 e2
      subst e1 e2
      have d2 := d1 u (Below.refl _ _)
      rw [Nat.zero_add] at d2
      have h8 : elemL e' (k : Int) = e'.fields.l[k] := by rw [elemL, if_neg (by omega)]; exact hke hkl
      rw [← hA, h8]
      exact d2)
  have hki : (k : Int) < (e'.fields.l.length : Int) := by omega
  generalize (elemL e' (k : Nat)).l.length = qn at *
  generalize (elemL e' (k : Nat)).c = qc at *
  have hfn : e'.fields.l.length = e'.fields.l.length := rfl
  have r0 : w4.cell? ⟨w.heap.size + 1 + 1, 0, none⟩ = some (.int .i64 (k : Nat)) := (HR.out.below HB4.out HR.out.lt).cell 0
  have r1 : w4.cell? ⟨w.heap.size + 1 + 1, 1, none⟩ = some (.int .i64 f) := (HR.out.below HB4.out HR.out.lt).cell 1
  clear hA hgl1 hgl2 hfl hEt hAf hgf1 hgf2 hke
  go_upto_region 7 with fail
  have hS0 := HSB.out (w4.drew) (below_drew (Below.refl _ _))
  refine wp_region_held_drew (S := fun w' => w'.cell? ⟨ga, 1, none⟩ = some (.slice (some ⟨gf, 0, none⟩) e'.fields.l.length e'.fields.c) ∧ w'.cell? ⟨w.heap.size + 1 + 1, 0, none⟩ = some (.int .i64 (k : Nat)) ∧ w'.cell? ⟨w.heap.size + 1 + 1, 1, none⟩ = some (.int .i64 (f : Nat)) ∧ w'.cell? ⟨gf, k, none⟩ = some (.slice (some ⟨gl, 0, none⟩) qn qc)) (by kernel_rfl) hS0 (fun hHeld => ?_)
  refine wpAnyH_take (i := 0) (oi := { dst := some 48, op := Op.fieldAddr 56 (Operand.tmp 9) 1, type := 0, pos := "ref.go:137", after := #[], guard := none }) (v := ?s0v) rfl (by kernel_rfl) (by kernel_rfl) (by kernel_rfl) (fun _ _ _ h => h) (Or.inl ⟨by rfl, ?s0y⟩) (by assumption) ?s0r
  case s0y => (intro w hSw; obtain ⟨t1, t2, t3, t4⟩ := hSw; go_simp; try (with_reducible rfl))
  try simp only [Act.put, sA, sZ, sS]
  refine wpAnyH_take (i := 1) (oi := { dst := some 49, op := Op.load 52 (Operand.tmp 48), type := 52, pos := "ref.go:137", after := #[{ on := 0, ground := Ground.data }], guard := none }) (v := ?s1v) rfl (by kernel_rfl) (by kernel_rfl) (by kernel_rfl) (fun _ _ _ h => h) (Or.inl ⟨by rfl, ?s1y⟩) (by assumption) ?s1r
  case s1y => (intro w hSw; obtain ⟨t1, t2, t3, t4⟩ := hSw; go_simp; try (with_reducible rfl))
  try simp only [Act.put, sA, sZ, sS]
  refine wpAnyH_take (i := 2) (oi := { dst := some 50, op := Op.fieldAddr 98 (Operand.tmp 6) 0, type := 0, pos := "ref.go:137", after := #[], guard := none }) (v := ?s2v) rfl (by kernel_rfl) (by kernel_rfl) (by kernel_rfl) (fun _ _ _ h => h) (Or.inl ⟨by rfl, ?s2y⟩) (by assumption) ?s2r
  case s2y => (intro w hSw; obtain ⟨t1, t2, t3, t4⟩ := hSw; go_simp; try (with_reducible rfl))
  try simp only [Act.put, sA, sZ, sS]
  refine wpAnyH_take (i := 3) (oi := { dst := some 51, op := Op.load 3 (Operand.tmp 50), type := 3, pos := "ref.go:137", after := #[{ on := 2, ground := Ground.data }], guard := none }) (v := ?s3v) rfl (by kernel_rfl) (by kernel_rfl) (by kernel_rfl) (fun _ _ _ h => h) (Or.inl ⟨by rfl, ?s3y⟩) (by assumption) ?s3r
  case s3y => (intro w hSw; obtain ⟨t1, t2, t3, t4⟩ := hSw; go_simp; try (with_reducible rfl))
  try simp only [Act.put, sA, sZ, sS]
  refine wpAnyH_take (i := 4) (oi := { dst := some 52, op := Op.indexAddr 52 (Operand.tmp 49) (Operand.tmp 51), type := 0, pos := "ref.go:137", after := #[{ on := 1, ground := Ground.data }, { on := 3, ground := Ground.data }], guard := none }) (v := ?s4v) rfl (by kernel_rfl) (by kernel_rfl) (by kernel_rfl) (fun _ _ _ h => h) (Or.inl ⟨by rfl, ?s4y⟩) (by assumption) ?s4r
  case s4y => (intro w hSw; obtain ⟨t1, t2, t3, t4⟩ := hSw; go_simp; try (with_reducible rfl))
  try simp only [Act.put, sA, sZ, sS]
  refine wpAnyH_take (i := 5) (oi := { dst := some 53, op := Op.load 53 (Operand.tmp 52), type := 53, pos := "ref.go:137", after := #[{ on := 4, ground := Ground.data }], guard := none }) (v := ?s5v) rfl (by kernel_rfl) (by kernel_rfl) (by kernel_rfl) (fun _ _ _ h => h) (Or.inl ⟨by rfl, ?s5y⟩) (by assumption) ?s5r
  case s5y => (intro w hSw; obtain ⟨t1, t2, t3, t4⟩ := hSw; go_simp; try (with_reducible rfl))
  try simp only [Act.put, sA, sZ, sS]
  refine wpAnyH_take (i := 6) (oi := { dst := some 54, op := Op.fieldAddr 98 (Operand.tmp 6) 1, type := 0, pos := "ref.go:137", after := #[], guard := none }) (v := ?s6v) rfl (by kernel_rfl) (by kernel_rfl) (by kernel_rfl) (fun _ _ _ h => h) (Or.inl ⟨by rfl, ?s6y⟩) (by assumption) ?s6r
  case s6y => (intro w hSw; obtain ⟨t1, t2, t3, t4⟩ := hSw; go_simp; try (with_reducible rfl))
  try simp only [Act.put, sA, sZ, sS]
  refine wpAnyH_take (i := 7) (oi := { dst := some 55, op := Op.load 3 (Operand.tmp 54), type := 3, pos := "ref.go:137", after := #[{ on := 6, ground := Ground.data }], guard := none }) (v := ?s7v) rfl (by kernel_rfl) (by kernel_rfl) (by kernel_rfl) (fun _ _ _ h => h) (Or.inl ⟨by rfl, ?s7y⟩) (by assumption) ?s7r
  case s7y => (intro w hSw; obtain ⟨t1, t2, t3, t4⟩ := hSw; go_simp; try (with_reducible rfl))
  try simp only [Act.put, sA, sZ, sS]
  refine wpAnyH_take (i := 8) (oi := { dst := some 56, op := Op.move (Operand.tmp 3), type := 83, pos := "ref.go:137", after := #[], guard := none }) (v := ?s8v) rfl (by kernel_rfl) (by kernel_rfl) (by kernel_rfl) (fun _ _ _ h => h) (Or.inl ⟨by rfl, ?s8y⟩) (by assumption) ?s8r
  case s8y => (intro w hSw; obtain ⟨t1, t2, t3, t4⟩ := hSw; go_simp; try (with_reducible rfl))
  try simp only [Act.put, sA, sZ, sS]
  refine wpAnyH_take (i := 9) (oi := { dst := some 57, op := Op.move (Operand.tmp 10), type := 3, pos := "ref.go:137", after := #[], guard := none }) (v := ?s9v) rfl (by kernel_rfl) (by kernel_rfl) (by kernel_rfl) (fun _ _ _ h => h) (Or.inl ⟨by rfl, ?s9y⟩) (by assumption) ?s9r
  case s9y => (intro w hSw; obtain ⟨t1, t2, t3, t4⟩ := hSw; go_simp; try (with_reducible rfl))
  try simp only [Act.put, sA, sZ, sS]
  refine wpAnyH_ready (rs := [10]) (by kernel_rfl) (by simp) ?_
  refine AllReadyH.cons (o := { dst := some 58, op := Op.call { callee := Callee.value (Operand.func 115), args := #[Operand.tmp 56, Operand.tmp 57], argTypes := #[83, 3] }, type := 83, pos := "ref.go:137", after := #[{ on := 8, ground := Ground.data }, { on := 9, ground := Ground.data }], guard := none }) rfl (fun K hK => ?_) AllReadyH.nil
  go_simp
  go_at_call 115
  refine (HMd.out _).mono ?_
  rintro r w6 ⟨rfl, hb6⟩
  have hb6' : Below w4.heap.size w4 w6 := by rw [← hb6]; exact below_drew (Below.refl _ _)
  clear hb6
  have HM6 := hi_ (HM4.out.below hb6')
  have HB6 := hi_ (below_step HB4.out hb6')
  have hS6 := HSB.out w6 hb6'
  have HG6 := hi_ (HG4.out.below hb6' HG4.out.lt)
  refine hK.out _ _ hS6 (fun hHeld2 => ?_)
  clear hK K hb6' r0 r1
  try simp only [Act.put, sA, sZ, sS]
  refine wpAnyH_take (i := 11) (oi := { dst := some 59, op := Op.indexAddr 53 (Operand.tmp 53) (Operand.tmp 55), type := 0, pos := "ref.go:137", after := #[{ on := 5, ground := Ground.data }, { on := 7, ground := Ground.data }, { on := 0, ground := Ground.phase }, { on := 1, ground := Ground.phase }, { on := 2, ground := Ground.phase }, { on := 3, ground := Ground.phase }, { on := 4, ground := Ground.phase }, { on := 5, ground := Ground.phase }, { on := 6, ground := Ground.phase }, { on := 7, ground := Ground.phase }, { on := 8, ground := Ground.phase }, { on := 9, ground := Ground.phase }, { on := 10, ground := Ground.phase }], guard := none }) (v := ?s11v) rfl (by kernel_rfl) (by kernel_rfl) (by kernel_rfl) (fun _ _ _ h => h) (Or.inl ⟨by rfl, ?s11y⟩) (by assumption) ?s11r
  case s11y => (intro w hSw; obtain ⟨t1, t2, t3, t4⟩ := hSw; go_simp; try (with_reducible rfl))
  try simp only [Act.put, sA, sZ, sS]
  refine wpAnyH_ready (rs := [12]) (by kernel_rfl) (by simp) ?_
  refine AllReadyH.cons (o := { dst := none, op := Op.store 83 (Operand.tmp 59) (Operand.tmp 58), type := 0, pos := "ref.go:137", after := #[{ on := 11, ground := Ground.data }, { on := 10, ground := Ground.data }, { on := 10, ground := Ground.chain }, { on := 0, ground := Ground.phase }, { on := 1, ground := Ground.phase }, { on := 2, ground := Ground.phase }, { on := 3, ground := Ground.phase }, { on := 4, ground := Ground.phase }, { on := 5, ground := Ground.phase }, { on := 6, ground := Ground.phase }, { on := 7, ground := Ground.phase }, { on := 8, ground := Ground.phase }, { on := 9, ground := Ground.phase }, { on := 10, ground := Ground.phase }], guard := none }) rfl (fun K hK => ?_) AllReadyH.nil
  obtain ⟨⟨y0, e0⟩, f0⟩ := HCell.out w6 HM6.out
  go_simp
  have far : ∀ (b i : Nat), b ≠ gl → (w6.setCell ⟨gl, f, none⟩ (.int .u32 (bits .and .u32 v (maskM wd)))).cell? ⟨b, i, none⟩ = w6.cell? ⟨b, i, none⟩ := fun b i hne => World.cell?_setCell_far _ _ _ _ (by exact fun e => hne e.symm)
  have hS7 : (fun w' => w'.cell? ⟨ga, 1, none⟩ = some (.slice (some ⟨gf, 0, none⟩) e'.fields.l.length e'.fields.c) ∧ w'.cell? ⟨w.heap.size + 1 + 1, 0, none⟩ = some (.int .i64 (k : Nat)) ∧ w'.cell? ⟨w.heap.size + 1 + 1, 1, none⟩ = some (.int .i64 (f : Nat)) ∧ w'.cell? ⟨gf, k, none⟩ = some (.slice (some ⟨gl, 0, none⟩) qn qc)) (w6.setCell ⟨gl, f, none⟩ (.int .u32 (bits .and .u32 v (maskM wd)))) := by
    have h8 := HGl.out; have h7 := HSz.out; have h6 := HGf.out
    refine ⟨(far _ _ (by omega)).trans hS6.1, (far _ _ (by omega)).trans hS6.2.1, (far _ _ (by omega)).trans hS6.2.2.1, (far _ _ (by omega)).trans hS6.2.2.2⟩
  refine hK.out _ _ hS7 (fun hHeld3 => ?_)
  clear hK K
  try simp only [Act.put, sA, sZ, sS]
  refine wpAnyH_done (by kernel_rfl) ?_ _
  have HB7 : Hid (Below W.heap.size W (w6.setCell ⟨gl, f, none⟩ (.int .u32 (bits .and .u32 v (maskM wd))))) := hi_ (HB6.out.setCell (by exact HGl.out.1) _)
  have HM7 := hi_ (HPut.out w6 HM6.out (bits .and .u32 v (maskM wd)))
  have HG7 := hi_ (HG6.out.far (p := ⟨gl, f, none⟩) (by show ga ≠ gl; have := HGl.out; omega) (.int .u32 (bits .and .u32 v (maskM wd))))
  have HZ7 := hi_ (HZ.out.below HB7.out HZ.out.lt)
  clear hHeld hHeld2 hHeld3 e0 f0 hS0 hS6 hS7 HM6 HB6 HG6 HM4 HG4 HB4 HZ4 HSB far
  generalize w6.setCell ⟨gl, f, none⟩ (.int .u32 (bits .and .u32 v (maskM wd))) = w7 at *
  have k0 : w7.cell? ⟨ga, 0, none⟩ = some (.slice e'.valid.A e'.valid.l.length e'.valid.c) := HG7.out.cell 0
  have k1 : w7.cell? ⟨ga, 1, none⟩ = some (.slice e'.fields.A e'.fields.l.length e'.fields.c) := HG7.out.cell 1
  have k2 : w7.cell? ⟨ga, 2, none⟩ = some (.slice e'.metaV.A e'.metaV.l.length e'.metaV.c) := HG7.out.cell 2
  have k3 : w7.cell? ⟨ga, 3, none⟩ = some (.slice e'.payload.A e'.payload.l.length e'.payload.c) := HG7.out.cell 3
  have z0 : w7.cell? ⟨w.heap.size + 1 + 1 + 1, 0, none⟩ = some (.slice none 0 0) := HZ7.out.cell 0
  have z1 : w7.cell? ⟨w.heap.size + 1 + 1 + 1, 1, none⟩ = some (.slice none 0 0) := HZ7.out.cell 1
  have z2 : w7.cell? ⟨w.heap.size + 1 + 1 + 1, 2, none⟩ = some (.slice none 0 0) := HZ7.out.cell 2
  have z3 : w7.cell? ⟨w.heap.size + 1 + 1 + 1, 3, none⟩ = some (.slice none 0 0) := HZ7.out.cell 3
  have zf : ∀ j, w7.frozen? ⟨w.heap.size + 1 + 1 + 1, j, none⟩ = false := fun j => HZ7.out.frozen j
  go_wp2
  try rw [Exit.noGoto_ret]
  try simp only [Exit.jump]
  refine bodyPost_ret (v := .agg #[.slice e'.valid.A e'.valid.l.length e'.valid.c, .slice e'.fields.A e'.fields.l.length e'.fields.c, .slice e'.metaV.A e'.metaV.l.length e'.metaV.c, .slice e'.payload.A e'.payload.l.length e'.payload.c]) ?_ rfl ?_
  · refine results_cell_row (fn := Tryz.f76) (p := 8) (ty := 56) rfl _ _ (w.heap.size + 1 + 1 + 1) 56 #[.slice e'.valid.A e'.valid.l.length e'.valid.c, .slice e'.fields.A e'.fields.l.length e'.fields.c, .slice e'.metaV.A e'.metaV.l.length e'.metaV.c, .slice e'.payload.A e'.payload.l.length e'.payload.c] (0, 0) _ rfl ?_ Tryz.underlying56 rfl (by kernel_rfl)
    exact (((HZ7.out.set_ 0 _).set_ 1 _).set_ 2 _).set_ 3 _
  · have hsz := HSz.out
    have hle : w.heap.size ≤ w.heap.size + 1 + 1 + 1 := by omega
    exact ⟨setD e' (k : Nat) f (bits .and .u32 v (maskM wd)), by rw [setD_cells], by rw [HSet.out, hbe], (HM7.out.four (by omega) _ _ _ _).lower (by omega), ((((below_step HW.out HB7.out).setCell hle _).setCell hle _).setCell hle _).setCell hle _⟩
theorem EnvMine.at_blk {w1 V : World} {B : Nat} {e : EnvD} (h : EnvMine w1 B e) (hV : V = w1.alloc (.cells (envCells e) 56)) : EnvBlk V B w1.heap.size e :=
  ⟨by rw [hV]; exact h.below (below1 _ _), by rw [hV]; exact Blk.new _ _ _, OffB.old h.valid, OffB.old h.metaV, OffB.old h.payload, OffB.old h.fields, fun x hx => OffB.old (h.each x hx)⟩
theorem EnvBlk.putV {w : World} {B ga gl : Nat} {e : EnvD} (h : EnvBlk w B ga e) (hA : e.valid.A = some ⟨gl, 0, none⟩) (k : Nat) (b : Bool) :
    EnvBlk (w.setCell ⟨gl, k, none⟩ (.bool b)) B ga ⟨⟨e.valid.l.set k b, e.valid.A, e.valid.c⟩, e.fields, e.metaV, e.payload⟩ := by
  have hne : ga ≠ gl := fun e1 => h.ov gl (by rw [L.v, hA]; rfl) e1.symm
  refine ⟨h.env.putV hA k b, ?_, ?_, h.om, h.op, h.of, h.ox⟩
  · have h9 := h.blk.far (p := ⟨gl, k, none⟩) (by show ga ≠ gl; exact hne) (.bool b)
    have e9 : envCells ⟨⟨e.valid.l.set k b, e.valid.A, e.valid.c⟩, e.fields, e.metaV, e.payload⟩ = envCells e := by simp [envCells]
    rw [e9]; exact h9
  · intro b' e1; exact h.ov b' (by rw [← e1]; simp [L.v])
theorem row_at {u : World} {B gf k : Nat} {x : L (L Int)} (ho : OwnL u B 53 lcell x) (hA : x.A = some ⟨gf, 0, none⟩) (hk : k < x.l.length) : u.cell? ⟨gf, k, none⟩ = some (x.l[k]).v ∧ u.frozen? ⟨gf, k, none⟩ = false := by
  obtain ⟨l, A, c⟩ := x
  simp only at hA hk ⊢
  subst hA
  refine ⟨?_, ho.frozen k⟩
  obtain ⟨g', o', e1, d1⟩ := lcell_atA (ho.ok (fun _ => rfl)).1 hk
  simp only at e1
  injection e1 with e1
  injection e1 with e1 e2
  subst e1 e2
  have d2 := d1 u (Below.refl _ _)
  rw [Nat.zero_add] at d2
  exact d2
theorem validity_any (e : EnvD) (k : Nat) (w : World) (oe : EnvOk w e) (hf : EnvFit e.bare) (hkv : k < e.bare.valid.length) (hkf : k < e.bare.fields.length) :
    Calls Tryz.prog 112 #[.agg (envCells e), .int .i64 k, .bool true] w fun r w' => ∃ e', r = .returned (.agg (envCells e')) ∧ e'.bare = ⟨e.bare.valid.set k true, e.bare.fields.set k (List.replicate (e.bare.fields.getD k []).length 0), e.bare.metaV, e.bare.payload⟩ ∧ EnvMine w' w.heap.size e' ∧ Below w.heap.size w w' := by
  obtain ⟨W, hW⟩ : ∃ W, W = (w.alloc (.cells (envCells e) 56)).alloc (.cells #[.slice none 0 0, .slice none 0 0, .slice none 0 0, .slice none 0 0] 56) := ⟨_, rfl⟩
  have hw : Below w.heap.size w W := by rw [hW]; exact below2 _ _ _
  have HW := hi_ hw
  have HSz : Hid (W.heap.size = w.heap.size + 1 + 1) := hi_ (by rw [hW]; simp)
  have HE : Hid (Blk W w.heap.size 56 (envCells e)) := hi_ (by rw [hW]; exact (Blk.new _ _ _).alloc _)
  have HZ : Hid (Blk W (w.heap.size + 1) 56 #[.slice none 0 0, .slice none 0 0, .slice none 0 0, .slice none 0 0]) := hi_ (by rw [hW]; simpa using Blk.new (w.alloc (.cells (envCells e) 56)) 56 #[.slice none 0 0, .slice none 0 0, .slice none 0 0, .slice none 0 0])
  have HCl := hi_ (rclone_any e W (oe.below hw) hf)
  have hq1 := blk_cells' (n := 4) HE.out W (Below.refl _ _)
  have HFt := hi_ hf
  clear oe hw
  go_enter Tryz.func112, Tryz.ntmps112
  go_upto_region 1 with fail
  rw [← hW]
  clear hW
  go_wp2_with fail
  refine HCl.out.mono ?_
  rintro r w1 ⟨e', rfl, hbe, hm, hb1⟩
  rw [← hbe] at hkv hkf hf
  have HFx : Hid (∀ x ∈ e'.fields.l, x.l.length ≤ 1000) := hi_ (fun x hx => hf.each _ (List.mem_map_of_mem hx))
  have HM1 := hi_ hm
  have HB1 := hi_ hb1
  have HBe := hi_ hbe
  clear hbe hm hb1 hq1 HCl HE hf
  have hkv' : k < e'.valid.l.length := hkv
  have hkf' : k < e'.fields.l.length := by have := hkf; simpa [EnvD.bare] using this
  refine Exists.elim (⟨_, rfl⟩ : ∃ V, V = w1.alloc (.cells (envCells e') 56)) fun V hV => ?_
  have HKV : Hid (EnvBlk V W.heap.size w1.heap.size e') := hi_ (HM1.out.at_blk hV)
  have HBV : Hid (Below W.heap.size W V) := hi_ (by rw [hV]; exact below_step HB1.out (below1 _ _))
  go_upto_region 2 with fail
  rw [← hV]
  clear hV HM1 HB1 hkv hkf
  generalize w1.heap.size = ga at *
  obtain ⟨gv, hAv, hgv1, hgv2⟩ := HKV.out.env.valid.at (fun e1 => by rw [e1] at hkv'; cases hkv')
  have HAv := hi_ hAv
  have k0 : V.cell? ⟨ga, 0, none⟩ = some (.slice (some ⟨gv, 0, none⟩) e'.valid.l.length e'.valid.c) := by rw [← hAv]; exact HKV.out.blk.cell 0
  obtain ⟨y0, c0⟩ : ∃ y, V.cell? ⟨gv, k, none⟩ = some (.bool y) := by
    have ho := HKV.out.env.valid
    obtain ⟨g', o', e1, d1⟩ := bcell_atA (ho.ok (fun _ => rfl)).1 hkv'
    rw [hAv] at e1
    injection e1 with e1
    injection e1 with e1 e2
    subst e1 e2
    have d2 := d1 V (Below.refl _ _)
    rw [Nat.zero_add] at d2
    exact ⟨_, d2⟩
  have f0 : V.frozen? ⟨gv, k, none⟩ = false := by
    have ho := HKV.out.env.valid
    rcases hvv : e'.valid with ⟨ql, qA, qc⟩
    rw [hvv] at ho hAv
    simp only at hAv
    subst hAv
    exact ho.frozen k
  have hki : (k : Int) < (e'.valid.l.length : Int) := by omega
  go_upto_region 3 with fail
  refine Exists.elim (⟨_, rfl⟩ : ∃ U, U = V.setCell ⟨gv, k, none⟩ (.bool true)) fun U hU => ?_
  have HK : Hid (EnvBlk U W.heap.size ga ⟨⟨e'.valid.l.set k true, e'.valid.A, e'.valid.c⟩, e'.fields, e'.metaV, e'.payload⟩) := hi_ (by rw [hU]; exact HKV.out.putV HAv.out k true)
  have HB : Hid (Below W.heap.size W U) := hi_ (by rw [hU]; exact HBV.out.setCell (by exact hgv1) _)
  have hU2 : V.setCell ⟨gv, k, none⟩ (.bool true) = U := hU.symm
  try rw [hU2]
  clear hU hU2 k0 c0 f0 HKV HBV hgv1 hgv2 hki hAv
  obtain ⟨gf, hAf, hgf1, hgf2⟩ := HK.out.env.fields.at (fun e1 => by have e2 : e'.fields.l = [] := e1; rw [e2] at hkf'; cases hkf')
  simp only at hAf
  have HAf := hi_ hAf
  have k1 : U.cell? ⟨ga, 1, none⟩ = some (.slice (some ⟨gf, 0, none⟩) e'.fields.l.length e'.fields.c) := by rw [← hAf]; exact HK.out.blk.cell 1
  have HCx : Hid (∀ u, Below U.heap.size U u → u.cell? ⟨gf, k, none⟩ = some (e'.fields.l[k]).v ∧ u.frozen? ⟨gf, k, none⟩ = false) := hi_ (fun u hu => by
    exact row_at (HK.out.below hu).env.fields HAf.out hkf')
  have hn3 : e'.fields.l[k].l.length ≤ 1000 := HFx.out _ (List.getElem_mem hkf')
  have HXl : Hid (e.bare.fields.getD k [] = e'.fields.l[k].l) := hi_ (by
    rw [← HBe.out, List.getD_eq_getElem?_getD]
    show ((e'.fields.l.map L.l)[k]?).getD [] = _
    rw [List.getElem?_map, List.getElem?_eq_getElem hkf']
    rfl)
  have hkn : (k : Int) < (e'.fields.l.length : Int) := by omega
  have hgane : ga ≠ gf := fun e1 => HK.out.of gf (by rw [L.v, HAf.out]; rfl) e1.symm
  rcases he : e'.fields.l[k] with ⟨xl, xA, xc⟩
  rw [he] at HCx hn3 HXl
  simp only [L.v] at HCx hn3 HXl
  obtain ⟨n, hn⟩ : ∃ n, n = xl.length := ⟨_, rfl⟩
  rw [← hn] at HCx hn3
  have HNn := hi_ hn
  clear he hn hAf
  obtain ⟨i0, hi, hz0, hz1, hz2⟩ := info_parts info_u32
  go_upto_region 4 with fail
  have hS0 : U.drew.cell? ⟨ga, 1, none⟩ = some (.slice (some ⟨gf, 0, none⟩) e'.fields.l.length e'.fields.c) := k1
  clear k1
  refine wp_region_held_drew (S := fun w' => w'.cell? ⟨ga, 1, none⟩ = some (.slice (some ⟨gf, 0, none⟩) e'.fields.l.length e'.fields.c)) (by kernel_rfl) hS0 (fun hHeld => ?_)
  refine wpAnyH_take (i := 0) (oi := { dst := some 20, op := Op.fieldAddr 56 (Operand.tmp 7) 1, type := 0, pos := "ref.go:147", after := #[], guard := none }) (v := ?s0v) rfl (by kernel_rfl) (by kernel_rfl) (by kernel_rfl) (fun _ _ _ h => h) (Or.inl ⟨by rfl, ?s0y⟩) (by assumption) ?s0r
  case s0y => (intro w hSw; (try dsimp only at hSw); go_simp; try (with_reducible rfl))
  try simp only [Act.put, sA, sZ, sS]
  refine wpAnyH_take (i := 1) (oi := { dst := some 21, op := Op.load 52 (Operand.tmp 20), type := 52, pos := "ref.go:147", after := #[{ on := 0, ground := Ground.data }], guard := none }) (v := ?s1v) rfl (by kernel_rfl) (by kernel_rfl) (by kernel_rfl) (fun _ _ _ h => h) (Or.inl ⟨by rfl, ?s1y⟩) (by assumption) ?s1r
  case s1y => (intro w hSw; (try dsimp only at hSw); go_simp; try (with_reducible rfl))
  try simp only [Act.put, sA, sZ, sS]
  refine wpAnyH_take (i := 2) (oi := { dst := some 22, op := Op.move (Operand.tmp 1), type := 3, pos := "ref.go:147", after := #[], guard := none }) (v := ?s2v) rfl (by kernel_rfl) (by kernel_rfl) (by kernel_rfl) (fun _ _ _ h => h) (Or.inl ⟨by rfl, ?s2y⟩) (by assumption) ?s2r
  case s2y => (intro w hSw; (try dsimp only at hSw); go_simp; try (with_reducible rfl))
  try simp only [Act.put, sA, sZ, sS]
  refine wpAnyH_take (i := 3) (oi := { dst := some 23, op := Op.fieldAddr 56 (Operand.tmp 7) 1, type := 0, pos := "ref.go:147", after := #[], guard := none }) (v := ?s3v) rfl (by kernel_rfl) (by kernel_rfl) (by kernel_rfl) (fun _ _ _ h => h) (Or.inl ⟨by rfl, ?s3y⟩) (by assumption) ?s3r
  case s3y => (intro w hSw; (try dsimp only at hSw); go_simp; try (with_reducible rfl))
  try simp only [Act.put, sA, sZ, sS]
  refine wpAnyH_take (i := 4) (oi := { dst := some 24, op := Op.load 52 (Operand.tmp 23), type := 52, pos := "ref.go:147", after := #[{ on := 3, ground := Ground.data }], guard := none }) (v := ?s4v) rfl (by kernel_rfl) (by kernel_rfl) (by kernel_rfl) (fun _ _ _ h => h) (Or.inl ⟨by rfl, ?s4y⟩) (by assumption) ?s4r
  case s4y => (intro w hSw; (try dsimp only at hSw); go_simp; try (with_reducible rfl))
  try simp only [Act.put, sA, sZ, sS]
  refine wpAnyH_take (i := 5) (oi := { dst := some 25, op := Op.move (Operand.tmp 1), type := 3, pos := "ref.go:147", after := #[], guard := none }) (v := ?s5v) rfl (by kernel_rfl) (by kernel_rfl) (by kernel_rfl) (fun _ _ _ h => h) (Or.inl ⟨by rfl, ?s5y⟩) (by assumption) ?s5r
  case s5y => (intro w hSw; (try dsimp only at hSw); go_simp; try (with_reducible rfl))
  try simp only [Act.put, sA, sZ, sS]
  refine wpAnyH_take (i := 6) (oi := { dst := some 26, op := Op.indexAddr 52 (Operand.tmp 24) (Operand.tmp 25), type := 0, pos := "ref.go:147", after := #[{ on := 4, ground := Ground.data }, { on := 5, ground := Ground.data }], guard := none }) (v := ?s6v) rfl (by kernel_rfl) (by kernel_rfl) (by kernel_rfl) (fun _ _ _ h => h) (Or.inl ⟨by rfl, ?s6y⟩) (by assumption) ?s6r
  case s6y => (intro w hSw; (try dsimp only at hSw); go_simp; try (with_reducible rfl))
  try simp only [Act.put, sA, sZ, sS]
  refine wpAnyH_ready (rs := [7]) (by kernel_rfl) (by simp) ?_
  refine AllReadyH.cons (o := { dst := some 27, op := Op.load 53 (Operand.tmp 26), type := 53, pos := "ref.go:147", after := #[{ on := 6, ground := Ground.data }], guard := none }) rfl (fun K hK => ?_) AllReadyH.nil
  have dx := (HCx.out U.drew (below_drew (Below.refl _ _))).1
  go_simp
  refine hK.out _ _ hS0 (fun hHeld2 => ?_)
  clear hK K dx
  try simp only [Act.put, sA, sZ, sS]
  refine wpAnyH_take (i := 8) (oi := { dst := some 28, op := Op.call { callee := Callee.builtin Builtin.len, args := #[Operand.tmp 27], argTypes := #[53] }, type := 3, pos := "ref.go:147", after := #[{ on := 7, ground := Ground.data }], guard := none }) (v := ?s8v) rfl (by kernel_rfl) (by kernel_rfl) (by kernel_rfl) (fun _ _ _ h => h) (Or.inl ⟨by rfl, ?s8y⟩) (by assumption) ?s8r
  case s8y => (intro w hSw; (try dsimp only at hSw); go_simp; try (with_reducible rfl))
  try simp only [Act.put, sA, sZ, sS]
  refine wpAnyH_ready (rs := [9]) (by kernel_rfl) (by simp) ?_
  refine AllReadyH.cons (o := { dst := some 29, op := Op.makeSlice 53 (Operand.tmp 28) (Operand.tmp 28), type := 53, pos := "ref.go:147", after := #[{ on := 8, ground := Ground.data }, { on := 8, ground := Ground.data }], guard := none }) rfl (fun K hK => ?_) AllReadyH.nil
  obtain ⟨w1', hrun, hrow, hgr⟩ := run_make_full (P := Tryz.prog) (w := U.drew) U.heap.size 53 83 i0 _ 1 Tryz.underlying53 hi hz0 hz1 .i64 .i64 n (by rw [hz2]; omega) (by unfold maxLen; omega) (Nat.le_refl _)
  have hb1 := below_drew_none hgr
  have HOx : Hid (OwnL w1' U.heap.size 83 ucell ⟨List.replicate n 0, some ⟨U.heap.size, 0, none⟩, n⟩) := hi_ (by
    rw [made_zero3] at hrow
    unfold OwnL
    simp only [L.v, List.length_replicate]
    exact hrow)
  have hS1 : w1'.cell? ⟨ga, 1, none⟩ = some (.slice (some ⟨gf, 0, none⟩) e'.fields.l.length e'.fields.c) := (hb1.cell HK.out.blk.lt).trans hS0
  obtain ⟨d1, f1⟩ := HCx.out w1' hb1
  have hK2 := hK.out
  clear hK
  go_simp
  refine hK2 _ _ hS1 (fun hHeld3 => ?_)
  clear hK2 K hrun
  try simp only [Act.put, sA, sZ, sS]
  refine wpAnyH_take (i := 10) (oi := { dst := some 30, op := Op.indexAddr 52 (Operand.tmp 21) (Operand.tmp 22), type := 0, pos := "ref.go:147", after := #[{ on := 1, ground := Ground.data }, { on := 2, ground := Ground.data }, { on := 0, ground := Ground.phase }, { on := 1, ground := Ground.phase }, { on := 2, ground := Ground.phase }, { on := 3, ground := Ground.phase }, { on := 4, ground := Ground.phase }, { on := 5, ground := Ground.phase }, { on := 6, ground := Ground.phase }, { on := 7, ground := Ground.phase }, { on := 8, ground := Ground.phase }, { on := 9, ground := Ground.phase }], guard := none }) (v := ?s10v) rfl (by kernel_rfl) (by kernel_rfl) (by kernel_rfl) (fun _ _ _ h => h) (Or.inl ⟨by rfl, ?s10y⟩) (by assumption) ?s10r
  case s10y => (intro w hSw; (try dsimp only at hSw); go_simp; try (with_reducible rfl))
  try simp only [Act.put, sA, sZ, sS]
  refine wpAnyH_ready (rs := [11]) (by kernel_rfl) (by simp) ?_
  refine AllReadyH.cons (o := { dst := none, op := Op.store 53 (Operand.tmp 30) (Operand.tmp 29), type := 0, pos := "ref.go:147", after := #[{ on := 10, ground := Ground.data }, { on := 9, ground := Ground.data }, { on := 0, ground := Ground.phase }, { on := 1, ground := Ground.phase }, { on := 2, ground := Ground.phase }, { on := 3, ground := Ground.phase }, { on := 4, ground := Ground.phase }, { on := 5, ground := Ground.phase }, { on := 6, ground := Ground.phase }, { on := 7, ground := Ground.phase }, { on := 8, ground := Ground.phase }, { on := 9, ground := Ground.phase }], guard := none }) rfl (fun K hK => ?_) AllReadyH.nil
  have hK2 := hK.out
  clear hK
  go_simp
  have hS2 : (w1'.setCell ⟨gf, k, none⟩ (.slice (some ⟨U.heap.size, 0, none⟩) n n)).cell? ⟨ga, 1, none⟩ = some (.slice (some ⟨gf, 0, none⟩) e'.fields.l.length e'.fields.c) := by
    rw [World.cell?_setCell_far _ _ _ _ (by show gf ≠ ga; exact fun e => hgane e.symm)]; exact hS1
  refine hK2 _ _ hS2 (fun hHeld4 => ?_)
  clear hK2 K
  try simp only [Act.put, sA, sZ, sS]
  refine wpAnyH_done (by kernel_rfl) ?_ _
  have HK2 := hi_ (HK.out.setRow (k := k) HB.out.size hb1 HOx.out HAf.out)
  simp only [L.v, List.length_replicate] at HK2
  have HB2 : Hid (Below W.heap.size W (w1'.setCell ⟨gf, k, none⟩ (.slice (some ⟨U.heap.size, 0, none⟩) n n))) := hi_ ((below_step HB.out hb1).setCell (by exact hgf1) _)
  clear hHeld hHeld2 hHeld3 hHeld4 hS0 hS1 hS2 d1 f1 hrow hgr hb1 HOx HCx HK HB hi hz0 hz1 hz2
  generalize w1'.setCell ⟨gf, k, none⟩ (.slice (some ⟨U.heap.size, 0, none⟩) n n) = w7 at *
  obtain ⟨e3, he3⟩ : ∃ e3 : EnvD, e3 = ⟨⟨e'.valid.l.set k true, e'.valid.A, e'.valid.c⟩, ⟨e'.fields.l.set k ⟨List.replicate n 0, some ⟨U.heap.size, 0, none⟩, n⟩, e'.fields.A, e'.fields.c⟩, e'.metaV, e'.payload⟩ := ⟨_, rfl⟩
  have HB3 : Hid (e3.bare = ⟨e.bare.valid.set k true, e.bare.fields.set k (List.replicate (e.bare.fields.getD k []).length 0), e.bare.metaV, e.bare.payload⟩) := hi_ (by
    rw [HXl.out, ← HNn.out, ← HBe.out, he3]
    simp [EnvD.bare, List.map_set])
  rw [← he3] at HK2
  clear he3
  have k0 : w7.cell? ⟨ga, 0, none⟩ = some (.slice e3.valid.A e3.valid.l.length e3.valid.c) := HK2.out.blk.cell 0
  have k1 : w7.cell? ⟨ga, 1, none⟩ = some (.slice e3.fields.A e3.fields.l.length e3.fields.c) := HK2.out.blk.cell 1
  have k2 : w7.cell? ⟨ga, 2, none⟩ = some (.slice e3.metaV.A e3.metaV.l.length e3.metaV.c) := HK2.out.blk.cell 2
  have k3 : w7.cell? ⟨ga, 3, none⟩ = some (.slice e3.payload.A e3.payload.l.length e3.payload.c) := HK2.out.blk.cell 3
  have HZ7 := hi_ (HZ.out.below HB2.out HZ.out.lt)
  have HM7 := hi_ HK2.out.env
  clear HK2
  have z0 : w7.cell? ⟨w.heap.size + 1, 0, none⟩ = some (.slice none 0 0) := HZ7.out.cell 0
  have z1 : w7.cell? ⟨w.heap.size + 1, 1, none⟩ = some (.slice none 0 0) := HZ7.out.cell 1
  have z2 : w7.cell? ⟨w.heap.size + 1, 2, none⟩ = some (.slice none 0 0) := HZ7.out.cell 2
  have z3 : w7.cell? ⟨w.heap.size + 1, 3, none⟩ = some (.slice none 0 0) := HZ7.out.cell 3
  have zf : ∀ j, w7.frozen? ⟨w.heap.size + 1, j, none⟩ = false := fun j => HZ7.out.frozen j
  go_wp2
  try rw [Exit.noGoto_ret]
  try simp only [Exit.jump]
  refine bodyPost_ret (v := .agg #[.slice e3.valid.A e3.valid.l.length e3.valid.c, .slice e3.fields.A e3.fields.l.length e3.fields.c, .slice e3.metaV.A e3.metaV.l.length e3.metaV.c, .slice e3.payload.A e3.payload.l.length e3.payload.c]) ?_ rfl ?_
  · refine results_cell_row (fn := Tryz.f112) (p := 6) (ty := 56) rfl _ _ (w.heap.size + 1) 56 #[.slice e3.valid.A e3.valid.l.length e3.valid.c, .slice e3.fields.A e3.fields.l.length e3.fields.c, .slice e3.metaV.A e3.metaV.l.length e3.metaV.c, .slice e3.payload.A e3.payload.l.length e3.payload.c] (0, 0) _ rfl ?_ Tryz.underlying56 rfl (by kernel_rfl)
    exact (((HZ7.out.set_ 0 _).set_ 1 _).set_ 2 _).set_ 3 _
  · have hsz := HSz.out
    have hle : w.heap.size ≤ w.heap.size + 1 := by omega
    exact ⟨e3, by rfl, HB3.out, (HM7.out.four (by omega) _ _ _ _).lower (by omega), ((((below_step HW.out HB2.out).setCell hle _).setCell hle _).setCell hle _).setCell hle _⟩
theorem raddHeader_any (p : ProgD) (e : EnvD) (k : Nat) (w : World) (hk : k < p.headers.l.length) (oe : EnvOk w e) (hf : EnvFit e.bare) (hkv : k < e.bare.valid.length) (hkf : k < e.bare.fields.length) :
    Calls Tryz.prog 75 #[.agg (progCells p), .agg (envCells e), .int .i64 k] w fun r w' => ∃ e', r = .returned (.agg (envCells e')) ∧ e'.bare = addE p e.bare k ∧ EnvMine w' w.heap.size e' ∧ Below w.heap.size w w' := by
  obtain ⟨W, hW⟩ : ∃ W, W = ((w.alloc (.cells (progCells p) 31)).alloc (.cells (envCells e) 56)).alloc (.cells #[.slice none 0 0, .slice none 0 0, .slice none 0 0, .slice none 0 0] 56) := ⟨_, rfl⟩
  have hw : Below w.heap.size w W := by rw [hW]; exact below3 _ _ _ _
  have HW := hi_ hw
  have HSz : Hid (W.heap.size = w.heap.size + 1 + 1 + 1) := hi_ (by rw [hW]; simp)
  have HP : Hid (Blk W w.heap.size 31 (progCells p)) := hi_ (by rw [hW]; exact ((Blk.new _ _ _).alloc _).alloc _)
  have HE : Hid (Blk W (w.heap.size + 1) 56 (envCells e)) := hi_ (by rw [hW]; exact (by simpa using Blk.new (w.alloc (.cells (progCells p) 31)) 56 (envCells e) : Blk _ (w.heap.size + 1) _ _).alloc _)
  have HZ : Hid (Blk W (w.heap.size + 1 + 1) 56 #[.slice none 0 0, .slice none 0 0, .slice none 0 0, .slice none 0 0]) := hi_ (by rw [hW]; simpa using Blk.new ((w.alloc (.cells (progCells p) 31)).alloc (.cells (envCells e) 56)) 56 #[.slice none 0 0, .slice none 0 0, .slice none 0 0, .slice none 0 0])
  have HVy := hi_ (validity_any e k W (oe.below hw) hf hkv hkf)
  have HCl := hi_ (rclone_any e W (oe.below hw) hf)
  have hq0 := And.intro (blk_cells' (n := 9) HP.out W (Below.refl _ _)) (blk_cells' (n := 4) HE.out W (Below.refl _ _))
  have hkv' : k < e.valid.l.length := hkv
  have OW := oe.below hw
  obtain ⟨⟨vl, vA, vc⟩, ef, em, ep⟩ := e
  simp only at hkv'
  obtain ⟨gv, ov, hA, d0⟩ := bcell_atA OW.valid.1 hkv'
  have d1 := d0 W (Below.refl _ _)
  simp only at hA d1
  subst hA
  have hk1 : ¬ (k : Int) < 0 := by omega
  have hk2 : ¬ (p.headers.l.length : Int) ≤ (k : Int) := by omega
  have hk3 : ¬ (vl.length : Int) ≤ (k : Int) := by omega
  have hk4 : (k : Int) < (vl.length : Int) := by omega
  have HAd : Hid (∀ b, (vl[k]'hkv') = b → addE p (EnvD.bare ⟨⟨vl, some ⟨gv, ov, none⟩, vc⟩, ef, em, ep⟩) k = if b = false then ⟨(EnvD.bare ⟨⟨vl, some ⟨gv, ov, none⟩, vc⟩, ef, em, ep⟩).valid.set k true, (EnvD.bare ⟨⟨vl, some ⟨gv, ov, none⟩, vc⟩, ef, em, ep⟩).fields.set k (List.replicate ((EnvD.bare ⟨⟨vl, some ⟨gv, ov, none⟩, vc⟩, ef, em, ep⟩).fields.getD k []).length 0), (EnvD.bare ⟨⟨vl, some ⟨gv, ov, none⟩, vc⟩, ef, em, ep⟩).metaV, (EnvD.bare ⟨⟨vl, some ⟨gv, ov, none⟩, vc⟩, ef, em, ep⟩).payload⟩ else (EnvD.bare ⟨⟨vl, some ⟨gv, ov, none⟩, vc⟩, ef, em, ep⟩)) := hi_ (fun b hb => by
    have h1 : (EnvD.bare ⟨⟨vl, some ⟨gv, ov, none⟩, vc⟩, ef, em, ep⟩).valid[k]? = some b := by rw [show (EnvD.bare ⟨⟨vl, some ⟨gv, ov, none⟩, vc⟩, ef, em, ep⟩).valid = vl from rfl, List.getElem?_eq_getElem hkv']; exact congrArg some hb
    unfold addE
    rw [h1]
    cases b
    · rw [if_pos ⟨hk, rfl⟩, if_pos rfl]
    · rw [if_neg (by simp), if_neg (by simp)])
  generalize addE p (EnvD.bare ⟨⟨vl, some ⟨gv, ov, none⟩, vc⟩, ef, em, ep⟩) k = RES at *
  clear oe hw hf hkv hkf d0 OW
  generalize hbv : (vl[k]'hkv') = b at *
  have HAd2 := hi_ (HAd.out b rfl)
  clear HAd
  go_enter Tryz.func75, Tryz.ntmps75
  go_upto_region 1 with fail
  rw [← hW]
  clear hW
  cases b with
  | true =>
    go_wp2_with fail
    refine HCl.out.mono ?_
    rintro r w1 ⟨e', rfl, hbe, hm, hb1⟩
    have HM := hi_ hm
    have HB := hi_ hb1
    have HZ1 := hi_ (HZ.out.below hb1 HZ.out.lt)
    have HBe : Hid (e'.bare = RES) := hi_ (by rw [hbe, HAd2.out]; rfl)
    clear hbe hm hb1 hq0 d1
    have z0 : w1.cell? ⟨w.heap.size + 1 + 1, 0, none⟩ = some (.slice none 0 0) := HZ1.out.cell 0
    have z1 : w1.cell? ⟨w.heap.size + 1 + 1, 1, none⟩ = some (.slice none 0 0) := HZ1.out.cell 1
    have z2 : w1.cell? ⟨w.heap.size + 1 + 1, 2, none⟩ = some (.slice none 0 0) := HZ1.out.cell 2
    have z3 : w1.cell? ⟨w.heap.size + 1 + 1, 3, none⟩ = some (.slice none 0 0) := HZ1.out.cell 3
    have zf : ∀ j, w1.frozen? ⟨w.heap.size + 1 + 1, j, none⟩ = false := fun j => HZ1.out.frozen j
    go_wp2
    try rw [Exit.noGoto_ret]
    try simp only [Exit.jump]
    refine bodyPost_ret (v := .agg #[.slice e'.valid.A e'.valid.l.length e'.valid.c, .slice e'.fields.A e'.fields.l.length e'.fields.c, .slice e'.metaV.A e'.metaV.l.length e'.metaV.c, .slice e'.payload.A e'.payload.l.length e'.payload.c]) ?_ rfl ?_
    · refine results_cell_row (fn := Tryz.f75) (p := 6) (ty := 56) rfl _ _ (w.heap.size + 1 + 1) 56 #[.slice e'.valid.A e'.valid.l.length e'.valid.c, .slice e'.fields.A e'.fields.l.length e'.fields.c, .slice e'.metaV.A e'.metaV.l.length e'.metaV.c, .slice e'.payload.A e'.payload.l.length e'.payload.c] (0, 0) _ rfl ?_ Tryz.underlying56 rfl (by kernel_rfl)
      exact (((HZ1.out.set_ 0 _).set_ 1 _).set_ 2 _).set_ 3 _
    · have hsz := HSz.out
      have hle : w.heap.size ≤ w.heap.size + 1 + 1 := by omega
      exact ⟨e', by rfl, HBe.out, (HM.out.four (by omega) _ _ _ _).lower (by omega), ((((below_step HW.out HB.out).setCell hle _).setCell hle _).setCell hle _).setCell hle _⟩
  | false =>
    go_wp2_with fail
    refine HVy.out.mono ?_
    rintro r w1 ⟨e', rfl, hbe, hm, hb1⟩
    have HM := hi_ hm
    have HB := hi_ hb1
    have HZ1 := hi_ (HZ.out.below hb1 HZ.out.lt)
    have HBe : Hid (e'.bare = RES) := hi_ (by rw [hbe, HAd2.out]; rfl)
    clear hbe hm hb1 hq0 d1
    have z0 : w1.cell? ⟨w.heap.size + 1 + 1, 0, none⟩ = some (.slice none 0 0) := HZ1.out.cell 0
    have z1 : w1.cell? ⟨w.heap.size + 1 + 1, 1, none⟩ = some (.slice none 0 0) := HZ1.out.cell 1
    have z2 : w1.cell? ⟨w.heap.size + 1 + 1, 2, none⟩ = some (.slice none 0 0) := HZ1.out.cell 2
    have z3 : w1.cell? ⟨w.heap.size + 1 + 1, 3, none⟩ = some (.slice none 0 0) := HZ1.out.cell 3
    have zf : ∀ j, w1.frozen? ⟨w.heap.size + 1 + 1, j, none⟩ = false := fun j => HZ1.out.frozen j
    go_wp2
    try rw [Exit.noGoto_ret]
    try simp only [Exit.jump]
    refine bodyPost_ret (v := .agg #[.slice e'.valid.A e'.valid.l.length e'.valid.c, .slice e'.fields.A e'.fields.l.length e'.fields.c, .slice e'.metaV.A e'.metaV.l.length e'.metaV.c, .slice e'.payload.A e'.payload.l.length e'.payload.c]) ?_ rfl ?_
    · refine results_cell_row (fn := Tryz.f75) (p := 6) (ty := 56) rfl _ _ (w.heap.size + 1 + 1) 56 #[.slice e'.valid.A e'.valid.l.length e'.valid.c, .slice e'.fields.A e'.fields.l.length e'.fields.c, .slice e'.metaV.A e'.metaV.l.length e'.metaV.c, .slice e'.payload.A e'.payload.l.length e'.payload.c] (0, 0) _ rfl ?_ Tryz.underlying56 rfl (by kernel_rfl)
      exact (((HZ1.out.set_ 0 _).set_ 1 _).set_ 2 _).set_ 3 _
    · have hsz := HSz.out
      have hle : w.heap.size ≤ w.heap.size + 1 + 1 := by omega
      exact ⟨e', by rfl, HBe.out, (HM.out.four (by omega) _ _ _ _).lower (by omega), ((((below_step HW.out HB.out).setCell hle _).setCell hle _).setCell hle _).setCell hle _⟩
def ConU (x : ConD) : Prop := ∀ z, ∀ v ∈ (conL x z).l, 0 ≤ v ∧ v ≤ 4294967295
theorem rget36_any (x : ConD) (s : SlotD) (w : World) (hx : ConLOk w x) (hu : ConU x) :
    Calls Tryz.prog 74 #[.agg (rconCells x), .agg #[.int .i64 s.size, .int .i64 s.index, .int .i64 s.off, .int .i64 s.width]] w fun r w' => r = .returned (.int .u32 (getC x.bare s)) ∧ Below w.heap.size w w' := by
  have HG : Hid (getC x.bare s = if validS s = true ∧ s.index < ((ofC x.bare s.size).length : Int) then getI ((ofC x.bare s.size).getD s.index.toNat 0) s else 0) := hi_ rfl
  have HL : Hid ((conL x s.size).l = ofC x.bare s.size) := hi_ (conL_l x s.size)
  rw [← HL.out] at HG
  have HGr := hi_ (fun (hv : validS s = true) (y : Int) (hy : 0 ≤ y ∧ y ≤ 4294967295) => (getR_eq hv hy).symm)
  have HGi : Hid (∀ y, getR y s = bits .and .u32 (y / 2 ^ s.off.toNat) (maskM s.width)) := hi_ (fun _ => rfl)
  obtain ⟨W, hW, hw, HB, hp⟩ := box2 w (rconCells x) 62 #[.int .i64 s.size, .int .i64 s.index, .int .i64 s.off, .int .i64 s.width] 48
  have HW := hi_ hw
  have HX := hi_ (fun u (hb : Below W.heap.size W u) => (hx.below (below_step hw hb)).list s.size)
  have HU := hi_ (hu s.size)
  clear hx hw hu
  have HOf := hi_ (fun u => rof_any x s.size u)
  obtain ⟨z, i, f, d⟩ := s
  simp only at HG HX HU hp hW HOf HL HGi HGr ⊢
  have H0 := hi_ HB
  generalize getC x.bare ⟨z, i, f, d⟩ = R at *
  clear HB
  go_enter Tryz.func74, Tryz.ntmps74
  go_upto_region 1 with fail
  rw [← hW]
  clear hW
  cases hv : validS ⟨z, i, f, d⟩ with
  | false =>
    have HV := hi_ hv
    have HR : Hid (R = 0) := hi_ (by rw [HG.out, hv]; simp)
    clear HG hv HGr
    refine wp_region_held_drew (S := fun w' => Below W.heap.size W w') (by kernel_rfl) (below_drew H0.out) (fun hHeld => ?_)
    refine wpAnyH_take (i := 0) (oi := { dst := some 5, op := Op.load 48 (Operand.tmp 3), type := 48, pos := "ref.go:114", after := #[], guard := none }) (v := ?av0) rfl (by kernel_rfl) (by kernel_rfl) (by kernel_rfl) (fun _ _ _ h => h) (Or.inl ⟨by rfl, ?ay0⟩) (by assumption) ?ar0
    case ay0 => (intro w hSw; (try dsimp only at hSw); go_simp; try (with_reducible rfl))
    try simp only [Act.put, sA, sZ, sS]
    refine wpAnyH_ready (rs := [1]) (by kernel_rfl) (by simp) ?_
    refine AllReadyH.cons (o := { dst := some 6, op := Op.call { callee := Callee.value (Operand.func 18), args := #[Operand.tmp 5], argTypes := #[48] }, type := 4, pos := "ref.go:114", after := #[{ on := 0, ground := Ground.data }], guard := none }) rfl (fun K hK => ?_) AllReadyH.nil
    go_simp
    go_at_call 18
    refine (rvalidSlot_any z i f d _).mono ?_
    rintro r w1 ⟨rfl, hb1⟩
    rw [HV.out]
    have hNEW : Below W.heap.size W w1 := below_step (below_drew H0.out) hb1
    refine hK.out _ _ hNEW (fun hHeld2 => ?_)
    clear hK K
    try simp only [Act.put, sA, sZ, sS]
    refine wpAnyH_take (i := 2) (oi := { dst := some 7, op := Op.unOp UnOp.not 4 (Operand.tmp 6), type := 4, pos := "ref.go:114", after := #[{ on := 1, ground := Ground.data }], guard := none }) (v := ?av2) rfl (by kernel_rfl) (by kernel_rfl) (by kernel_rfl) (fun _ _ _ h => h) (Or.inl ⟨by rfl, ?ay2⟩) (by assumption) ?ar2
    case ay2 => (intro w hSw; (try dsimp only at hSw); go_simp; try (with_reducible rfl))
    try simp only [Act.put, sA, sZ, sS]
    refine wpAnyH_take (i := 3) (oi := { dst := some 8, op := Op.move (Operand.tmp 7), type := 4, pos := "ref.go:114", after := #[{ on := 2, ground := Ground.data }, { on := 1, ground := Ground.chain }], guard := none }) (v := ?av3) rfl (by kernel_rfl) (by kernel_rfl) (by kernel_rfl) (fun _ _ _ h => h) (Or.inl ⟨by rfl, ?ay3⟩) (by assumption) ?ar3
    case ay3 => (intro w hSw; (try dsimp only at hSw); go_simp; try (with_reducible rfl))
    try simp only [Act.put, sA, sZ, sS]
    refine wpAnyH_take (i := 4) (oi := { dst := some 9, op := Op.fieldAddr 48 (Operand.tmp 3) 1, type := 0, pos := "ref.go:114", after := #[{ on := 3, ground := Ground.guard }], guard := some (3, false) }) (v := undef) rfl (by kernel_rfl) (by kernel_rfl) (by kernel_rfl) (fun _ _ _ h => h) (Or.inr ⟨by rfl, rfl⟩) (by assumption) ?_
    try simp only [Act.put, sA, sZ, sS]
    refine wpAnyH_take (i := 5) (oi := { dst := some 10, op := Op.load 3 (Operand.tmp 9), type := 3, pos := "ref.go:114", after := #[{ on := 4, ground := Ground.data }, { on := 3, ground := Ground.guard }], guard := some (3, false) }) (v := undef) rfl (by kernel_rfl) (by kernel_rfl) (by kernel_rfl) (fun _ _ _ h => h) (Or.inr ⟨by rfl, rfl⟩) (by assumption) ?_
    try simp only [Act.put, sA, sZ, sS]
    refine wpAnyH_take (i := 6) (oi := { dst := some 11, op := Op.load 62 (Operand.tmp 2), type := 62, pos := "ref.go:114", after := #[{ on := 3, ground := Ground.guard }], guard := some (3, false) }) (v := undef) rfl (by kernel_rfl) (by kernel_rfl) (by kernel_rfl) (fun _ _ _ h => h) (Or.inr ⟨by rfl, rfl⟩) (by assumption) ?_
    try simp only [Act.put, sA, sZ, sS]
    refine wpAnyH_take (i := 7) (oi := { dst := some 12, op := Op.fieldAddr 48 (Operand.tmp 3) 0, type := 0, pos := "ref.go:114", after := #[{ on := 3, ground := Ground.guard }], guard := some (3, false) }) (v := undef) rfl (by kernel_rfl) (by kernel_rfl) (by kernel_rfl) (fun _ _ _ h => h) (Or.inr ⟨by rfl, rfl⟩) (by assumption) ?_
    try simp only [Act.put, sA, sZ, sS]
    refine wpAnyH_take (i := 8) (oi := { dst := some 13, op := Op.load 3 (Operand.tmp 12), type := 3, pos := "ref.go:114", after := #[{ on := 7, ground := Ground.data }, { on := 3, ground := Ground.guard }], guard := some (3, false) }) (v := undef) rfl (by kernel_rfl) (by kernel_rfl) (by kernel_rfl) (fun _ _ _ h => h) (Or.inr ⟨by rfl, rfl⟩) (by assumption) ?_
    try simp only [Act.put, sA, sZ, sS]
    refine wpAnyH_take (i := 9) (oi := { dst := some 14, op := Op.call { callee := Callee.value (Operand.func 57), args := #[Operand.tmp 11, Operand.tmp 13], argTypes := #[62, 3] }, type := 53, pos := "ref.go:114", after := #[{ on := 6, ground := Ground.data }, { on := 8, ground := Ground.data }, { on := 3, ground := Ground.chain }, { on := 3, ground := Ground.guard }], guard := some (3, false) }) (v := undef) rfl (by kernel_rfl) (by kernel_rfl) (by kernel_rfl) (fun _ _ _ h => h) (Or.inr ⟨by rfl, rfl⟩) (by assumption) ?_
    try simp only [Act.put, sA, sZ, sS]
    refine wpAnyH_take (i := 10) (oi := { dst := some 15, op := Op.call { callee := Callee.builtin Builtin.len, args := #[Operand.tmp 14], argTypes := #[53] }, type := 3, pos := "ref.go:114", after := #[{ on := 9, ground := Ground.data }, { on := 3, ground := Ground.guard }], guard := some (3, false) }) (v := undef) rfl (by kernel_rfl) (by kernel_rfl) (by kernel_rfl) (fun _ _ _ h => h) (Or.inr ⟨by rfl, rfl⟩) (by assumption) ?_
    try simp only [Act.put, sA, sZ, sS]
    refine wpAnyH_take (i := 11) (oi := { dst := some 16, op := Op.binOp BinOp.geq 3 (Operand.tmp 10) (Operand.tmp 15) 3, type := 4, pos := "ref.go:114", after := #[{ on := 5, ground := Ground.data }, { on := 10, ground := Ground.data }, { on := 3, ground := Ground.guard }], guard := some (3, false) }) (v := undef) rfl (by kernel_rfl) (by kernel_rfl) (by kernel_rfl) (fun _ _ _ h => h) (Or.inr ⟨by rfl, rfl⟩) (by assumption) ?_
    try simp only [Act.put, sA, sZ, sS]
    refine wpAnyH_take (i := 12) (oi := { dst := some 17, op := Op.pick (Operand.tmp 8) (Operand.const (Value.bool true)) (Operand.tmp 16), type := 4, pos := "ref.go:114", after := #[{ on := 3, ground := Ground.data }, { on := 11, ground := Ground.data }], guard := none }) (v := ?av12) rfl (by kernel_rfl) (by kernel_rfl) (by kernel_rfl) (fun _ _ _ h => h) (Or.inl ⟨by rfl, ?ay12⟩) (by assumption) ?ar12
    case ay12 => (intro w hSw; (try dsimp only at hSw); go_simp; try (with_reducible rfl))
    try simp only [Act.put, sA, sZ, sS]
    refine wpAnyH_done (by kernel_rfl) ?_ _
    have HB5 : Hid (Below W.heap.size W w1) := hi_ hNEW
    go_wp2
    go_ret
    exact ⟨by rw [HR.out]; rfl, below_step HW.out HB5.out⟩
  | true =>
  have hbs := validS_iff.1 hv
  simp only at hbs
  have HV := hi_ hv
  have HVa := hi_ (fun u => rvalidSlot_any z i f d u)
  rw [hv] at HVa
  generalize conL x z = q at *
  obtain ⟨ql, qA, qc⟩ := q
  simp only at HX HU HG HOf
  obtain ⟨k, rfl⟩ : ∃ k : Nat, i = k := ⟨i.toNat, by omega⟩
  by_cases hk : k < ql.length
  case neg =>
    have hk' : (ql.length : Int) ≤ (k : Int) := by omega
    have HR : Hid (R = 0) := hi_ (by rw [HG.out, if_neg (by omega)])
    clear HG hv HGr hbs HL
    go_region_held3 (fun w' => Below W.heap.size W w') (first | exact H0.out | exact below_drew H0.out | (exact below_step (by assumption) (by assumption)) | assumption)
      (first | (go_at_call 18; refine (HVa.out _).mono ?_; rintro r w5 ⟨rfl, hb1⟩) | (go_at_call 57; refine (HOf.out _).mono ?_; rintro r w6 ⟨rfl, hb2⟩))
    have HB5 : Hid (Below W.heap.size W _) := hi_ (by assumption)
    go_wp2
    go_ret
    exact ⟨by rw [HR.out]; rfl, below_step HW.out HB5.out⟩
  obtain ⟨gl, ol, hA, d0⟩ := ucell_atA (HX.out W H0.out).1 hk
  simp only at hA d0
  subst hA
  have HR : Hid (R = getI ql[k] ⟨z, (k : Int), f, d⟩) := hi_ (by rw [HG.out, if_pos ⟨hv, by omega⟩]; simp [List.getD_eq_getElem?_getD, hk])
  have hy := HU.out ql[k] (List.getElem_mem hk)
  rw [HGr.out hv _ hy, HGi.out] at HR
  have hk' : (k : Int) < (ql.length : Int) := by omega
  have hk2 : ¬ (ql.length : Int) ≤ (k : Int) := by omega
  have hf0 : 0 ≤ f := hbs.2.2.2.1
  have hf1 : f ≤ 32 := by omega
  have HMk := hi_ (fun u => rmask_any d u)
  clear HG hv HGi HGr hbs HL HU HX
  generalize ql[k] = y at *
  generalize maskM d = mk at *
  go_region_held3 (fun w' => Below W.heap.size W w') (first | exact H0.out | exact below_drew H0.out | (exact below_step (by assumption) (by assumption)) | assumption)
    (first | (go_at_call 18; refine (HVa.out _).mono ?_; rintro r w5 ⟨rfl, hb1⟩) | (go_at_call 57; refine (HOf.out _).mono ?_; rintro r w6 ⟨rfl, hb2⟩))
  have HB5 : Hid (Below W.heap.size W w6) := hi_ (by assumption)
  go_upto_region 3 with fail
  go_region_held3 (fun w' => Below W.heap.size W w') (first | exact HB5.out | exact below_drew HB5.out | (exact below_step (by assumption) (by assumption)) | assumption)
    (first | (go_at_call 57; refine (HOf.out _).mono ?_; rintro r w8 ⟨rfl, hb3⟩) | (go_at_call 105; refine (HMk.out _).mono ?_; rintro r w9 ⟨rfl, rfl⟩))
  have HB9 : Hid (Below W.heap.size W _) := hi_ (by assumption)
  go_wp2
  go_ret
  exact ⟨by rw [HR.out]; rfl, below_step HW.out HB9.out⟩
theorem rfields31_any (p : ProgD) (h : Nat) (hh : h ≤ p.headers.l.length) (w : World) (o : ProgOk w p) (hs : AccSm p) :
    Calls Tryz.prog 44 #[.agg (progCells p), .int .i64 h] w fun e w' => e = .returned (.int .i64 (preF p h)) ∧ Below w.heap.size w w' := by
  obtain ⟨W, hW⟩ : ∃ W, W = w.alloc (.cells (progCells p) 31) := ⟨_, rfl⟩
  have HW : Hid (Below w.heap.size w W) := hi_ (by rw [hW]; exact below1 _ _)
  have HP : Hid (Blk W w.heap.size 31 (progCells p)) := hi_ (by rw [hW]; exact Blk.new _ _ _)
  have s1 : W.cell? ⟨w.heap.size, 1, none⟩ = some (.slice p.headers.A p.headers.l.length p.headers.c) := HP.out.cell 1
  have HO := hi_ (o.headers.below HW.out (Nat.le_refl _))
  have HF : Hid (∀ k (h : k < p.headers.l.length), nF p k = p.headers.l[k].fields.l.length) := hi_ (fun k h => nF_at h)
  have HFS := hi_ hs.fields
  have hH := hs.headers
  clear o hs HP
  go_enter Tryz.func44, Tryz.ntmps44
  go_upto_region 1 with fail
  rw [← hW]
  clear hW
  go_wp2
  go_loopw [5, 6] (fun nv iv wr => ∃ k n : Nat, k ≤ h ∧ iv = .int .i64 k ∧ nv = .int .i64 n ∧ n ≤ 100 * k ∧ Hid (n = preF p k) ∧ W = wr) (fun _ i _ => h - (intOf i).toNat)
  case atStart => exact ⟨0, 0, Nat.zero_le _, rfl, rfl, Nat.zero_le _, hi_ rfl, rfl⟩
  case round =>
  obtain ⟨k, n, hk, rfl, rfl, hn, HN, rfl⟩ := hrel
  by_cases hlt : k < h
  · have hlk : k < p.headers.l.length := by omega
    obtain ⟨g0, of0, hA, hall⟩ := HeaderD.atA HO.out hlk
    obtain ⟨d0, d1⟩ := hall W (Below.refl _ _)
    have HNk := hi_ (HF.out k hlk)
    have HFk := HFS.out k
    rw [HNk.out] at HFk
    rw [hA] at s1
    generalize p.headers.l[k] = x at *
    obtain ⟨xn, ⟨fl, fA, fc⟩⟩ := x
    simp only at d0 d1 HNk HFk
    clear hall hA
    go_wp2
    go_roundw
    case rel => exact ⟨k + 1, n + fl.length, by omega, by go_num, by go_num, by omega, hi_ (by rw [preF, ← HN.out, HNk.out]), trivial⟩
    case measure => simp [intOf]; omega
  · have e : k = h := by omega
    subst e
    have HR : Hid (preF p k = n) := hi_ HN.out.symm
    go_wp2
    go_ret
    exact ⟨by rw [HR.out]; rfl, HW.out⟩
theorem rcells31_any (p : ProgD) (w : World) (o : ProgOk w p) (hs : AccSm p) :
    Calls Tryz.prog 14 #[.agg (progCells p)] w fun e w' => e = .returned (.int .i64 (firstN p 4)) ∧ Below w.heap.size w w' := by
  obtain ⟨W, hW, hw, HB, hp⟩ := box1 w (progCells p) 31
  have HW := hi_ hw
  have HC := hi_ (fun u (hb : Below W.heap.size W u) => rfields31_any p _ (Nat.le_refl _) u (o.below (below_step hw hb)) hs)
  have hf := fN_le hs
  have hH := hs.headers
  have hM := hs.metadata
  have hRg := hs.registers
  have HBw := hi_ HB
  have HR : Hid (firstN p 4 = fN p + p.headers.l.length + p.metadata.l.length + p.registers.l.length) := hi_ rfl
  have HPf : Hid (preF p p.headers.l.length = fN p) := hi_ rfl
  rw [HPf.out] at HC
  generalize fN p = n at *
  clear o hs hw HPf
  go_enter Tryz.func14, Tryz.ntmps14
  go_upto_region 1 with fail
  rw [← hW]
  clear hW HB
  go_region_held3 (fun w' => Below W.heap.size W w') (first | exact HBw.out | exact below_drew HBw.out | (exact below_step (by assumption) (by assumption)) | assumption)
      (first
      | (go_at_call 44; refine (HC.out _ (by assumption)).mono ?_; rintro e w5 ⟨rfl, hb1⟩))
  have HB5 : Hid (Below W.heap.size W _) := hi_ (by assumption)
  go_wp2
  go_ret
  refine ⟨?_, below_step HW.out HB5.out⟩
  show Ending.returned (Value.int .i64 (IntKind.i64.wrap (IntKind.i64.wrap (IntKind.i64.wrap ((n : Int) + (p.headers.l.length : Int)) + (p.metadata.l.length : Int)) + (p.registers.l.length : Int)))) = _
  rw [IntWalk.i64_in ((n : Int) + (p.headers.l.length : Int)) (by omega), IntWalk.i64_in ((n : Int) + (p.headers.l.length : Int) + (p.metadata.l.length : Int)) (by omega), IntWalk.i64_in ((n : Int) + (p.headers.l.length : Int) + (p.metadata.l.length : Int) + (p.registers.l.length : Int)) (by omega), HR.out]
  congr 2
theorem rcells36_any (p : ProgD) (w : World) (o : ProgOk w p) (hs : AccSm p) :
    Calls Tryz.prog 42 #[.agg (progCells p)] w fun e w' => e = .returned (.int .i64 (cellsN p)) ∧ Below w.heap.size w w' := by
  obtain ⟨W, hW, hw, HB, hp⟩ := box1 w (progCells p) 31
  have HW := hi_ hw
  have HC := hi_ (fun u (hb : Below W.heap.size W u) => rcells31_any p u (o.below (below_step hw hb)) hs)
  have hf := fN_le hs
  have hH := hs.headers
  have hM := hs.metadata
  have hRg := hs.registers
  have hsum : firstN p 4 = cellsN p + p.registers.l.length := by show fN p + p.headers.l.length + p.metadata.l.length + p.registers.l.length = _; unfold cellsN; omega
  rw [hsum] at HC
  have hcn : cellsN p ≤ 10200 := by unfold cellsN; omega
  generalize cellsN p = n at *
  clear o hs hw hsum
  have HBw := hi_ HB
  go_enter Tryz.func42, Tryz.ntmps42
  go_upto_region 1 with fail
  rw [← hW]
  clear hW HB
  go_region_held3 (fun w' => Below W.heap.size W w') (first | exact HBw.out | exact below_drew HBw.out | (exact below_step (by assumption) (by assumption)) | assumption)
      (first
      | (go_at_call 14; refine (HC.out _ (by assumption)).mono ?_; rintro e w5 ⟨rfl, hb1⟩))
  have HB5 : Hid (Below W.heap.size W _) := hi_ (by assumption)
  go_wp2
  go_ret
  refine ⟨?_, below_step HW.out HB5.out⟩
  show Ending.returned (Value.int .i64 (IntKind.i64.wrap (n : Int))) = _
  rw [IntWalk.i64_in (n : Int) (by omega)]
end Go.Proofs.YtbfjknidinkafaaGreat
