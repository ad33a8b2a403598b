/- Walks of package control's Check and its visitor on any program. No condition but that the program lies in memory, with at most ninety thousand nodes. -/
import Derived.Test.YtbfjknidinkafaaGreatCkU
namespace Go.Proofs.YtbfjknidinkafaaGreat
open Go.RowKit

def ints (l : List Int) : List Value := l.map (Value.int .i64)
theorem ints_len (l : List Int) : (ints l).length = l.length := by simp [ints]
theorem own_lok {w : World} {base : Nat} {A : Option Addr} {c : Nat} {l : List Int} (h : w.ownsRow base 3 1 (.slice A l.length c) l.length (ints l)) (hm : l.length ≤ maxLen) : LOk w 1 icell ⟨l, A, c⟩ := by
  refine ⟨hm, ?_⟩
  by_cases h0 : l = []
  · exact .inl h0
  · have hpos : 0 < l.length := List.length_pos_iff.2 h0
    have h' := h
    rcases h'.2 with ⟨e, _⟩ | ⟨g, cap, cur, hv, _, hblk, hle, _, _, _⟩
    · exact absurd e (by intro e; injection e with _ e _; omega)
    · have hA : A = some ⟨g, 0, none⟩ := by injection hv
      have hc : c = cap := by injection hv
      subst hA hc
      refine .inr ⟨g, 0, rfl, Blk.lt hblk, fun i hi j hj => ?_⟩
      have e : j = 0 := by omega
      subst e
      simp only at hi
      have := h.cellAt i (by omega)
      simp [ints, hi] at this
      simpa [icell] using this

theorem grown_setCell (w : World) (a : Addr) (v : Value) : w.grownBy (w.setCell a v) (some a.block) := by
  have h0 : Below 0 w (w.setCell a v) := (Below.refl 0 w).setCell (Nat.zero_le _) v
  exact ⟨h0.os, h0.tape, h0.output, h0.size, fun b _ hb => Below.heap_setCell _ _ _ _ (fun e => hb (by rw [e]))⟩

/-- what the closure of Check keeps: the program's copy, the error, the count, the tables used -/
structure CkSt (B0 : World) (p : ProgD) (gP gE gN gU : Nat) (e : Int) (n : Nat) (us : List Int) (A : Option Addr) (c : Nat) (w : World) : Prop where
  base : Below B0.heap.size B0 w
  prog : Blk w gP 31 (progCells p)
  err : Blk w gE 37 #[.int .i64 e]
  cnt : Blk w gN 3 #[.int .i64 n]
  used : Blk w gU 29 #[.slice A us.length c]
  row : w.ownsRow (gU + 1) 3 1 (.slice A us.length c) us.length (ints us)
section
variable {B0 : World} {p : ProgD} {gP gE gN gU : Nat} {e : Int} {n : Nat} {us : List Int} {A : Option Addr} {c : Nat} {w w' : World}
theorem CkSt.below (h : CkSt B0 p gP gE gN gU e n us A c w) (hb : Below w.heap.size w w') : CkSt B0 p gP gE gN gU e n us A c w' :=
  ⟨⟨hb.os.trans h.base.os, hb.tape.trans h.base.tape, hb.output.trans h.base.output, Nat.le_trans h.base.size hb.size, fun b hk => (hb.block b (Nat.lt_of_lt_of_le hk h.base.size)).trans (h.base.block b hk)⟩,
    h.prog.below hb h.prog.lt, h.err.below hb h.err.lt, h.cnt.below hb h.cnt.lt, h.used.below hb h.used.lt, own_below h.row hb⟩
theorem CkSt.setErr (h : CkSt B0 p gP gE gN gU e n us A c w) (h0 : B0.heap.size ≤ gE) (h1 : gP < gE) (h2 : gE < gN) (h3 : gN < gU) (e' : Int) : CkSt B0 p gP gE gN gU e' n us A c (w.setCell ⟨gE, 0, none⟩ (.int .i64 e')) :=
  ⟨h.base.setCell h0 _, h.prog.far (by simp only; omega) _, h.err.set_ 0 _, h.cnt.far (by simp only; omega) _, h.used.far (by simp only; omega) _,
    h.row.kept (grown_setCell _ _ _) (.inr (fun e => by have := (h.row.lt _ e).1; simp only at this; omega))⟩
theorem CkSt.setCnt (h : CkSt B0 p gP gE gN gU e n us A c w) (h0 : B0.heap.size ≤ gN) (h1 : gP < gE) (h2 : gE < gN) (h3 : gN < gU) (n' : Nat) : CkSt B0 p gP gE gN gU e n' us A c (w.setCell ⟨gN, 0, none⟩ (.int .i64 n')) :=
  ⟨h.base.setCell h0 _, h.prog.far (by simp only; omega) _, h.err.far (by simp only; omega) _, h.cnt.set_ 0 _, h.used.far (by simp only; omega) _,
    h.row.kept (grown_setCell _ _ _) (.inr (fun e => by have := (h.row.lt _ e).1; simp only at this; omega))⟩
end
theorem used_snoc (l : List CtlD) (x : CtlD) : usedM (l ++ [x]) = usedM l ++ (if appliesM x = true then [x.table] else []) := by
  unfold usedM
  rw [List.filter_append, List.map_append]
  congr 1
  by_cases h : appliesM x = true
  · simp [h]
  · simp [h]
def usedN (us : List Int) (x : CtlD) : List Int := us ++ (if appliesM x = true then [x.table] else [])
theorem usedN_no {us : List Int} {x : CtlD} (h : appliesM x = false) : usedN us x = us := by rw [usedN, h]; simp
theorem usedN_yes {us : List Int} {x : CtlD} (h : appliesM x = true) : usedN us x = us ++ [x.table] := by rw [usedN, h]; simp
theorem used_len (l : List CtlD) : (usedM l).length ≤ l.length := by
  unfold usedM
  rw [List.length_map]
  exact List.length_filter_le _ _
theorem pres_len : ∀ (l : List CtlD), l.length ≤ (presM l).length
  | [] => Nat.le_refl _
  | x :: l => by
    have := pres_len l
    rw [presM, preM_eq, List.length_cons, List.length_append, List.length_cons]
    omega

set_option maxRecDepth 100000 in
set_option maxHeartbeats 4000000 in
theorem check1_any (B0 : World) (p : ProgD) (o : ProgOk B0 p) (gP gE gN gU : Nat) (h0 : B0.heap.size ≤ gP) (h1 : gP < gE) (h2 : gE < gN) (h3 : gN < gU) (x : CtlD) (n : Nat) (us : List Int) (A : Option Addr) (c : Nat) (w : World)
    (hx : CtlOk B0 x) (hl : x.th.l.length + x.el.l.length ≤ 90000) (hn : n < 90000) (hu : us.length ≤ n) (st : CkSt B0 p gP gE gN gU 0 n us A c w) :
    Calls Tryz.prog 178 #[.agg (ctlCells x), .pointer (some ⟨gP, 0, none⟩), .pointer (some ⟨gU, 0, none⟩), .pointer (some ⟨gE, 0, none⟩), .pointer (some ⟨gN, 0, none⟩)] w fun e w' =>
      e = .returned (.bool (nodeM p us x == 0)) ∧ Grow w w' ∧ ((nodeM p us x == 0) = true → ∃ A' c', CkSt B0 p gP gE gN gU 0 (n + 1) (usedN us x) A' c' w') ∧ ((nodeM p us x == 0) = false → CkSt B0 p gP gE gN gU (nodeM p us x) n us A c w') := by
  have HO := Lib.hid o
  have HX := Lib.hid hx
  have HST := Lib.hid st
  obtain ⟨U, hU, hu1, hUU, _⟩ := box1 w (ctlCells x) 169
  have hB : Blk U w.heap.size 169 (ctlCells x) := by rw [hU]; exact Blk.new _ _ _
  have HG := Lib.hid (Grow.of_below hu1)
  have st1 := st.below hu1
  have c0 : U.cell? ⟨gP, 0, none⟩ = some (.string p.name) := st1.prog.cell 0
  have c1 : U.cell? ⟨gP, 1, none⟩ = some (.slice p.headers.A p.headers.l.length p.headers.c) := st1.prog.cell 1
  have c2 : U.cell? ⟨gP, 2, none⟩ = some (.slice p.metadata.A p.metadata.l.length p.metadata.c) := st1.prog.cell 2
  have c3 : U.cell? ⟨gP, 3, none⟩ = some (.slice p.registers.A p.registers.l.length p.registers.c) := st1.prog.cell 3
  have c4 : U.cell? ⟨gP, 4, none⟩ = some (.slice p.actions.A p.actions.l.length p.actions.c) := st1.prog.cell 4
  have c5 : U.cell? ⟨gP, 5, none⟩ = some (.slice p.tables.A p.tables.l.length p.tables.c) := st1.prog.cell 5
  have c6 : U.cell? ⟨gP, 6, none⟩ = some (.slice p.states.A p.states.l.length p.states.c) := st1.prog.cell 6
  have c7 : U.cell? ⟨gP, 7, none⟩ = some (.slice p.control.A p.control.l.length p.control.c) := st1.prog.cell 7
  have c8 : U.cell? ⟨gP, 8, none⟩ = some (.slice p.deparser.A p.deparser.l.length p.deparser.c) := st1.prog.cell 8
  have cu : U.cell? ⟨gU, 0, none⟩ = some (.slice A us.length c) := st1.used.cell 0
  have d0 : U.cell? ⟨w.heap.size, 0, none⟩ = some (.int .i64 x.kind) := hB.cell 0
  have d1 : U.cell? ⟨w.heap.size, 1, none⟩ = some (.int .i64 x.table) := hB.cell 1
  have d2 : U.cell? ⟨w.heap.size, 2, none⟩ = some (.slice x.cond.A x.cond.l.length x.cond.c) := hB.cell 2
  have d3 : U.cell? ⟨w.heap.size, 3, none⟩ = some (.slice x.th.A x.th.l.length x.th.c) := hB.cell 3
  have d4 : U.cell? ⟨w.heap.size, 4, none⟩ = some (.slice x.el.A x.el.l.length x.el.c) := hB.cell 4
  have HB := Lib.hid hB
  have HS1 := Lib.hid st1
  have hul : us.length ≤ maxLen := by unfold maxLen; omega
  have HUl := Lib.hid hul
  clear o hx st hu1 hUU hB st1 hul
  go_enter Tryz.func178, Tryz.ntmps178
  go_upto_region 1 with fail
  rw [← hU]
  clear hU
  go_wp2_with fail
  refine (checkNode_any p x us A c U (HO.out.below HS1.out.base) ((ctl_parts HX.out).1.below HS1.out.base (Nat.le_refl _)) (own_lok HS1.out.row HUl.out) hl).mono ?_
  rintro e w1 ⟨rfl, hb1⟩
  have st2 := HS1.out.below hb1
  have hB2 := HB.out.below hb1 HB.out.lt
  have HG1 := Lib.hid (HG.out.trans (Grow.of_below hb1))
  clear c0 c1 c2 c3 c4 c5 c6 c7 c8 cu d0 d1 d2 d3 d4 hb1
  have ce : w1.cell? ⟨gE, 0, none⟩ = some (.int .i64 0) := st2.err.cell 0
  have cf : w1.frozen? ⟨gE, 0, none⟩ = false := st2.err.frozen 0
  refine Exists.elim (⟨_, rfl⟩ : ∃ V, V = w1.setCell ⟨gE, 0, none⟩ (.int .i64 (nodeM p us x))) fun V hV => ?_
  have st3 : CkSt B0 p gP gE gN gU (nodeM p us x) n us A c V := by rw [hV]; exact st2.setErr (by omega) h1 h2 h3 _
  have HG2 : Hid (Grow w V) := Lib.hid (by rw [hV]; exact HG1.out.setCell (a := ⟨gE, 0, none⟩) st2.err (by decide) _)
  have hB3 : Blk V w.heap.size 169 (ctlCells x) := by rw [hV]; exact hB2.far (by have := HST.out.err.lt; simp only; omega) _
  have HB3 := Lib.hid hB3
  have HS3 := Lib.hid st3
  have ce2 : V.cell? ⟨gE, 0, none⟩ = some (.int .i64 (nodeM p us x)) := st3.err.cell 0
  clear st2 st3 hB2 hB3
  go_upto_region 2 with fail
  rw [← hV]
  clear hV ce cf
  cases hok : nodeM p us x == 0
  · go_wp2
    go_ret
    exact ⟨ret_bool hok.symm, HG2.out, fun h => absurd (hok.symm.trans h) (by simp), fun _ => HS3.out⟩
  have h00 : nodeM p us x = 0 := by simpa using hok
  rw [h00] at HS3 ce2
  have e0 : V.cell? ⟨w.heap.size, 0, none⟩ = some (.int .i64 x.kind) := HB3.out.cell 0
  have e1 : V.cell? ⟨w.heap.size, 1, none⟩ = some (.int .i64 x.table) := HB3.out.cell 1
  have e2 : V.cell? ⟨w.heap.size, 2, none⟩ = some (.slice x.cond.A x.cond.l.length x.cond.c) := HB3.out.cell 2
  have e3 : V.cell? ⟨w.heap.size, 3, none⟩ = some (.slice x.th.A x.th.l.length x.th.c) := HB3.out.cell 3
  have e4 : V.cell? ⟨w.heap.size, 4, none⟩ = some (.slice x.el.A x.el.l.length x.el.c) := HB3.out.cell 4
  clear h00
  go_wp2_with fail
  refine (applies_any x V).mono ?_
  rintro e w2 ⟨rfl, hb2⟩
  have st4 := HS3.out.below hb2
  have HG3 := Lib.hid (HG2.out.trans (Grow.of_below hb2))
  have hB4 := HB3.out.below hb2 HB3.out.lt
  have f1 : w2.cell? ⟨w.heap.size, 1, none⟩ = some (.int .i64 x.table) := hB4.cell 1
  clear e0 e1 e2 e3 e4 ce2 hb2
  cases hap : appliesM x
  · have cn : w2.cell? ⟨gN, 0, none⟩ = some (.int .i64 n) := st4.cnt.cell 0
    have cf : w2.frozen? ⟨gN, 0, none⟩ = false := st4.cnt.frozen 0
    have HS5 := Lib.hid (st4.setCnt (by omega) h1 h2 h3 (n + 1))
    have HG5 := Lib.hid (HG3.out.setCell (a := ⟨gN, 0, none⟩) st4.cnt (by decide) (.int .i64 ((n + 1 : Nat) : Int)))
    rw [show ((n + 1 : Nat) : Int) = (n : Int) + 1 by omega] at HS5 HG5
    clear st4 hB4 f1
    go_wp2
    go_ret
    refine ⟨ret_bool hok.symm, HG5.out, fun _ => ⟨A, c, ?_⟩, fun h => absurd (hok.symm.trans h) (by simp)⟩
    rw [usedN_no hap]
    exact HS5.out
  · obtain ⟨i0, hi, hz0, hz1, hz2⟩ := info_parts (show (Tryz.prog.info? 3).map (fun i => (i.zero, i.size, i.bytes)) = some (some (.int .i64 0), 1, 8) by kernel_rfl)
    have cu : w2.cell? ⟨gU, 0, none⟩ = some (.slice A us.length c) := st4.used.cell 0
    have HS4 := Lib.hid st4
    have hsz := st4.used.lt
    clear st4 hB4
    go_wp2_with (first
      | (at_builtin; refine wpList_append_own _ rfl _ _ 29 rfl (gU + 1) 3 i0 _ 1 8 Tryz.underlying29 hi hz0 hz1 hz2 rfl (by decide) _ us.length (ints us) rfl (HS4.out.row.alloc _) ⟨w2.heap.size, 0, none⟩ 1 1 [.int .i64 x.table] rfl rfl ?c1 ?c2 ?c3 ?c4 ?c5 ?_))
    case c1 =>
      intro j v hj
      match j, hj with
      | 0, hj => simp at hj; subst hj; simp [Addr.add]
    case c2 => intro u hu; simp at hu; subst hu; rfl
    case c3 => unfold maxLen; omega
    case c4 => omega
    case c5 => simp; omega
    intro v' w4 hown4 hgrow4 _
    obtain ⟨A', c', rfl⟩ : ∃ A' c', v' = .slice A' (us.length + 1) c' := by
      rcases hown4.2 with ⟨hv, h0⟩ | ⟨g', cap, cur, hv, _, _, _⟩
      · omega
      · exact ⟨_, _, hv⟩
    have hne : some gU ≠ (Value.slice A us.length c).ownBlock := fun e => by have := (HS4.out.row.lt _ e.symm).1; omega
    have hnN : some gN ≠ (Value.slice A us.length c).ownBlock := fun e => by have := (HS4.out.row.lt _ e.symm).1; omega
    have hnE : some gE ≠ (Value.slice A us.length c).ownBlock := fun e => by have := (HS4.out.row.lt _ e.symm).1; omega
    have hnP : some gP ≠ (Value.slice A us.length c).ownBlock := fun e => by have := (HS4.out.row.lt _ e.symm).1; omega
    have hbU := (HS4.out.used.alloc (.cells #[.int .i64 x.table] 3)).grown hgrow4 hne
    have hbN := (HS4.out.cnt.alloc (.cells #[.int .i64 x.table] 3)).grown hgrow4 hnN
    have hbE := (HS4.out.err.alloc (.cells #[.int .i64 x.table] 3)).grown hgrow4 hnE
    have hbP := (HS4.out.prog.alloc (.cells #[.int .i64 x.table] 3)).grown hgrow4 hnP
    have hbase := (below_alloc HS4.out.base (.cells #[.int .i64 x.table] 3)).grown hgrow4 (below_alloc HS4.out.base (.cells #[.int .i64 x.table] 3)).size fun j hj => by have := (HS4.out.row.lt _ hj).1; omega
    have HG4 := Lib.hid ((HG3.out.alloc (.cells #[.int .i64 x.table] 3)).append (HS4.out.row.alloc _) (by decide) hgrow4)
    have cu4 : w4.cell? ⟨gU, 0, none⟩ = some (.slice A us.length c) := hbU.cell 0
    have cf4 : w4.frozen? ⟨gU, 0, none⟩ = false := hbU.frozen 0
    refine Exists.elim (⟨_, rfl⟩ : ∃ V, V = w4.setCell ⟨gU, 0, none⟩ (.slice A' (us.length + 1) c')) fun V hV => ?_
    have hle : (usedN us x).length = us.length + 1 := by rw [usedN_yes hap, List.length_append]; rfl
    have st5 : CkSt B0 p gP gE gN gU 0 n (usedN us x) A' c' V := by
      rw [hV]
      refine ⟨hbase.setCell (by simp only; omega) _, hbP.far (by simp only; omega) _, hbE.far (by simp only; omega) _, hbN.far (by simp only; omega) _, ?_, ?_⟩
      · rw [hle]; exact hbU.set_ 0 _
      · rw [hle, show ints (usedN us x) = ints us ++ [.int .i64 x.table] by rw [usedN_yes hap]; simp [ints]]
        exact hown4.kept (grown_setCell _ _ _) (.inr (fun e => by have := (hown4.lt _ e).1; simp only at this; omega))
    have HG5 : Hid (Grow w V) := Lib.hid (by rw [hV]; exact HG4.out.setCell (a := ⟨gU, 0, none⟩) hbU (by decide) _)
    have cn : V.cell? ⟨gN, 0, none⟩ = some (.int .i64 n) := st5.cnt.cell 0
    have cf : V.frozen? ⟨gN, 0, none⟩ = false := st5.cnt.frozen 0
    have HS6 := Lib.hid (st5.setCnt (by omega) h1 h2 h3 (n + 1))
    have HG6 := Lib.hid (HG5.out.setCell (a := ⟨gN, 0, none⟩) st5.cnt (by decide) (.int .i64 ((n + 1 : Nat) : Int)))
    rw [show ((n + 1 : Nat) : Int) = (n : Int) + 1 by omega] at HS6 HG6
    clear st5 hbU hbN hbE hbP hbase hne hnN hnE hnP hown4 hgrow4 hle f1 cu
    go_upto_region 6 with fail
    rw [← hV]
    clear hV cu4 cf4
    go_wp2
    go_ret
    exact ⟨ret_bool hok.symm, HG6.out, fun _ => ⟨A', c', HS6.out⟩, fun h => absurd (hok.symm.trans h) (by simp)⟩
end Go.Proofs.YtbfjknidinkafaaGreat

