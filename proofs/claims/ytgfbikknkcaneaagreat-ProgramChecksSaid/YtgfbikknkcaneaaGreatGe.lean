/- The walks of the equalities of headers, statements, actions, tables and parser states, and of slices.EqualFunc over them. No condition but that they lie in memory. The walks of the equality of control nodes and of program.Equal. No condition but that they lie in memory. -/
import Derived.Test.YtgfbikknkcaneaaGreatGc
import Derived.Test.YtgfbikknkcaneaaGreatGd
namespace Go.Proofs.YtgfbikknkcaneaaGreat
open Go.RowKit

theorem eql_ref (a b c d : Int) : ∃ r : Bool, (r = true ↔ a = c ∧ b = d) ∧ ∀ w, Sem.run Tryz.prog (binOp .eql 70 (.agg #[.int .i64 a, .int .i64 b]) (.agg #[.int .i64 c, .int .i64 d])) w = .ok (.bool r) w := by
  refine ⟨(a == c) && (b == d), (by simp), fun w => ?_⟩
  have hS : Tryz.prog.underlying 70 = some (.struct (Tryz.prog.fieldsOf 70)) := by kernel_rfl
  have hp : Tryz.prog.stoodInHeld 70 = false := by kernel_rfl
  have u0 := Tryz.underlying3
  have a0 := Tryz.isAgg3
  have z0 := Tryz.sizeOf3
  rw [run_eql_struct, show (10000 : Nat) = 9999 + 1 from rfl, run_equalIn_agg w 9999 70 _ _ hS hp]
  simp only [Program.fieldsOf, Tryz.underlying70]
  go_simp
  repeat' split
  all_goals simp_all
theorem take_bare {α β : Type} {f : α → β} {xs ys : List α} {k : Nat} (hx : k < xs.length) (hy : k < ys.length) (h : (xs.take k).map f = (ys.take k).map f) (he : f xs[k] = f ys[k]) : (xs.take (k + 1)).map f = (ys.take (k + 1)).map f := by
  rw [List.take_succ_eq_append_getElem hx, List.take_succ_eq_append_getElem hy, List.map_append, List.map_append, h, List.map_cons, List.map_cons, he]
theorem map_get {α β : Type} {f : α → β} {xs ys : List α} {k : Nat} (hx : k < xs.length) (hy : k < ys.length) (h : xs.map f = ys.map f) : f xs[k] = f ys[k] := by
  have := congrArg (fun l => l[k]?) h
  simpa [hx, hy] using this

set_option maxRecDepth 100000 in
set_option maxHeartbeats 8000000 in
theorem equalStatements_any (x y : StmtD) (w : World) (hx : StmtOk w x) (hy : StmtOk w y) :
    Calls Tryz.prog 136 #[.agg #[.int .i64 x.kind, .int .i64 x.dh, .int .i64 x.df, .int .i64 x.reg, .int .i64 x.hdr, .slice x.index.A x.index.l.length x.index.c, .slice x.value.A x.value.l.length x.value.c], .agg #[.int .i64 y.kind, .int .i64 y.dh, .int .i64 y.df, .int .i64 y.reg, .int .i64 y.hdr, .slice y.index.A y.index.l.length y.index.c, .slice y.value.A y.value.l.length y.value.c]] w fun e w' => Says e (x.bare = y.bare) ∧ Below w.heap.size w w' := by
  obtain ⟨W, hW, hw, HB, hp⟩ := box2 w #[.int .i64 x.kind, .int .i64 x.dh, .int .i64 x.df, .int .i64 x.reg, .int .i64 x.hdr, .slice x.index.A x.index.l.length x.index.c, .slice x.value.A x.value.l.length x.value.c] 129 #[.int .i64 y.kind, .int .i64 y.dh, .int .i64 y.df, .int .i64 y.reg, .int .i64 y.hdr, .slice y.index.A y.index.l.length y.index.c, .slice y.value.A y.value.l.length y.value.c] 129
  have HW := Lib.hid hw
  have HX := Lib.hid hx
  have HY := Lib.hid hy
  clear hx hy hw
  go_enter Tryz.func136, Tryz.ntmps136
  go_upto_region 1 with fail
  rw [← hW]
  clear hW
  by_cases hN : x.kind = y.kind
  case neg =>
    have hB0 : (x.kind == y.kind) = false := beq_eq_false_iff_ne.2 hN
    have HN := Lib.hid hN
    clear hN
    go_wp2
    go_ret
    exact ⟨Says.no (fun e => HN.out (congrArg StmtP.kind e)), below_step HW.out HB⟩
  have hB0 : (x.kind == y.kind) = true := beq_iff_eq.2 hN
  have HE0 := Lib.hid hN
  clear hN
  obtain ⟨r1, hr1, hR1⟩ := eql_ref x.dh x.df y.dh y.df
  have HE1 := Lib.hid hr1
  clear hr1
  cases r1
  case false =>
    go_wp2
    go_ret
    exact ⟨Says.no (fun e => by have h := HE1.out.2 ⟨congrArg StmtP.dh e, congrArg StmtP.df e⟩; cases h), below_step HW.out HB⟩
  by_cases hN : x.reg = y.reg
  case neg =>
    have hB2 : (x.reg == y.reg) = false := beq_eq_false_iff_ne.2 hN
    have HN := Lib.hid hN
    clear hN
    go_wp2
    go_ret
    exact ⟨Says.no (fun e => HN.out (congrArg StmtP.reg e)), below_step HW.out HB⟩
  have hB2 : (x.reg == y.reg) = true := beq_iff_eq.2 hN
  have HE2 := Lib.hid hN
  clear hN
  by_cases hN : x.hdr = y.hdr
  case neg =>
    have hB3 : (x.hdr == y.hdr) = false := beq_eq_false_iff_ne.2 hN
    have HN := Lib.hid hN
    clear hN
    go_wp2
    go_ret
    exact ⟨Says.no (fun e => HN.out (congrArg StmtP.hdr e)), below_step HW.out HB⟩
  have hB3 : (x.hdr == y.hdr) = true := beq_iff_eq.2 hN
  have HE3 := Lib.hid hN
  clear hN
  go_wp2_with fail
  refine (equal_node x.index y.index _ (HX.out.index.below (below_step HW.out HB) (Nat.le_refl _)) (HY.out.index.below (below_step HW.out HB) (Nat.le_refl _))).mono ?_
  rintro e w4 ⟨⟨b, rfl, hb⟩, hbN⟩
  replace HB := below_step HB hbN
  have HE4 := Lib.hid hb
  clear hbN hb
  cases b
  case false =>
    go_wp2
    go_ret
    exact ⟨Says.no (fun e => by have h := HE4.out.2 (congrArg StmtP.index e); cases h), below_step HW.out HB⟩
  go_wp2_with fail
  refine (equal_node x.value y.value _ (HX.out.value.below (below_step HW.out HB) (Nat.le_refl _)) (HY.out.value.below (below_step HW.out HB) (Nat.le_refl _))).mono ?_
  rintro e w5 ⟨⟨b, rfl, hb⟩, hbN⟩
  replace HB := below_step HB hbN
  have HE5 := Lib.hid hb
  clear hbN hb
  cases b
  case false =>
    go_wp2
    go_ret
    exact ⟨Says.no (fun e => by have h := HE5.out.2 (congrArg StmtP.value e); cases h), below_step HW.out HB⟩
  go_wp2
  go_ret
  exact ⟨Says.yes (by show StmtP.mk _ _ _ _ _ _ _ = StmtP.mk _ _ _ _ _ _ _; rw [HE0.out, (HE1.out.1 (by trivial)).1, (HE1.out.1 (by trivial)).2, HE2.out, HE3.out, HE4.out.1 (by trivial), HE5.out.1 (by trivial)]), below_step HW.out HB⟩

set_option maxRecDepth 100000 in
set_option maxHeartbeats 8000000 in
theorem efunc_stmt (x y : L StmtD) (w : World) (hx : LOk w 7 StmtD.cells x) (hxe : ∀ s ∈ x.l, StmtOk w s) (hy : LOk w 7 StmtD.cells y) (hye : ∀ s ∈ y.l, StmtOk w s) :
    Calls Tryz.prog 135 #[x.v, y.v, .func (.func 136) #[] #[]] w fun e w' => Says e (x.l.map StmtD.bare = y.l.map StmtD.bare) ∧ Below w.heap.size w w' := by
  obtain ⟨l, A0, c0⟩ := x
  obtain ⟨m, A1, c1⟩ := y
  have HX := Lib.hid hx
  have HY := Lib.hid hy
  have HXE := Lib.hid hxe
  have HYE := Lib.hid hye
  have hmx := hx.1
  have hmy := hy.1
  unfold maxLen at hmx hmy
  clear hx hy hxe hye
  simp only [L.v] at *
  by_cases hl : l.length = m.length
  case neg =>
    have hne : (((l.length : Nat) : Int) == ((m.length : Nat) : Int)) = false := by rw [beq_eq_false_iff_ne]; omega
    have hne2 : ¬ ((l.length : Nat) : Int) = ((m.length : Nat) : Int) := by omega
    have HL := Lib.hid hl
    clear hl
    go_enter Tryz.func135, Tryz.ntmps135
    go_wp2
    go_ret
    exact ⟨Says.no (fun e => HL.out (by simpa using congrArg List.length e)), Below.refl _ _⟩
  rw [← hl]
  have HL := Lib.hid hl
  clear hl hmy
  go_enter Tryz.func135, Tryz.ntmps135
  go_wp2
  go_loopw [17] (fun iv wr => ∃ k : Nat, k ≤ l.length ∧ iv = .int .i64 k ∧ Hid ((l.take k).map StmtD.bare = (m.take k).map StmtD.bare) ∧ Below w.heap.size w wr) (fun i _ => l.length - (intOf i).toNat)
  case atStart => exact ⟨0, Nat.zero_le _, rfl, Lib.hid rfl, Below.refl _ _⟩
  case round =>
    obtain ⟨k, hk, rfl, HK, HB⟩ := hrel
    by_cases hlt : k < l.length
    · have hlt2 : k < m.length := by have := HL.out; omega
      obtain ⟨g, of, hA, d0, d1, d2, d3, d4, d5, d6⟩ := StmtD.at (HX.out.below HB (Nat.le_refl _)) hlt
      obtain ⟨g2, of2, hA2, hall2⟩ := StmtD.atA (HY.out.below HB (Nat.le_refl _)) hlt2
      simp only at hA hA2
      subst hA hA2
      try simp only at d0 d1 d2 d3 d4 d5 d6
      have HS : Hid (l[k].bare = m[k].bare → (l.take (k + 1)).map StmtD.bare = (m.take (k + 1)).map StmtD.bare) := Lib.hid (take_bare hlt hlt2 HK.out)
      have HN : Hid (l.map StmtD.bare = m.map StmtD.bare → l[k].bare = m[k].bare) := Lib.hid (map_get hlt hlt2)
      have HO : Hid (StmtOk w l[k] ∧ StmtOk w m[k]) := Lib.hid ⟨HXE.out _ (List.getElem_mem hlt), HYE.out _ (List.getElem_mem hlt2)⟩
      generalize l[k] = a at *
      generalize m[k] = b at *
      clear hlt2
      have hall3 := hall2 _ (below1 wr (.cells #[.int .i64 a.kind, .int .i64 a.dh, .int .i64 a.df, .int .i64 a.reg, .int .i64 a.hdr, .slice a.index.A a.index.l.length a.index.c, .slice a.value.A a.value.l.length a.value.c] 129))
      clear hall2
      try simp only at hall3
      obtain ⟨e0, e1, e2, e3, e4, e5, e6⟩ := hall3
      go_wp2_with fail
      refine (equalStatements_any a b _ (HO.out.1.below (below_step HB (below2 _ _ _))) (HO.out.2.below (below_step HB (below2 _ _ _)))).mono ?_
      rintro e w1 ⟨⟨r, rfl, hr⟩, hbN⟩
      have HR := Lib.hid hr
      replace HB := below_step HB (below_step (below2 _ _ _) hbN)
      clear hr hbN
      cases r with
      | false =>
        have HN2 : Hid (¬ l.map StmtD.bare = m.map StmtD.bare) := Lib.hid (fun e => by have h := HR.out.2 (HN.out e); cases h)
        clear HN HS
        go_wp2
        go_ret
        exact ⟨Says.no HN2.out, HB⟩
      | true =>
        have HS2 := Lib.hid (HS.out (HR.out.1 rfl))
        clear HN HS
        go_wp2
        go_roundw
        case rel => exact ⟨k + 1, by omega, by go_num, HS2, HB⟩
        case measure => simp [intOf]; omega
    · have hk' : k = l.length := by omega
      subst hk'
      have HE : Hid (l.map StmtD.bare = m.map StmtD.bare) := Lib.hid (by have := HK.out; rw [List.take_length, HL.out, List.take_length] at this; exact this)
      go_wp2
      go_ret
      exact ⟨Says.yes HE.out, HB⟩

set_option maxRecDepth 100000 in
set_option maxHeartbeats 8000000 in
theorem equalHeaders_any (x y : HeaderD) (w : World) (hx : HeaderOk w x) (hy : HeaderOk w y) :
    Calls Tryz.prog 70 #[.agg #[.string x.name, .slice x.fields.A x.fields.l.length x.fields.c], .agg #[.string y.name, .slice y.fields.A y.fields.l.length y.fields.c]] w fun e w' => Says e (x.bare = y.bare) ∧ Below w.heap.size w w' := by
  obtain ⟨W, hW, hw, HB, hp⟩ := box2 w #[.string x.name, .slice x.fields.A x.fields.l.length x.fields.c] 61 #[.string y.name, .slice y.fields.A y.fields.l.length y.fields.c] 61
  have HW := Lib.hid hw
  have HX := Lib.hid hx
  have HY := Lib.hid hy
  clear hx hy hw
  go_enter Tryz.func70, Tryz.ntmps70
  go_upto_region 1 with fail
  rw [← hW]
  clear hW
  by_cases hN : x.name = y.name
  case neg =>
    have hB0 : (x.name.toList == y.name.toList) = false := toList_false hN
    have HN := Lib.hid hN
    clear hN
    go_wp2
    go_ret
    exact ⟨Says.no (fun e => HN.out (congrArg HeaderP.name e)), below_step HW.out HB⟩
  have hB0 : (x.name.toList == y.name.toList) = true := toList_true hN
  have HE0 := Lib.hid hN
  clear hN
  go_wp2_with fail
  refine (equal_field x.fields y.fields _ (HX.out.fields.below (below_step HW.out HB) (Nat.le_refl _)) (HY.out.fields.below (below_step HW.out HB) (Nat.le_refl _))).mono ?_
  rintro e w1 ⟨⟨b, rfl, hb⟩, hbN⟩
  replace HB := below_step HB hbN
  have HE1 := Lib.hid hb
  clear hbN hb
  cases b
  case false =>
    go_wp2
    go_ret
    exact ⟨Says.no (fun e => by have h := HE1.out.2 (congrArg HeaderP.fields e); cases h), below_step HW.out HB⟩
  go_wp2
  go_ret
  exact ⟨Says.yes (by show HeaderP.mk _ _ = HeaderP.mk _ _; rw [HE0.out, HE1.out.1 (by trivial)]), below_step HW.out HB⟩

set_option maxRecDepth 100000 in
set_option maxHeartbeats 8000000 in
theorem efunc_header (x y : L HeaderD) (w : World) (hx : LOk w 2 HeaderD.cells x) (hxe : ∀ s ∈ x.l, HeaderOk w s) (hy : LOk w 2 HeaderD.cells y) (hye : ∀ s ∈ y.l, HeaderOk w s) :
    Calls Tryz.prog 69 #[x.v, y.v, .func (.func 70) #[] #[]] w fun e w' => Says e (x.l.map HeaderD.bare = y.l.map HeaderD.bare) ∧ Below w.heap.size w w' := by
  obtain ⟨l, A0, c0⟩ := x
  obtain ⟨m, A1, c1⟩ := y
  have HX := Lib.hid hx
  have HY := Lib.hid hy
  have HXE := Lib.hid hxe
  have HYE := Lib.hid hye
  have hmx := hx.1
  have hmy := hy.1
  unfold maxLen at hmx hmy
  clear hx hy hxe hye
  simp only [L.v] at *
  by_cases hl : l.length = m.length
  case neg =>
    have hne : (((l.length : Nat) : Int) == ((m.length : Nat) : Int)) = false := by rw [beq_eq_false_iff_ne]; omega
    have hne2 : ¬ ((l.length : Nat) : Int) = ((m.length : Nat) : Int) := by omega
    have HL := Lib.hid hl
    clear hl
    go_enter Tryz.func69, Tryz.ntmps69
    go_wp2
    go_ret
    exact ⟨Says.no (fun e => HL.out (by simpa using congrArg List.length e)), Below.refl _ _⟩
  rw [← hl]
  have HL := Lib.hid hl
  clear hl hmy
  go_enter Tryz.func69, Tryz.ntmps69
  go_wp2
  go_loopw [17] (fun iv wr => ∃ k : Nat, k ≤ l.length ∧ iv = .int .i64 k ∧ Hid ((l.take k).map HeaderD.bare = (m.take k).map HeaderD.bare) ∧ Below w.heap.size w wr) (fun i _ => l.length - (intOf i).toNat)
  case atStart => exact ⟨0, Nat.zero_le _, rfl, Lib.hid rfl, Below.refl _ _⟩
  case round =>
    obtain ⟨k, hk, rfl, HK, HB⟩ := hrel
    by_cases hlt : k < l.length
    · have hlt2 : k < m.length := by have := HL.out; omega
      obtain ⟨g, of, hA, d0, d1⟩ := HeaderD.at (HX.out.below HB (Nat.le_refl _)) hlt
      obtain ⟨g2, of2, hA2, hall2⟩ := HeaderD.atA (HY.out.below HB (Nat.le_refl _)) hlt2
      simp only at hA hA2
      subst hA hA2
      try simp only at d0 d1
      have HS : Hid (l[k].bare = m[k].bare → (l.take (k + 1)).map HeaderD.bare = (m.take (k + 1)).map HeaderD.bare) := Lib.hid (take_bare hlt hlt2 HK.out)
      have HN : Hid (l.map HeaderD.bare = m.map HeaderD.bare → l[k].bare = m[k].bare) := Lib.hid (map_get hlt hlt2)
      have HO : Hid (HeaderOk w l[k] ∧ HeaderOk w m[k]) := Lib.hid ⟨HXE.out _ (List.getElem_mem hlt), HYE.out _ (List.getElem_mem hlt2)⟩
      generalize l[k] = a at *
      generalize m[k] = b at *
      clear hlt2
      have hall3 := hall2 _ (below1 wr (.cells #[.string a.name, .slice a.fields.A a.fields.l.length a.fields.c] 61))
      clear hall2
      try simp only at hall3
      obtain ⟨e0, e1⟩ := hall3
      go_wp2_with fail
      refine (equalHeaders_any a b _ (HO.out.1.below (below_step HB (below2 _ _ _))) (HO.out.2.below (below_step HB (below2 _ _ _)))).mono ?_
      rintro e w1 ⟨⟨r, rfl, hr⟩, hbN⟩
      have HR := Lib.hid hr
      replace HB := below_step HB (below_step (below2 _ _ _) hbN)
      clear hr hbN
      cases r with
      | false =>
        have HN2 : Hid (¬ l.map HeaderD.bare = m.map HeaderD.bare) := Lib.hid (fun e => by have h := HR.out.2 (HN.out e); cases h)
        clear HN HS
        go_wp2
        go_ret
        exact ⟨Says.no HN2.out, HB⟩
      | true =>
        have HS2 := Lib.hid (HS.out (HR.out.1 rfl))
        clear HN HS
        go_wp2
        go_roundw
        case rel => exact ⟨k + 1, by omega, by go_num, HS2, HB⟩
        case measure => simp [intOf]; omega
    · have hk' : k = l.length := by omega
      subst hk'
      have HE : Hid (l.map HeaderD.bare = m.map HeaderD.bare) := Lib.hid (by have := HK.out; rw [List.take_length, HL.out, List.take_length] at this; exact this)
      go_wp2
      go_ret
      exact ⟨Says.yes HE.out, HB⟩

set_option maxRecDepth 100000 in
set_option maxHeartbeats 8000000 in
theorem equalActions_any (x y : ActD) (w : World) (hx : ActOk w x) (hy : ActOk w y) :
    Calls Tryz.prog 74 #[.agg #[.string x.name, .slice x.params.A x.params.l.length x.params.c, .slice x.body.A x.body.l.length x.body.c], .agg #[.string y.name, .slice y.params.A y.params.l.length y.params.c, .slice y.body.A y.body.l.length y.body.c]] w fun e w' => Says e (x.bare = y.bare) ∧ Below w.heap.size w w' := by
  obtain ⟨W, hW, hw, HB, hp⟩ := box2 w #[.string x.name, .slice x.params.A x.params.l.length x.params.c, .slice x.body.A x.body.l.length x.body.c] 68 #[.string y.name, .slice y.params.A y.params.l.length y.params.c, .slice y.body.A y.body.l.length y.body.c] 68
  have HW := Lib.hid hw
  have HX := Lib.hid hx
  have HY := Lib.hid hy
  clear hx hy hw
  go_enter Tryz.func74, Tryz.ntmps74
  go_upto_region 1 with fail
  rw [← hW]
  clear hW
  by_cases hN : x.name = y.name
  case neg =>
    have hB0 : (x.name.toList == y.name.toList) = false := toList_false hN
    have HN := Lib.hid hN
    clear hN
    go_wp2
    go_ret
    exact ⟨Says.no (fun e => HN.out (congrArg ActP.name e)), below_step HW.out HB⟩
  have hB0 : (x.name.toList == y.name.toList) = true := toList_true hN
  have HE0 := Lib.hid hN
  clear hN
  go_wp2_with fail
  refine (equal_field x.params y.params _ (HX.out.params.below (below_step HW.out HB) (Nat.le_refl _)) (HY.out.params.below (below_step HW.out HB) (Nat.le_refl _))).mono ?_
  rintro e w1 ⟨⟨b, rfl, hb⟩, hbN⟩
  replace HB := below_step HB hbN
  have HE1 := Lib.hid hb
  clear hbN hb
  cases b
  case false =>
    go_wp2
    go_ret
    exact ⟨Says.no (fun e => by have h := HE1.out.2 (congrArg ActP.params e); cases h), below_step HW.out HB⟩
  go_wp2_with fail
  refine (efunc_stmt x.body y.body _ (HX.out.body.below (below_step HW.out HB) (Nat.le_refl _)) (fun s hs => (HX.out.stmts s hs).below (below_step HW.out HB)) (HY.out.body.below (below_step HW.out HB) (Nat.le_refl _)) (fun s hs => (HY.out.stmts s hs).below (below_step HW.out HB))).mono ?_
  rintro e w2 ⟨⟨b, rfl, hb⟩, hbN⟩
  replace HB := below_step HB hbN
  have HE2 := Lib.hid hb
  clear hbN hb
  cases b
  case false =>
    go_wp2
    go_ret
    exact ⟨Says.no (fun e => by have h := HE2.out.2 (congrArg ActP.body e); cases h), below_step HW.out HB⟩
  go_wp2
  go_ret
  exact ⟨Says.yes (by show ActP.mk _ _ _ = ActP.mk _ _ _; rw [HE0.out, HE1.out.1 (by trivial), HE2.out.1 (by trivial)]), below_step HW.out HB⟩

set_option maxRecDepth 100000 in
set_option maxHeartbeats 8000000 in
theorem efunc_act (x y : L ActD) (w : World) (hx : LOk w 3 ActD.cells x) (hxe : ∀ s ∈ x.l, ActOk w s) (hy : LOk w 3 ActD.cells y) (hye : ∀ s ∈ y.l, ActOk w s) :
    Calls Tryz.prog 73 #[x.v, y.v, .func (.func 74) #[] #[]] w fun e w' => Says e (x.l.map ActD.bare = y.l.map ActD.bare) ∧ Below w.heap.size w w' := by
  obtain ⟨l, A0, c0⟩ := x
  obtain ⟨m, A1, c1⟩ := y
  have HX := Lib.hid hx
  have HY := Lib.hid hy
  have HXE := Lib.hid hxe
  have HYE := Lib.hid hye
  have hmx := hx.1
  have hmy := hy.1
  unfold maxLen at hmx hmy
  clear hx hy hxe hye
  simp only [L.v] at *
  by_cases hl : l.length = m.length
  case neg =>
    have hne : (((l.length : Nat) : Int) == ((m.length : Nat) : Int)) = false := by rw [beq_eq_false_iff_ne]; omega
    have hne2 : ¬ ((l.length : Nat) : Int) = ((m.length : Nat) : Int) := by omega
    have HL := Lib.hid hl
    clear hl
    go_enter Tryz.func73, Tryz.ntmps73
    go_wp2
    go_ret
    exact ⟨Says.no (fun e => HL.out (by simpa using congrArg List.length e)), Below.refl _ _⟩
  rw [← hl]
  have HL := Lib.hid hl
  clear hl hmy
  go_enter Tryz.func73, Tryz.ntmps73
  go_wp2
  go_loopw [17] (fun iv wr => ∃ k : Nat, k ≤ l.length ∧ iv = .int .i64 k ∧ Hid ((l.take k).map ActD.bare = (m.take k).map ActD.bare) ∧ Below w.heap.size w wr) (fun i _ => l.length - (intOf i).toNat)
  case atStart => exact ⟨0, Nat.zero_le _, rfl, Lib.hid rfl, Below.refl _ _⟩
  case round =>
    obtain ⟨k, hk, rfl, HK, HB⟩ := hrel
    by_cases hlt : k < l.length
    · have hlt2 : k < m.length := by have := HL.out; omega
      obtain ⟨g, of, hA, d0, d1, d2⟩ := ActD.at (HX.out.below HB (Nat.le_refl _)) hlt
      obtain ⟨g2, of2, hA2, hall2⟩ := ActD.atA (HY.out.below HB (Nat.le_refl _)) hlt2
      simp only at hA hA2
      subst hA hA2
      try simp only at d0 d1 d2
      have HS : Hid (l[k].bare = m[k].bare → (l.take (k + 1)).map ActD.bare = (m.take (k + 1)).map ActD.bare) := Lib.hid (take_bare hlt hlt2 HK.out)
      have HN : Hid (l.map ActD.bare = m.map ActD.bare → l[k].bare = m[k].bare) := Lib.hid (map_get hlt hlt2)
      have HO : Hid (ActOk w l[k] ∧ ActOk w m[k]) := Lib.hid ⟨HXE.out _ (List.getElem_mem hlt), HYE.out _ (List.getElem_mem hlt2)⟩
      generalize l[k] = a at *
      generalize m[k] = b at *
      clear hlt2
      have hall3 := hall2 _ (below1 wr (.cells #[.string a.name, .slice a.params.A a.params.l.length a.params.c, .slice a.body.A a.body.l.length a.body.c] 68))
      clear hall2
      try simp only at hall3
      obtain ⟨e0, e1, e2⟩ := hall3
      go_wp2_with fail
      refine (equalActions_any a b _ (HO.out.1.below (below_step HB (below2 _ _ _))) (HO.out.2.below (below_step HB (below2 _ _ _)))).mono ?_
      rintro e w1 ⟨⟨r, rfl, hr⟩, hbN⟩
      have HR := Lib.hid hr
      replace HB := below_step HB (below_step (below2 _ _ _) hbN)
      clear hr hbN
      cases r with
      | false =>
        have HN2 : Hid (¬ l.map ActD.bare = m.map ActD.bare) := Lib.hid (fun e => by have h := HR.out.2 (HN.out e); cases h)
        clear HN HS
        go_wp2
        go_ret
        exact ⟨Says.no HN2.out, HB⟩
      | true =>
        have HS2 := Lib.hid (HS.out (HR.out.1 rfl))
        clear HN HS
        go_wp2
        go_roundw
        case rel => exact ⟨k + 1, by omega, by go_num, HS2, HB⟩
        case measure => simp [intOf]; omega
    · have hk' : k = l.length := by omega
      subst hk'
      have HE : Hid (l.map ActD.bare = m.map ActD.bare) := Lib.hid (by have := HK.out; rw [List.take_length, HL.out, List.take_length] at this; exact this)
      go_wp2
      go_ret
      exact ⟨Says.yes HE.out, HB⟩

set_option maxRecDepth 100000 in
set_option maxHeartbeats 8000000 in
theorem equalTables_any (x y : TabD) (w : World) (hx : TabOk w x) (hy : TabOk w y) :
    Calls Tryz.prog 76 #[.agg #[.string x.name, .slice x.keys.A x.keys.l.length x.keys.c, .slice x.acts.A x.acts.l.length x.acts.c, .int .i64 x.defA, .slice x.args.A x.args.l.length x.args.c, .int .i64 x.size], .agg #[.string y.name, .slice y.keys.A y.keys.l.length y.keys.c, .slice y.acts.A y.acts.l.length y.acts.c, .int .i64 y.defA, .slice y.args.A y.args.l.length y.args.c, .int .i64 y.size]] w fun e w' => Says e (x.bare = y.bare) ∧ Below w.heap.size w w' := by
  obtain ⟨W, hW, hw, HB, hp⟩ := box2 w #[.string x.name, .slice x.keys.A x.keys.l.length x.keys.c, .slice x.acts.A x.acts.l.length x.acts.c, .int .i64 x.defA, .slice x.args.A x.args.l.length x.args.c, .int .i64 x.size] 52 #[.string y.name, .slice y.keys.A y.keys.l.length y.keys.c, .slice y.acts.A y.acts.l.length y.acts.c, .int .i64 y.defA, .slice y.args.A y.args.l.length y.args.c, .int .i64 y.size] 52
  have HW := Lib.hid hw
  have HX := Lib.hid hx
  have HY := Lib.hid hy
  clear hx hy hw
  go_enter Tryz.func76, Tryz.ntmps76
  go_upto_region 1 with fail
  rw [← hW]
  clear hW
  by_cases hN : x.name = y.name
  case neg =>
    have hB0 : (x.name.toList == y.name.toList) = false := toList_false hN
    have HN := Lib.hid hN
    clear hN
    go_wp2
    go_ret
    exact ⟨Says.no (fun e => HN.out (congrArg TabP.name e)), below_step HW.out HB⟩
  have hB0 : (x.name.toList == y.name.toList) = true := toList_true hN
  have HE0 := Lib.hid hN
  clear hN
  go_wp2_with fail
  refine (equal_key x.keys y.keys _ (HX.out.keys.below (below_step HW.out HB) (Nat.le_refl _)) (HY.out.keys.below (below_step HW.out HB) (Nat.le_refl _))).mono ?_
  rintro e w1 ⟨⟨b, rfl, hb⟩, hbN⟩
  replace HB := below_step HB hbN
  have HE1 := Lib.hid hb
  clear hbN hb
  cases b
  case false =>
    go_wp2
    go_ret
    exact ⟨Says.no (fun e => by have h := HE1.out.2 (congrArg TabP.keys e); cases h), below_step HW.out HB⟩
  go_wp2_with fail
  refine (equal_int x.acts y.acts _ (HX.out.acts.below (below_step HW.out HB) (Nat.le_refl _)) (HY.out.acts.below (below_step HW.out HB) (Nat.le_refl _))).mono ?_
  rintro e w2 ⟨⟨b, rfl, hb⟩, hbN⟩
  replace HB := below_step HB hbN
  have HE2 := Lib.hid hb
  clear hbN hb
  cases b
  case false =>
    go_wp2
    go_ret
    exact ⟨Says.no (fun e => by have h := HE2.out.2 (congrArg TabP.acts e); cases h), below_step HW.out HB⟩
  by_cases hN : x.defA = y.defA
  case neg =>
    have hB3 : (x.defA == y.defA) = false := beq_eq_false_iff_ne.2 hN
    have HN := Lib.hid hN
    clear hN
    go_wp2
    go_ret
    exact ⟨Says.no (fun e => HN.out (congrArg TabP.defA e)), below_step HW.out HB⟩
  have hB3 : (x.defA == y.defA) = true := beq_iff_eq.2 hN
  have HE3 := Lib.hid hN
  clear hN
  go_wp2_with fail
  refine (equal_u32 x.args y.args _ (HX.out.args.below (below_step HW.out HB) (Nat.le_refl _)) (HY.out.args.below (below_step HW.out HB) (Nat.le_refl _))).mono ?_
  rintro e w4 ⟨⟨b, rfl, hb⟩, hbN⟩
  replace HB := below_step HB hbN
  have HE4 := Lib.hid hb
  clear hbN hb
  cases b
  case false =>
    go_wp2
    go_ret
    exact ⟨Says.no (fun e => by have h := HE4.out.2 (congrArg TabP.args e); cases h), below_step HW.out HB⟩
  by_cases hN : x.size = y.size
  case neg =>
    have hB5 : (x.size == y.size) = false := beq_eq_false_iff_ne.2 hN
    have HN := Lib.hid hN
    clear hN
    go_wp2
    go_ret
    exact ⟨Says.no (fun e => HN.out (congrArg TabP.size e)), below_step HW.out HB⟩
  have hB5 : (x.size == y.size) = true := beq_iff_eq.2 hN
  have HE5 := Lib.hid hN
  clear hN
  go_wp2
  go_ret
  exact ⟨Says.yes (by show TabP.mk _ _ _ _ _ _ = TabP.mk _ _ _ _ _ _; rw [HE0.out, HE1.out.1 (by trivial), HE2.out.1 (by trivial), HE3.out, HE4.out.1 (by trivial), HE5.out]), below_step HW.out HB⟩

set_option maxRecDepth 100000 in
set_option maxHeartbeats 8000000 in
theorem efunc_tab (x y : L TabD) (w : World) (hx : LOk w 6 TabD.cells x) (hxe : ∀ s ∈ x.l, TabOk w s) (hy : LOk w 6 TabD.cells y) (hye : ∀ s ∈ y.l, TabOk w s) :
    Calls Tryz.prog 75 #[x.v, y.v, .func (.func 76) #[] #[]] w fun e w' => Says e (x.l.map TabD.bare = y.l.map TabD.bare) ∧ Below w.heap.size w w' := by
  obtain ⟨l, A0, c0⟩ := x
  obtain ⟨m, A1, c1⟩ := y
  have HX := Lib.hid hx
  have HY := Lib.hid hy
  have HXE := Lib.hid hxe
  have HYE := Lib.hid hye
  have hmx := hx.1
  have hmy := hy.1
  unfold maxLen at hmx hmy
  clear hx hy hxe hye
  simp only [L.v] at *
  by_cases hl : l.length = m.length
  case neg =>
    have hne : (((l.length : Nat) : Int) == ((m.length : Nat) : Int)) = false := by rw [beq_eq_false_iff_ne]; omega
    have hne2 : ¬ ((l.length : Nat) : Int) = ((m.length : Nat) : Int) := by omega
    have HL := Lib.hid hl
    clear hl
    go_enter Tryz.func75, Tryz.ntmps75
    go_wp2
    go_ret
    exact ⟨Says.no (fun e => HL.out (by simpa using congrArg List.length e)), Below.refl _ _⟩
  rw [← hl]
  have HL := Lib.hid hl
  clear hl hmy
  go_enter Tryz.func75, Tryz.ntmps75
  go_wp2
  go_loopw [17] (fun iv wr => ∃ k : Nat, k ≤ l.length ∧ iv = .int .i64 k ∧ Hid ((l.take k).map TabD.bare = (m.take k).map TabD.bare) ∧ Below w.heap.size w wr) (fun i _ => l.length - (intOf i).toNat)
  case atStart => exact ⟨0, Nat.zero_le _, rfl, Lib.hid rfl, Below.refl _ _⟩
  case round =>
    obtain ⟨k, hk, rfl, HK, HB⟩ := hrel
    by_cases hlt : k < l.length
    · have hlt2 : k < m.length := by have := HL.out; omega
      obtain ⟨g, of, hA, d0, d1, d2, d3, d4, d5⟩ := TabD.at (HX.out.below HB (Nat.le_refl _)) hlt
      obtain ⟨g2, of2, hA2, hall2⟩ := TabD.atA (HY.out.below HB (Nat.le_refl _)) hlt2
      simp only at hA hA2
      subst hA hA2
      try simp only at d0 d1 d2 d3 d4 d5
      have HS : Hid (l[k].bare = m[k].bare → (l.take (k + 1)).map TabD.bare = (m.take (k + 1)).map TabD.bare) := Lib.hid (take_bare hlt hlt2 HK.out)
      have HN : Hid (l.map TabD.bare = m.map TabD.bare → l[k].bare = m[k].bare) := Lib.hid (map_get hlt hlt2)
      have HO : Hid (TabOk w l[k] ∧ TabOk w m[k]) := Lib.hid ⟨HXE.out _ (List.getElem_mem hlt), HYE.out _ (List.getElem_mem hlt2)⟩
      generalize l[k] = a at *
      generalize m[k] = b at *
      clear hlt2
      have hall3 := hall2 _ (below1 wr (.cells #[.string a.name, .slice a.keys.A a.keys.l.length a.keys.c, .slice a.acts.A a.acts.l.length a.acts.c, .int .i64 a.defA, .slice a.args.A a.args.l.length a.args.c, .int .i64 a.size] 52))
      clear hall2
      try simp only at hall3
      obtain ⟨e0, e1, e2, e3, e4, e5⟩ := hall3
      go_wp2_with fail
      refine (equalTables_any a b _ (HO.out.1.below (below_step HB (below2 _ _ _))) (HO.out.2.below (below_step HB (below2 _ _ _)))).mono ?_
      rintro e w1 ⟨⟨r, rfl, hr⟩, hbN⟩
      have HR := Lib.hid hr
      replace HB := below_step HB (below_step (below2 _ _ _) hbN)
      clear hr hbN
      cases r with
      | false =>
        have HN2 : Hid (¬ l.map TabD.bare = m.map TabD.bare) := Lib.hid (fun e => by have h := HR.out.2 (HN.out e); cases h)
        clear HN HS
        go_wp2
        go_ret
        exact ⟨Says.no HN2.out, HB⟩
      | true =>
        have HS2 := Lib.hid (HS.out (HR.out.1 rfl))
        clear HN HS
        go_wp2
        go_roundw
        case rel => exact ⟨k + 1, by omega, by go_num, HS2, HB⟩
        case measure => simp [intOf]; omega
    · have hk' : k = l.length := by omega
      subst hk'
      have HE : Hid (l.map TabD.bare = m.map TabD.bare) := Lib.hid (by have := HK.out; rw [List.take_length, HL.out, List.take_length] at this; exact this)
      go_wp2
      go_ret
      exact ⟨Says.yes HE.out, HB⟩

set_option maxRecDepth 100000 in
set_option maxHeartbeats 8000000 in
theorem equalStates_any (x y : StateD) (w : World) (hx : StateOk w x) (hy : StateOk w y) :
    Calls Tryz.prog 78 #[.agg #[.string x.name, .slice x.extract.A x.extract.l.length x.extract.c, .bool x.sel, .int .i64 x.oh, .int .i64 x.of, .slice x.cases.A x.cases.l.length x.cases.c, .int .i64 x.dflt], .agg #[.string y.name, .slice y.extract.A y.extract.l.length y.extract.c, .bool y.sel, .int .i64 y.oh, .int .i64 y.of, .slice y.cases.A y.cases.l.length y.cases.c, .int .i64 y.dflt]] w fun e w' => Says e (x.bare = y.bare) ∧ Below w.heap.size w w' := by
  obtain ⟨W, hW, hw, HB, hp⟩ := box2 w #[.string x.name, .slice x.extract.A x.extract.l.length x.extract.c, .bool x.sel, .int .i64 x.oh, .int .i64 x.of, .slice x.cases.A x.cases.l.length x.cases.c, .int .i64 x.dflt] 73 #[.string y.name, .slice y.extract.A y.extract.l.length y.extract.c, .bool y.sel, .int .i64 y.oh, .int .i64 y.of, .slice y.cases.A y.cases.l.length y.cases.c, .int .i64 y.dflt] 73
  have HW := Lib.hid hw
  have HX := Lib.hid hx
  have HY := Lib.hid hy
  clear hx hy hw
  go_enter Tryz.func78, Tryz.ntmps78
  go_upto_region 1 with fail
  rw [← hW]
  clear hW
  by_cases hN : x.name = y.name
  case neg =>
    have hB0 : (x.name.toList == y.name.toList) = false := toList_false hN
    have HN := Lib.hid hN
    clear hN
    go_wp2
    go_ret
    exact ⟨Says.no (fun e => HN.out (congrArg StateP.name e)), below_step HW.out HB⟩
  have hB0 : (x.name.toList == y.name.toList) = true := toList_true hN
  have HE0 := Lib.hid hN
  clear hN
  go_wp2_with fail
  refine (equal_int x.extract y.extract _ (HX.out.extract.below (below_step HW.out HB) (Nat.le_refl _)) (HY.out.extract.below (below_step HW.out HB) (Nat.le_refl _))).mono ?_
  rintro e w1 ⟨⟨b, rfl, hb⟩, hbN⟩
  replace HB := below_step HB hbN
  have HE1 := Lib.hid hb
  clear hbN hb
  cases b
  case false =>
    go_wp2
    go_ret
    exact ⟨Says.no (fun e => by have h := HE1.out.2 (congrArg StateP.extract e); cases h), below_step HW.out HB⟩
  by_cases hN : x.sel = y.sel
  case neg =>
    have hB2 : (x.sel == y.sel) = false := beq_eq_false_iff_ne.2 hN
    have HN := Lib.hid hN
    clear hN
    go_wp2
    go_ret
    exact ⟨Says.no (fun e => HN.out (congrArg StateP.sel e)), below_step HW.out HB⟩
  have hB2 : (x.sel == y.sel) = true := beq_iff_eq.2 hN
  have HE2 := Lib.hid hN
  clear hN
  obtain ⟨r3, hr3, hR3⟩ := eql_ref x.oh x.of y.oh y.of
  have HE3 := Lib.hid hr3
  clear hr3
  cases r3
  case false =>
    go_wp2
    go_ret
    exact ⟨Says.no (fun e => by have h := HE3.out.2 ⟨congrArg StateP.oh e, congrArg StateP.of e⟩; cases h), below_step HW.out HB⟩
  go_wp2_with fail
  refine (equal_case x.cases y.cases _ (HX.out.cases.below (below_step HW.out HB) (Nat.le_refl _)) (HY.out.cases.below (below_step HW.out HB) (Nat.le_refl _))).mono ?_
  rintro e w4 ⟨⟨b, rfl, hb⟩, hbN⟩
  replace HB := below_step HB hbN
  have HE4 := Lib.hid hb
  clear hbN hb
  cases b
  case false =>
    go_wp2
    go_ret
    exact ⟨Says.no (fun e => by have h := HE4.out.2 (congrArg StateP.cases e); cases h), below_step HW.out HB⟩
  by_cases hN : x.dflt = y.dflt
  case neg =>
    have hB5 : (x.dflt == y.dflt) = false := beq_eq_false_iff_ne.2 hN
    have HN := Lib.hid hN
    clear hN
    go_wp2
    go_ret
    exact ⟨Says.no (fun e => HN.out (congrArg StateP.dflt e)), below_step HW.out HB⟩
  have hB5 : (x.dflt == y.dflt) = true := beq_iff_eq.2 hN
  have HE5 := Lib.hid hN
  clear hN
  go_wp2
  go_ret
  exact ⟨Says.yes (by show StateP.mk _ _ _ _ _ _ _ = StateP.mk _ _ _ _ _ _ _; rw [HE0.out, HE1.out.1 (by trivial), HE2.out, (HE3.out.1 (by trivial)).1, (HE3.out.1 (by trivial)).2, HE4.out.1 (by trivial), HE5.out]), below_step HW.out HB⟩

set_option maxRecDepth 100000 in
set_option maxHeartbeats 8000000 in
theorem efunc_state (x y : L StateD) (w : World) (hx : LOk w 7 StateD.cells x) (hxe : ∀ s ∈ x.l, StateOk w s) (hy : LOk w 7 StateD.cells y) (hye : ∀ s ∈ y.l, StateOk w s) :
    Calls Tryz.prog 77 #[x.v, y.v, .func (.func 78) #[] #[]] w fun e w' => Says e (x.l.map StateD.bare = y.l.map StateD.bare) ∧ Below w.heap.size w w' := by
  obtain ⟨l, A0, c0⟩ := x
  obtain ⟨m, A1, c1⟩ := y
  have HX := Lib.hid hx
  have HY := Lib.hid hy
  have HXE := Lib.hid hxe
  have HYE := Lib.hid hye
  have hmx := hx.1
  have hmy := hy.1
  unfold maxLen at hmx hmy
  clear hx hy hxe hye
  simp only [L.v] at *
  by_cases hl : l.length = m.length
  case neg =>
    have hne : (((l.length : Nat) : Int) == ((m.length : Nat) : Int)) = false := by rw [beq_eq_false_iff_ne]; omega
    have hne2 : ¬ ((l.length : Nat) : Int) = ((m.length : Nat) : Int) := by omega
    have HL := Lib.hid hl
    clear hl
    go_enter Tryz.func77, Tryz.ntmps77
    go_wp2
    go_ret
    exact ⟨Says.no (fun e => HL.out (by simpa using congrArg List.length e)), Below.refl _ _⟩
  rw [← hl]
  have HL := Lib.hid hl
  clear hl hmy
  go_enter Tryz.func77, Tryz.ntmps77
  go_wp2
  go_loopw [17] (fun iv wr => ∃ k : Nat, k ≤ l.length ∧ iv = .int .i64 k ∧ Hid ((l.take k).map StateD.bare = (m.take k).map StateD.bare) ∧ Below w.heap.size w wr) (fun i _ => l.length - (intOf i).toNat)
  case atStart => exact ⟨0, Nat.zero_le _, rfl, Lib.hid rfl, Below.refl _ _⟩
  case round =>
    obtain ⟨k, hk, rfl, HK, HB⟩ := hrel
    by_cases hlt : k < l.length
    · have hlt2 : k < m.length := by have := HL.out; omega
      obtain ⟨g, of, hA, d0, d1, d2, d3, d4, d5, d6⟩ := StateD.at (HX.out.below HB (Nat.le_refl _)) hlt
      obtain ⟨g2, of2, hA2, hall2⟩ := StateD.atA (HY.out.below HB (Nat.le_refl _)) hlt2
      simp only at hA hA2
      subst hA hA2
      try simp only at d0 d1 d2 d3 d4 d5 d6
      have HS : Hid (l[k].bare = m[k].bare → (l.take (k + 1)).map StateD.bare = (m.take (k + 1)).map StateD.bare) := Lib.hid (take_bare hlt hlt2 HK.out)
      have HN : Hid (l.map StateD.bare = m.map StateD.bare → l[k].bare = m[k].bare) := Lib.hid (map_get hlt hlt2)
      have HO : Hid (StateOk w l[k] ∧ StateOk w m[k]) := Lib.hid ⟨HXE.out _ (List.getElem_mem hlt), HYE.out _ (List.getElem_mem hlt2)⟩
      generalize l[k] = a at *
      generalize m[k] = b at *
      clear hlt2
      have hall3 := hall2 _ (below1 wr (.cells #[.string a.name, .slice a.extract.A a.extract.l.length a.extract.c, .bool a.sel, .int .i64 a.oh, .int .i64 a.of, .slice a.cases.A a.cases.l.length a.cases.c, .int .i64 a.dflt] 73))
      clear hall2
      try simp only at hall3
      obtain ⟨e0, e1, e2, e3, e4, e5, e6⟩ := hall3
      go_wp2_with fail
      refine (equalStates_any a b _ (HO.out.1.below (below_step HB (below2 _ _ _))) (HO.out.2.below (below_step HB (below2 _ _ _)))).mono ?_
      rintro e w1 ⟨⟨r, rfl, hr⟩, hbN⟩
      have HR := Lib.hid hr
      replace HB := below_step HB (below_step (below2 _ _ _) hbN)
      clear hr hbN
      cases r with
      | false =>
        have HN2 : Hid (¬ l.map StateD.bare = m.map StateD.bare) := Lib.hid (fun e => by have h := HR.out.2 (HN.out e); cases h)
        clear HN HS
        go_wp2
        go_ret
        exact ⟨Says.no HN2.out, HB⟩
      | true =>
        have HS2 := Lib.hid (HS.out (HR.out.1 rfl))
        clear HN HS
        go_wp2
        go_roundw
        case rel => exact ⟨k + 1, by omega, by go_num, HS2, HB⟩
        case measure => simp [intOf]; omega
    · have hk' : k = l.length := by omega
      subst hk'
      have HE : Hid (l.map StateD.bare = m.map StateD.bare) := Lib.hid (by have := HK.out; rw [List.take_length, HL.out, List.take_length] at this; exact this)
      go_wp2
      go_ret
      exact ⟨Says.yes HE.out, HB⟩

end Go.Proofs.YtgfbikknkcaneaaGreat
namespace Go.Proofs.YtgfbikknkcaneaaGreat
open Go.RowKit

theorem ctl_bare_iff (x y : CtlD) : x.bare = y.bare ↔ x.kind = y.kind ∧ x.table = y.table ∧ x.cond.l = y.cond.l ∧ x.th.l.map CtlD.bare = y.th.l.map CtlD.bare ∧ x.el.l.map CtlD.bare = y.el.l.map CtlD.bare := by
  rw [ctl_bare, ctl_bare y, CtlP.mk.injEq]
set_option maxRecDepth 100000 in
set_option maxHeartbeats 8000000 in
theorem equalNodes_of (x y : CtlD) (w : World) (hx : CtlOk w x) (hy : CtlOk w y)
    (ht : ∀ u, Below w.heap.size w u → Calls Tryz.prog 79 #[.slice x.th.A x.th.l.length x.th.c, .slice y.th.A y.th.l.length y.th.c, .func (.func 80) #[] #[]] u fun e w2 => Says e (x.th.l.map CtlD.bare = y.th.l.map CtlD.bare) ∧ Below u.heap.size u w2)
    (he : ∀ u, Below w.heap.size w u → Calls Tryz.prog 79 #[.slice x.el.A x.el.l.length x.el.c, .slice y.el.A y.el.l.length y.el.c, .func (.func 80) #[] #[]] u fun e w2 => Says e (x.el.l.map CtlD.bare = y.el.l.map CtlD.bare) ∧ Below u.heap.size u w2) :
    Calls Tryz.prog 80 #[.agg #[.int .i64 x.kind, .int .i64 x.table, .slice x.cond.A x.cond.l.length x.cond.c, .slice x.th.A x.th.l.length x.th.c, .slice x.el.A x.el.l.length x.el.c], .agg #[.int .i64 y.kind, .int .i64 y.table, .slice y.cond.A y.cond.l.length y.cond.c, .slice y.th.A y.th.l.length y.th.c, .slice y.el.A y.el.l.length y.el.c]] w fun e w' => Says e (x.bare = y.bare) ∧ Below w.heap.size w w' := by
  rw [ctl_bare_iff]
  obtain ⟨W, hW, hw, HB, hp⟩ := box2 w #[.int .i64 x.kind, .int .i64 x.table, .slice x.cond.A x.cond.l.length x.cond.c, .slice x.th.A x.th.l.length x.th.c, .slice x.el.A x.el.l.length x.el.c] 106 #[.int .i64 y.kind, .int .i64 y.table, .slice y.cond.A y.cond.l.length y.cond.c, .slice y.th.A y.th.l.length y.th.c, .slice y.el.A y.el.l.length y.el.c] 106
  have HW := Lib.hid hw
  have HX := Lib.hid hx
  have HY := Lib.hid hy
  have HT := Lib.hid ht
  have HL := Lib.hid he
  clear hx hy hw ht he
  go_enter Tryz.func80, Tryz.ntmps80
  go_upto_region 1 with fail
  rw [← hW]
  clear hW
  by_cases hN : x.kind = y.kind
  case neg =>
    have hB0 : (x.kind == y.kind) = false := beq_eq_false_iff_ne.2 hN
    have HN := Lib.hid hN
    clear hN
    go_wp2
    go_ret
    exact ⟨Says.no (fun e => HN.out e.1), below_step HW.out HB⟩
  have hB0 : (x.kind == y.kind) = true := beq_iff_eq.2 hN
  have HE0 := Lib.hid hN
  clear hN
  by_cases hN : x.table = y.table
  case neg =>
    have hB1 : (x.table == y.table) = false := beq_eq_false_iff_ne.2 hN
    have HN := Lib.hid hN
    clear hN
    go_wp2
    go_ret
    exact ⟨Says.no (fun e => HN.out e.2.1), below_step HW.out HB⟩
  have hB1 : (x.table == y.table) = true := beq_iff_eq.2 hN
  have HE1 := Lib.hid hN
  clear hN
  go_wp2_with fail
  refine (equal_node x.cond y.cond _ ((ctl_parts HX.out).1.below (below_step HW.out HB) (Nat.le_refl _)) ((ctl_parts HY.out).1.below (below_step HW.out HB) (Nat.le_refl _))).mono ?_
  rintro e w0 ⟨⟨b, rfl, hb⟩, hbN⟩
  replace HB := below_step HB hbN
  have HE2 := Lib.hid hb
  clear hbN hb
  cases b
  case false =>
    go_wp2
    go_ret
    exact ⟨Says.no (fun e => by have h := HE2.out.2 e.2.2.1; cases h), below_step HW.out HB⟩
  go_wp2_with fail
  refine (HT.out _ (below_step HW.out HB)).mono ?_
  rintro e w1 ⟨⟨b, rfl, hb⟩, hbN⟩
  replace HB := below_step HB hbN
  have HE3 := Lib.hid hb
  clear hbN hb
  cases b
  case false =>
    go_wp2
    go_ret
    exact ⟨Says.no (fun e => by have h := HE3.out.2 e.2.2.2.1; cases h), below_step HW.out HB⟩
  go_wp2_with fail
  refine (HL.out _ (below_step HW.out HB)).mono ?_
  rintro e w2 ⟨⟨b, rfl, hb⟩, hbN⟩
  replace HB := below_step HB hbN
  have HE4 := Lib.hid hb
  clear hbN hb
  cases b
  case false =>
    go_wp2
    go_ret
    exact ⟨Says.no (fun e => by have h := HE4.out.2 e.2.2.2.2; cases h), below_step HW.out HB⟩
  go_wp2
  go_ret
  exact ⟨Says.yes ⟨HE0.out, HE1.out, HE2.out.1 (by trivial), HE3.out.1 (by trivial), HE4.out.1 (by trivial)⟩, below_step HW.out HB⟩

set_option maxRecDepth 100000 in
set_option maxHeartbeats 8000000 in
theorem efunc_ctl : ∀ (N : Nat) (x y : L CtlD) (w : World), (presM x.l).length < N → LOk w 5 CtlD.cells x → (∀ s ∈ x.l, CtlOk w s) → LOk w 5 CtlD.cells y → (∀ s ∈ y.l, CtlOk w s) →
    Calls Tryz.prog 79 #[x.v, y.v, .func (.func 80) #[] #[]] w fun e w' => Says e (x.l.map CtlD.bare = y.l.map CtlD.bare) ∧ Below w.heap.size w w'
  | 0, _, _, _, h, _, _, _, _ => absurd h (Nat.not_lt_zero _)
  | N + 1, x, y, w, hlt0, hx, hxe, hy, hye => by
    have IH := Lib.hid (efunc_ctl N)
    have HNN := Lib.hid hlt0
    clear hlt0
    obtain ⟨l, A0, c0⟩ := x
    obtain ⟨m, A1, c1⟩ := y
    have HX := Lib.hid hx
    have HY := Lib.hid hy
    have HXE := Lib.hid hxe
    have HYE := Lib.hid hye
    have hmx := hx.1
    have hmy := hy.1
    unfold maxLen at hmx hmy
    clear hx hy hxe hye
    simp only [L.v] at *
    by_cases hl : l.length = m.length
    case neg =>
      have hne : (((l.length : Nat) : Int) == ((m.length : Nat) : Int)) = false := by rw [beq_eq_false_iff_ne]; omega
      have hne2 : ¬ ((l.length : Nat) : Int) = ((m.length : Nat) : Int) := by omega
      have HL := Lib.hid hl
      clear hl
      go_enter Tryz.func79, Tryz.ntmps79
      go_wp2
      go_ret
      exact ⟨Says.no (fun e => HL.out (by simpa using congrArg List.length e)), Below.refl _ _⟩
    rw [← hl]
    have HL := Lib.hid hl
    clear hl hmy
    go_enter Tryz.func79, Tryz.ntmps79
    go_wp2
    go_loopw [17] (fun iv wr => ∃ k : Nat, k ≤ l.length ∧ iv = .int .i64 k ∧ Hid ((l.take k).map CtlD.bare = (m.take k).map CtlD.bare) ∧ Below w.heap.size w wr) (fun i _ => l.length - (intOf i).toNat)
    case atStart => exact ⟨0, Nat.zero_le _, rfl, Lib.hid rfl, Below.refl _ _⟩
    case round =>
      obtain ⟨k, hk, rfl, HK, HB⟩ := hrel
      by_cases hlt : k < l.length
      · have hlt2 : k < m.length := by have := HL.out; omega
        obtain ⟨g, of, hA, d0, d1, d2, d3, d4⟩ := CtlD.at (HX.out.below HB (Nat.le_refl _)) hlt
        obtain ⟨g2, of2, hA2, hall2⟩ := CtlD.atA (HY.out.below HB (Nat.le_refl _)) hlt2
        simp only at hA hA2
        subst hA hA2
        try simp only at d0 d1 d2 d3 d4
        have HS : Hid (l[k].bare = m[k].bare → (l.take (k + 1)).map CtlD.bare = (m.take (k + 1)).map CtlD.bare) := Lib.hid (take_bare hlt hlt2 HK.out)
        have HN : Hid (l.map CtlD.bare = m.map CtlD.bare → l[k].bare = m[k].bare) := Lib.hid (map_get hlt hlt2)
        have HO : Hid (CtlOk w l[k] ∧ CtlOk w m[k] ∧ (∀ u, Below w.heap.size w u → Calls Tryz.prog 79 #[.slice l[k].th.A l[k].th.l.length l[k].th.c, .slice m[k].th.A m[k].th.l.length m[k].th.c, .func (.func 80) #[] #[]] u fun e w2 => Says e (l[k].th.l.map CtlD.bare = m[k].th.l.map CtlD.bare) ∧ Below u.heap.size u w2) ∧ ∀ u, Below w.heap.size w u → Calls Tryz.prog 79 #[.slice l[k].el.A l[k].el.l.length l[k].el.c, .slice m[k].el.A m[k].el.l.length m[k].el.c, .func (.func 80) #[] #[]] u fun e w2 => Says e (l[k].el.l.map CtlD.bare = m[k].el.l.map CtlD.bare) ∧ Below u.heap.size u w2) := Lib.hid (by
          have hm := List.getElem_mem hlt
          have hm2 := List.getElem_mem hlt2
          have hp := pres_th hm
          have h1 : (presM l).length < N + 1 := HNN.out
          have ho := ctl_parts (HXE.out _ hm)
          have ho2 := ctl_parts (HYE.out _ hm2)
          refine ⟨HXE.out _ hm, HYE.out _ hm2, fun u hb => ?_, fun u hb => ?_⟩
          · exact IH.out l[k].th m[k].th u (by omega) (ho.2.1.below hb (Nat.le_refl _)) (fun z hz => ctls_mem (CtlsOk.below hb ho.2.2.2.1) hz) (ho2.2.1.below hb (Nat.le_refl _)) (fun z hz => ctls_mem (CtlsOk.below hb ho2.2.2.2.1) hz)
          · exact IH.out l[k].el m[k].el u (by omega) (ho.2.2.1.below hb (Nat.le_refl _)) (fun z hz => ctls_mem (CtlsOk.below hb ho.2.2.2.2) hz) (ho2.2.2.1.below hb (Nat.le_refl _)) (fun z hz => ctls_mem (CtlsOk.below hb ho2.2.2.2.2) hz))
        generalize l[k] = a at *
        generalize m[k] = b at *
        clear hlt2
        have hall3 := hall2 _ (below1 wr (.cells #[.int .i64 a.kind, .int .i64 a.table, .slice a.cond.A a.cond.l.length a.cond.c, .slice a.th.A a.th.l.length a.th.c, .slice a.el.A a.el.l.length a.el.c] 106))
        clear hall2
        try simp only at hall3
        obtain ⟨e0, e1, e2, e3, e4⟩ := hall3
        go_wp2_with fail
        refine (equalNodes_of a b _ (CtlOk.below (below_step HB (below2 _ _ _)) HO.out.1) (CtlOk.below (below_step HB (below2 _ _ _)) HO.out.2.1) (fun u hb => HO.out.2.2.1 u (below_step (below_step HB (below2 _ _ _)) hb)) (fun u hb => HO.out.2.2.2 u (below_step (below_step HB (below2 _ _ _)) hb))).mono ?_
        rintro e w1 ⟨⟨r, rfl, hr⟩, hbN⟩
        have HR := Lib.hid hr
        replace HB := below_step HB (below_step (below2 _ _ _) hbN)
        clear hr hbN
        cases r with
        | false =>
          have HN2 : Hid (¬ l.map CtlD.bare = m.map CtlD.bare) := Lib.hid (fun e => by have h := HR.out.2 (HN.out e); cases h)
          clear HN HS
          go_wp2
          go_ret
          exact ⟨Says.no HN2.out, HB⟩
        | true =>
          have HS2 := Lib.hid (HS.out (HR.out.1 rfl))
          clear HN HS
          go_wp2
          go_roundw
          case rel => exact ⟨k + 1, by omega, by go_num, HS2, HB⟩
          case measure => simp [intOf]; omega
      · have hk' : k = l.length := by omega
        subst hk'
        have HE : Hid (l.map CtlD.bare = m.map CtlD.bare) := Lib.hid (by have := HK.out; rw [List.take_length, HL.out, List.take_length] at this; exact this)
        go_wp2
        go_ret
        exact ⟨Says.yes HE.out, HB⟩
set_option maxRecDepth 100000 in
set_option maxHeartbeats 8000000 in
theorem equal_any (x y : ProgD) (w : World) (hx : ProgOk w x) (hy : ProgOk w y) :
    Calls Tryz.prog 21 #[.agg (progCells x), .agg (progCells y)] w fun e w' => Says e (x.bare = y.bare) ∧ Below w.heap.size w w' := by
  obtain ⟨W, hW, hw, HB, hp⟩ := box2 w (progCells x) 31 (progCells y) 31
  have HW := Lib.hid hw
  have HX := Lib.hid hx
  have HY := Lib.hid hy
  clear hx hy hw
  go_enter Tryz.func21, Tryz.ntmps21
  go_upto_region 1 with fail
  rw [← hW]
  clear hW
  by_cases hN : x.name = y.name
  case neg =>
    have hB0 : (x.name.toList == y.name.toList) = false := toList_false hN
    have HN := Lib.hid hN
    clear hN
    go_wp2
    go_ret
    exact ⟨Says.no (fun e => HN.out (congrArg ProgP.name e)), below_step HW.out HB⟩
  have hB0 : (x.name.toList == y.name.toList) = true := toList_true hN
  have HE0 := Lib.hid hN
  clear hN
  go_wp2_with fail
  refine (efunc_header x.headers y.headers _ (HX.out.headers.below (below_step HW.out HB) (Nat.le_refl _)) (fun s hs => (HX.out.hdr s hs).below (below_step HW.out HB)) (HY.out.headers.below (below_step HW.out HB) (Nat.le_refl _)) (fun s hs => (HY.out.hdr s hs).below (below_step HW.out HB))).mono ?_
  rintro e w1 ⟨⟨b, rfl, hb⟩, hbN⟩
  replace HB := below_step HB hbN
  have HE1 := Lib.hid hb
  clear hbN hb
  cases b
  case false =>
    go_wp2
    go_ret
    exact ⟨Says.no (fun e => by have h := HE1.out.2 (congrArg ProgP.headers e); cases h), below_step HW.out HB⟩
  go_wp2_with fail
  refine (equal_field x.metadata y.metadata _ (HX.out.metadata.below (below_step HW.out HB) (Nat.le_refl _)) (HY.out.metadata.below (below_step HW.out HB) (Nat.le_refl _))).mono ?_
  rintro e w2 ⟨⟨b, rfl, hb⟩, hbN⟩
  replace HB := below_step HB hbN
  have HE2 := Lib.hid hb
  clear hbN hb
  cases b
  case false =>
    go_wp2
    go_ret
    exact ⟨Says.no (fun e => by have h := HE2.out.2 (congrArg ProgP.metadata e); cases h), below_step HW.out HB⟩
  go_wp2_with fail
  refine (equal_reg x.registers y.registers _ (HX.out.registers.below (below_step HW.out HB) (Nat.le_refl _)) (HY.out.registers.below (below_step HW.out HB) (Nat.le_refl _))).mono ?_
  rintro e w3 ⟨⟨b, rfl, hb⟩, hbN⟩
  replace HB := below_step HB hbN
  have HE3 := Lib.hid hb
  clear hbN hb
  cases b
  case false =>
    go_wp2
    go_ret
    exact ⟨Says.no (fun e => by have h := HE3.out.2 (congrArg ProgP.registers e); cases h), below_step HW.out HB⟩
  go_wp2_with fail
  refine (efunc_act x.actions y.actions _ (HX.out.actions.below (below_step HW.out HB) (Nat.le_refl _)) (fun s hs => (HX.out.act s hs).below (below_step HW.out HB)) (HY.out.actions.below (below_step HW.out HB) (Nat.le_refl _)) (fun s hs => (HY.out.act s hs).below (below_step HW.out HB))).mono ?_
  rintro e w4 ⟨⟨b, rfl, hb⟩, hbN⟩
  replace HB := below_step HB hbN
  have HE4 := Lib.hid hb
  clear hbN hb
  cases b
  case false =>
    go_wp2
    go_ret
    exact ⟨Says.no (fun e => by have h := HE4.out.2 (congrArg ProgP.actions e); cases h), below_step HW.out HB⟩
  go_wp2_with fail
  refine (efunc_tab x.tables y.tables _ (HX.out.tables.below (below_step HW.out HB) (Nat.le_refl _)) (fun s hs => (HX.out.tab s hs).below (below_step HW.out HB)) (HY.out.tables.below (below_step HW.out HB) (Nat.le_refl _)) (fun s hs => (HY.out.tab s hs).below (below_step HW.out HB))).mono ?_
  rintro e w5 ⟨⟨b, rfl, hb⟩, hbN⟩
  replace HB := below_step HB hbN
  have HE5 := Lib.hid hb
  clear hbN hb
  cases b
  case false =>
    go_wp2
    go_ret
    exact ⟨Says.no (fun e => by have h := HE5.out.2 (congrArg ProgP.tables e); cases h), below_step HW.out HB⟩
  go_wp2_with fail
  refine (efunc_state x.states y.states _ (HX.out.states.below (below_step HW.out HB) (Nat.le_refl _)) (fun s hs => (HX.out.state s hs).below (below_step HW.out HB)) (HY.out.states.below (below_step HW.out HB) (Nat.le_refl _)) (fun s hs => (HY.out.state s hs).below (below_step HW.out HB))).mono ?_
  rintro e w6 ⟨⟨b, rfl, hb⟩, hbN⟩
  replace HB := below_step HB hbN
  have HE6 := Lib.hid hb
  clear hbN hb
  cases b
  case false =>
    go_wp2
    go_ret
    exact ⟨Says.no (fun e => by have h := HE6.out.2 (congrArg ProgP.states e); cases h), below_step HW.out HB⟩
  go_wp2_with fail
  refine (efunc_ctl _ x.control y.control _ (Nat.lt_succ_self _) (HX.out.control.below (below_step HW.out HB) (Nat.le_refl _)) (fun s hs => ctls_mem (CtlsOk.below (below_step HW.out HB) HX.out.ctl) hs) (HY.out.control.below (below_step HW.out HB) (Nat.le_refl _)) (fun s hs => ctls_mem (CtlsOk.below (below_step HW.out HB) HY.out.ctl) hs)).mono ?_
  rintro e w7 ⟨⟨b, rfl, hb⟩, hbN⟩
  replace HB := below_step HB hbN
  have HE7 := Lib.hid hb
  clear hbN hb
  cases b
  case false =>
    go_wp2
    go_ret
    exact ⟨Says.no (fun e => by have h := HE7.out.2 (congrArg ProgP.control e); cases h), below_step HW.out HB⟩
  go_wp2_with fail
  refine (equal_int x.deparser y.deparser _ (HX.out.deparser.below (below_step HW.out HB) (Nat.le_refl _)) (HY.out.deparser.below (below_step HW.out HB) (Nat.le_refl _))).mono ?_
  rintro e w8 ⟨⟨b, rfl, hb⟩, hbN⟩
  replace HB := below_step HB hbN
  have HE8 := Lib.hid hb
  clear hbN hb
  cases b
  case false =>
    go_wp2
    go_ret
    exact ⟨Says.no (fun e => by have h := HE8.out.2 (congrArg ProgP.deparser e); cases h), below_step HW.out HB⟩
  go_wp2
  go_ret
  exact ⟨Says.yes (by show ProgP.mk _ _ _ _ _ _ _ _ _ = ProgP.mk _ _ _ _ _ _ _ _ _; rw [HE0.out, HE1.out.1 (by trivial), HE2.out.1 (by trivial), HE3.out.1 (by trivial), HE4.out.1 (by trivial), HE5.out.1 (by trivial), HE6.out.1 (by trivial), HE7.out.1 (by trivial), HE8.out.1 (by trivial)]), below_step HW.out HB⟩
end Go.Proofs.YtgfbikknkcaneaaGreat
