/- Walks of exprtext's writer: the nodes with one, two and three parts. No condition but that program and texts lie in memory, the names short. exprtext.Format on any program, parameters and nodes. No condition but that they lie in memory, the names short. The walk of the lexer's Tokenize. No condition. Walks of exprtext's ParseTokens and Parse. No condition but that program and tokens lie in memory, the names and the text short. The walk of exprtext's Parse. No condition but that the program lies in memory, the names and the text short. Walks of the law's helpers of chapter 14: own, scope, short, small; of the reference's Equal. No condition but that the case lies in memory. The cases of chapter 14's laws, read from memory. Walks of the law's helpers of chapter 14: Equal of equal nodes, tokens, small. No condition but that the case lies in memory. The walk of chapter 14's small. No condition but that the case lies in memory. The walk of chapter 14's works. No condition but that the table of powers of ten is laid. The walk of the reference's IsIdentifier. No condition but the length of the text. Walks of exprtext's reference: names of headers and fields, numbers, the end of a subexpression. No condition but that program and nodes lie in memory, the names short. Walks of the reference's numbers: widths, powers, masks, fits. No condition. Walks of the reference on fields and operators: Arity, wide, Declared, Width. No condition but that the program lies in memory. Walks of exprtext's reference: the end of a subexpression, primary, rightHeader. No condition but that program and nodes lie in memory, the names short. Walks of exprtext's reference: primary, rightHeader. No condition but that the program lies in memory, the names short. Walks of exprtext's reference: operand and text, by induction on the text of a checked expression. No condition but that program and texts lie in memory, the names short. Walks of exprtext's reference: text of the nodes with parts. No condition but that program and texts lie in memory, the names short. Walks of exprtext's reference: resolves. No condition but that the program lies in memory, the names short. Walks of exprtext's reference: resolves of a field, all its tests made. No condition but that the program lies in memory, the names short. Walks of exprtext's reference: resolves of a field, the tests that fail. No condition but that the program lies in memory, the names short. exprtext's reference: resolves of every checked node. No condition but that the program lies in memory, the names short. The walk of the reference's leaf. No condition but that the program lies in memory. The walk of the reference's operator. No condition but the bounds of the widths. -/
import Derived.Laws.StructEq
import Derived.BigQuiet
import Derived.Deep.RegionHeld3
import Derived.Test.YtpomjcndeanjgaaGreatDoorHFb
namespace Go.Proofs.YtpomjcndeanjgaaGreatDoor
open Go.RowKit
set_option maxRecDepth 100000 in
set_option maxHeartbeats 8000000 in
theorem expr_un {W : World} {x : L NodeD} {p : ProgD} {ps : L FieldD} {ga i j : Nat} {y0 : NodeD} {a : ByteArray} (E : WEnv W x p ps) (hl : W.heap.size ≤ ga) (h : x.l[i]? = some y0) (ha : arityM y0.op = 1) (hk : NodeOk p ps.l y0)
    (hj : i + 1 ≤ j) (hs : a.size ≤ 1000000) (H1 : OpdC W x p ps ga (i + 1) j a) : ExprC W x p ps ga i j (unB y0 a) := by
  intro e0 w hb hK
  have hi : i < x.l.length := (List.getElem?_eq_some_iff.1 h).1
  obtain ⟨g, of, hA, hq⟩ := NodeD.atA E.nodes hi
  have hye : x.l[i] = y0 := by rw [List.getElem?_eq_getElem hi] at h; injection h
  rw [hye] at hq
  have hsk := flag_skip (p := p) (ps := ps.l) (e := e0) h (show arityM y0.op ≠ 0 by omega) hj
  obtain ⟨op, n, wd⟩ := y0
  simp only at hq ha hk
  obtain ⟨d0, d1, d2⟩ := hq w hb
  have k0 : w.cell? ⟨ga, 0, none⟩ = some (.slice (some ⟨g, of, none⟩) x.l.length x.c) := by rw [← hA]; exact hK.cell 0
  have hii : (i : Int) < (x.l.length : Int) := by omega
  obtain ⟨V, hV⟩ : ∃ V, V = w.alloc (.cells #[.int .i64 op, .int .i64 n, .int .i64 wd] 65) := ⟨_, rfl⟩
  have HV : Hid (Blk V w.heap.size 65 #[.int .i64 op, .int .i64 n, .int .i64 wd]) := Lib.hid (by rw [hV]; exact Blk.new _ _ _)
  have HwV : Hid (Below w.heap.size w V) := Lib.hid (by rw [hV]; exact below1 _ _)
  have HBV : Hid (Below W.heap.size W V) := Lib.hid (below_step hb HwV.out)
  have HKV : Hid (Blk V ga 69 (wrCells x p ps e0)) := Lib.hid (hK.below HwV.out hK.lt)
  have hne : w.heap.size ≠ ga := by have := hK.lt; omega
  have HVg : Hid (∀ u, V.grownBy u (some ga) → Blk u w.heap.size 65 #[.int .i64 op, .int .i64 n, .int .i64 wd]) := Lib.hid (fun u hg => gr_blk HV.out hg hne)
  have HL := Lib.hid hl
  have HT := Lib.hid (fun u (h : V.grownBy u (some ga)) => E.tab.base (gr_base HBV.out h HL.out))
  have b0 : V.cell? ⟨w.heap.size, 0, none⟩ = some (.int .i64 op) := HV.out.cell 0
  have hmi := E.nodes.1
  unfold maxLen at hmi
  have HC := Lib.hid (show Calls Tryz.prog 37 #[.pointer (some ⟨ga, 0, none⟩), .int .i64 ((i : Int) + 1)] V fun r w' =>
    r = .returned (.tuple #[.string a, .int .i64 j]) ∧ Blk w' ga 69 (wrCells x p ps (flagM p ps.l x.l e0 (i + 1) j)) ∧ V.grownBy w' (some ga) from H1 e0 V HBV.out HKV.out)
  generalize flagM p ps.l x.l e0 (i + 1) j = ef at *
  rw [← hsk]
  have q1 := dec_size n
  have q2 := dec_size wd
  have z01 : (⟨#[126]⟩ : ByteArray).size = 1 := rfl
  have z02 : (⟨#[32, 60, 60, 32]⟩ : ByteArray).size = 4 := rfl
  have z03 : (⟨#[32, 62, 62, 32]⟩ : ByteArray).size = 4 := rfl
  have z04 : (⟨#[91]⟩ : ByteArray).size = 1 := rfl
  have z05 : (⟨#[43]⟩ : ByteArray).size = 1 := rfl
  have z06 : (⟨#[93]⟩ : ByteArray).size = 1 := rfl
  have z1 : ¬ (⟨#[126]⟩ : ByteArray).size + a.size > 9223372036854775807 := by omega
  have z2 : ¬ 1 + a.size > 9223372036854775807 := by omega
  have z3 : ¬ a.size + 4 > 9223372036854775807 := by omega
  have z4 : ¬ a.size + 4 + (decB n).size > 9223372036854775807 := by omega
  have z5 : ¬ a.size + 1 > 9223372036854775807 := by omega
  have z6 : ¬ a.size + 1 + (decB n).size > 9223372036854775807 := by omega
  have z7 : ¬ a.size + 1 + (decB n).size + 1 > 9223372036854775807 := by omega
  have z8 : ¬ a.size + 1 + (decB n).size + 1 + (decB wd).size > 9223372036854775807 := by omega
  have z9 : ¬ a.size + 1 + (decB n).size + 1 + (decB wd).size + 1 > 9223372036854775807 := by omega
  rcases arity1 ha with rfl | rfl | rfl | rfl
  · have HR : Hid (unB ⟨5, n, wd⟩ a = ⟨#[126]⟩ ++ a) := Lib.hid rfl
    rw [HR.out]
    clear hq hk hA hye h ha E hl hb hsk HR H1
    go_enter Tryz.func20, Tryz.ntmps20
    go_upto_region 2 with fail
    rw [← hV]
    clear hV k0 d0 d1 d2 hK
    go_wp2_with fail
    refine HC.out.mono ?_
    rintro r w1 ⟨rfl, hk1, hg1⟩
    have HK1 := Lib.hid hk1
    have HG1 := Lib.hid hg1
    have hB1 := HVg.out w1 hg1
    have c0 : w1.cell? ⟨w.heap.size, 0, none⟩ = some (.int .i64 5) := hB1.cell 0
    have c1 : w1.cell? ⟨w.heap.size, 1, none⟩ = some (.int .i64 n) := hB1.cell 1
    have c2 : w1.cell? ⟨w.heap.size, 2, none⟩ = some (.int .i64 wd) := hB1.cell 2
    clear hk1 hg1 HC hB1 b0
    go_wp2
    go_ret2
    exact ⟨ret_si rfl rfl, HK1.out, gr_trans (gr_below HwV.out _) HG1.out⟩
  · have HR : Hid (unB ⟨6, n, wd⟩ a = a ++ ⟨#[32, 60, 60, 32]⟩ ++ decB n) := Lib.hid rfl
    rw [HR.out]
    obtain ⟨n0, n1⟩ : 0 ≤ n ∧ n ≤ 31 := hk.c6 (.inl rfl)
    clear hq hk hA hye h ha E hl hb hsk HR H1
    go_enter Tryz.func20, Tryz.ntmps20
    go_upto_region 2 with fail
    rw [← hV]
    clear hV k0 d0 d1 d2 hK
    go_wp2_with fail
    refine HC.out.mono ?_
    rintro r w1 ⟨rfl, hk1, hg1⟩
    have HK1 := Lib.hid hk1
    have HG1 := Lib.hid hg1
    have hB1 := HVg.out w1 hg1
    have c0 : w1.cell? ⟨w.heap.size, 0, none⟩ = some (.int .i64 6) := hB1.cell 0
    have c1 : w1.cell? ⟨w.heap.size, 1, none⟩ = some (.int .i64 n) := hB1.cell 1
    have c2 : w1.cell? ⟨w.heap.size, 2, none⟩ = some (.int .i64 wd) := hB1.cell 2
    clear hk1 hg1 HC hB1 b0
    go_wp2_with fail
    refine (decInt_any n n0 (by omega) w1 (HT.out w1 HG1.out)).mono ?_
    rintro r w2 ⟨rfl, hb2⟩
    have HB2 := Lib.hid hb2
    clear hb2 c0 c1 c2
    go_wp2
    go_ret2
    exact ⟨ret_si rfl rfl, HK1.out.below HB2.out HK1.out.lt, gr_trans (gr_below HwV.out _) (gr_trans HG1.out (gr_below HB2.out _))⟩
  · have HR : Hid (unB ⟨7, n, wd⟩ a = a ++ ⟨#[32, 62, 62, 32]⟩ ++ decB n) := Lib.hid rfl
    rw [HR.out]
    obtain ⟨n0, n1⟩ : 0 ≤ n ∧ n ≤ 31 := hk.c6 (.inr rfl)
    clear hq hk hA hye h ha E hl hb hsk HR H1
    go_enter Tryz.func20, Tryz.ntmps20
    go_upto_region 2 with fail
    rw [← hV]
    clear hV k0 d0 d1 d2 hK
    go_wp2_with fail
    refine HC.out.mono ?_
    rintro r w1 ⟨rfl, hk1, hg1⟩
    have HK1 := Lib.hid hk1
    have HG1 := Lib.hid hg1
    have hB1 := HVg.out w1 hg1
    have c0 : w1.cell? ⟨w.heap.size, 0, none⟩ = some (.int .i64 7) := hB1.cell 0
    have c1 : w1.cell? ⟨w.heap.size, 1, none⟩ = some (.int .i64 n) := hB1.cell 1
    have c2 : w1.cell? ⟨w.heap.size, 2, none⟩ = some (.int .i64 wd) := hB1.cell 2
    clear hk1 hg1 HC hB1 b0
    go_wp2_with fail
    refine (decInt_any n n0 (by omega) w1 (HT.out w1 HG1.out)).mono ?_
    rintro r w2 ⟨rfl, hb2⟩
    have HB2 := Lib.hid hb2
    clear hb2 c0 c1 c2
    go_wp2
    go_ret2
    exact ⟨ret_si rfl rfl, HK1.out.below HB2.out HK1.out.lt, gr_trans (gr_below HwV.out _) (gr_trans HG1.out (gr_below HB2.out _))⟩
  · have HR : Hid (unB ⟨8, n, wd⟩ a = a ++ ⟨#[91]⟩ ++ decB n ++ ⟨#[43]⟩ ++ decB wd ++ ⟨#[93]⟩) := Lib.hid rfl
    rw [HR.out]
    obtain ⟨⟨n0, n1⟩, w0, w1⟩ : (0 ≤ n ∧ n ≤ 32) ∧ 1 ≤ wd ∧ wd ≤ 32 := hk.c8 rfl
    clear hq hk hA hye h ha E hl hb hsk HR H1
    go_enter Tryz.func20, Tryz.ntmps20
    go_upto_region 2 with fail
    rw [← hV]
    clear hV k0 d0 d1 d2 hK
    go_wp2_with fail
    refine HC.out.mono ?_
    rintro r w1 ⟨rfl, hk1, hg1⟩
    have HK1 := Lib.hid hk1
    have HG1 := Lib.hid hg1
    have hB1 := HVg.out w1 hg1
    have c0 : w1.cell? ⟨w.heap.size, 0, none⟩ = some (.int .i64 8) := hB1.cell 0
    have c1 : w1.cell? ⟨w.heap.size, 1, none⟩ = some (.int .i64 n) := hB1.cell 1
    have c2 : w1.cell? ⟨w.heap.size, 2, none⟩ = some (.int .i64 wd) := hB1.cell 2
    clear hk1 hg1 HC hB1 b0
    go_upto_region 21 with fail
    clear c0 c1 c2
    have hbs := fun u (h : Below w1.heap.size w1 u) => ((HVg.out w1 HG1.out).below h (HVg.out w1 HG1.out).lt)
    have hb1 := fun u (h : Below w1.heap.size w1 u) => (show u.cell? ⟨w.heap.size, 1, none⟩ = some (.int .i64 n) from (hbs u h).cell 1)
    have hb2 := fun u (h : Below w1.heap.size w1 u) => (show u.cell? ⟨w.heap.size, 2, none⟩ = some (.int .i64 wd) from (hbs u h).cell 2)
    clear hbs
    have H0 := Lib.hid (Below.refl w1.heap.size w1)
    have HTV := Lib.hid (fun u (h : Below w1.heap.size w1 u) => HT.out u (gr_trans HG1.out (gr_below h _)))
    go_region_held3 (fun w' => Below w1.heap.size w1 w') (first | exact H0.out | exact below_drew H0.out | (exact below_step (by assumption) (by assumption)) | assumption)
      (first | (go_at_call 32; refine (decInt_any _ (by omega) (by omega) _ (HTV.out _ (by assumption))).mono ?_; rintro r w5 ⟨rfl, hb5⟩))
    all_goals
      have HB5 : Hid (Below w1.heap.size w1 _) := Lib.hid (by assumption)
      go_wp2
      go_ret2
      exact ⟨ret_si rfl rfl, HK1.out.below HB5.out HK1.out.lt, gr_trans (gr_below HwV.out _) (gr_trans HG1.out (gr_below HB5.out _))⟩
set_option maxRecDepth 100000 in
set_option maxHeartbeats 8000000 in
theorem expr_bi {W : World} {x : L NodeD} {p : ProgD} {ps : L FieldD} {ga i j1 j : Nat} {y0 : NodeD} {a b : ByteArray} (E : WEnv W x p ps) (hl : W.heap.size ≤ ga) (h : x.l[i]? = some y0) (ha : arityM y0.op = 2)
    (hj : i + 1 ≤ j1) (hj2 : j1 ≤ j) (hs : a.size ≤ 1000000) (hs2 : b.size ≤ 1000000) (H1 : OpdC W x p ps ga (i + 1) j1 a) (H2 : OpdC W x p ps ga j1 j b) : ExprC W x p ps ga i j (biB y0 a b) := by
  intro e0 w hb hK
  have hi : i < x.l.length := (List.getElem?_eq_some_iff.1 h).1
  obtain ⟨g, of, hA, hq⟩ := NodeD.atA E.nodes hi
  have hye : x.l[i] = y0 := by rw [List.getElem?_eq_getElem hi] at h; injection h
  rw [hye] at hq
  have hjn := flag_join (p := p) (ps := ps.l) (l := x.l) (e := e0) hj hj2
  have hsk := flag_skip (p := p) (ps := ps.l) (e := e0) h (show arityM y0.op ≠ 0 by omega) (show i + 1 ≤ j by omega)
  obtain ⟨op, n, wd⟩ := y0
  simp only at hq ha
  obtain ⟨d0, d1, d2⟩ := hq w hb
  have k0 : w.cell? ⟨ga, 0, none⟩ = some (.slice (some ⟨g, of, none⟩) x.l.length x.c) := by rw [← hA]; exact hK.cell 0
  have hii : (i : Int) < (x.l.length : Int) := by omega
  obtain ⟨V, hV⟩ : ∃ V, V = w.alloc (.cells #[.int .i64 op, .int .i64 n, .int .i64 wd] 65) := ⟨_, rfl⟩
  have HV : Hid (Blk V w.heap.size 65 #[.int .i64 op, .int .i64 n, .int .i64 wd]) := Lib.hid (by rw [hV]; exact Blk.new _ _ _)
  have HwV : Hid (Below w.heap.size w V) := Lib.hid (by rw [hV]; exact below1 _ _)
  have HBV : Hid (Below W.heap.size W V) := Lib.hid (below_step hb HwV.out)
  have HKV : Hid (Blk V ga 69 (wrCells x p ps e0)) := Lib.hid (hK.below HwV.out hK.lt)
  have hne : w.heap.size ≠ ga := by have := hK.lt; omega
  have HVg : Hid (∀ u, V.grownBy u (some ga) → Blk u w.heap.size 65 #[.int .i64 op, .int .i64 n, .int .i64 wd]) := Lib.hid (fun u hg => gr_blk HV.out hg hne)
  have HL := Lib.hid hl
  have HT := Lib.hid (fun u (h : V.grownBy u (some ga)) => E.tab.base (gr_base HBV.out h HL.out))
  have b0 : V.cell? ⟨w.heap.size, 0, none⟩ = some (.int .i64 op) := HV.out.cell 0
  have hmi := E.nodes.1
  unfold maxLen at hmi
  have HC := Lib.hid (show Calls Tryz.prog 37 #[.pointer (some ⟨ga, 0, none⟩), .int .i64 ((i : Int) + 1)] V fun r w' =>
    r = .returned (.tuple #[.string a, .int .i64 j1]) ∧ Blk w' ga 69 (wrCells x p ps (flagM p ps.l x.l e0 (i + 1) j1)) ∧ V.grownBy w' (some ga) from H1 e0 V HBV.out HKV.out)
  generalize flagM p ps.l x.l e0 (i + 1) j1 = ef at *
  rw [← hsk, ← hjn]
  have hop := arity2 ha
  have t1 : (op == 1) = false := beq_eq_false_iff_ne.2 (by omega)
  have t2 : (op == 2) = false := beq_eq_false_iff_ne.2 (by omega)
  have t3 : (op == 3) = false := beq_eq_false_iff_ne.2 (by omega)
  have t4 : (op == 4) = false := beq_eq_false_iff_ne.2 (by omega)
  have t5 : (op == 5) = false := beq_eq_false_iff_ne.2 (by omega)
  have t6 : (op == 6) = false := beq_eq_false_iff_ne.2 (by omega)
  have t7 : (op == 7) = false := beq_eq_false_iff_ne.2 (by omega)
  have t8 : (op == 8) = false := beq_eq_false_iff_ne.2 (by omega)
  have t17 : (op != 17) = true := bne_iff_ne.2 (by omega)
  have q1 := sym_size op
  have z0 : (⟨#[32]⟩ : ByteArray).size = 1 := rfl
  have HR : Hid (biB ⟨op, n, wd⟩ a b = a ++ ⟨#[32]⟩ ++ symB op ++ ⟨#[32]⟩ ++ b) := Lib.hid rfl
  rw [HR.out]
  have z1 : ¬ a.size + 1 > 9223372036854775807 := by omega
  have z2 : ¬ a.size + 1 + (symB op).size > 9223372036854775807 := by omega
  have z3 : ¬ a.size + 1 + (symB op).size + 1 > 9223372036854775807 := by omega
  have z4 : ¬ a.size + 1 + (symB op).size + 1 + b.size > 9223372036854775807 := by omega
  clear hq hA hye h ha E hl hb hsk hjn HR H1 hop
  go_enter Tryz.func20, Tryz.ntmps20
  go_upto_region 2 with fail
  rw [← hV]
  clear hV k0 d0 d1 d2 hK
  go_wp2_with fail
  refine HC.out.mono ?_
  rintro r w1 ⟨rfl, hk1, hg1⟩
  have HC1 := Lib.hid (H2 ef w1 (gr_base HBV.out hg1 HL.out) hk1)
  have HG1 := Lib.hid hg1
  have c0 : w1.cell? ⟨w.heap.size, 0, none⟩ = some (.int .i64 op) := (HVg.out w1 hg1).cell 0
  clear hk1 hg1 HC b0
  go_wp2_with fail
  refine HC1.out.mono ?_
  rintro r w2 ⟨rfl, hk2, hg2⟩
  have HG2 := Lib.hid (gr_trans HG1.out hg2)
  have e0' : w2.cell? ⟨w.heap.size, 0, none⟩ = some (.int .i64 op) := (HVg.out w2 HG2.out).cell 0
  have HK2 := Lib.hid hk2
  clear hk2 hg2 HC1 c0
  go_wp2_with fail
  refine (esymbol_any op w2).mono ?_
  rintro r w3 ⟨rfl, rfl⟩
  go_wp2
  go_ret2
  exact ⟨ret_si rfl rfl, HK2.out, gr_trans (gr_below HwV.out _) HG2.out⟩
set_option maxRecDepth 100000 in
set_option maxHeartbeats 8000000 in
theorem expr_tri {W : World} {x : L NodeD} {p : ProgD} {ps : L FieldD} {ga i j1 j2 j : Nat} {y0 : NodeD} {a b c : ByteArray} (E : WEnv W x p ps) (hl : W.heap.size ≤ ga) (h : x.l[i]? = some y0) (ha : arityM y0.op = 3)
    (hj : i + 1 ≤ j1) (hj2 : j1 ≤ j2) (hj3 : j2 ≤ j) (hs : a.size ≤ 1000000) (hs2 : b.size ≤ 1000000) (hs3 : c.size ≤ 1000000) (H1 : OpdC W x p ps ga (i + 1) j1 a) (H2 : OpdC W x p ps ga j1 j2 b) (H3 : OpdC W x p ps ga j2 j c) :
    ExprC W x p ps ga i j (triB a b c) := by
  intro e0 w hb hK
  have hi : i < x.l.length := (List.getElem?_eq_some_iff.1 h).1
  obtain ⟨g, of, hA, hq⟩ := NodeD.atA E.nodes hi
  have hye : x.l[i] = y0 := by rw [List.getElem?_eq_getElem hi] at h; injection h
  rw [hye] at hq
  have hjn := flag_join (p := p) (ps := ps.l) (l := x.l) (e := e0) hj hj2
  have hjn2 := flag_join (p := p) (ps := ps.l) (l := x.l) (e := e0) (show i + 1 ≤ j2 by omega) hj3
  have hsk := flag_skip (p := p) (ps := ps.l) (e := e0) h (show arityM y0.op ≠ 0 by omega) (show i + 1 ≤ j by omega)
  obtain ⟨op, n, wd⟩ := y0
  simp only at hq ha
  obtain ⟨d0, d1, d2⟩ := hq w hb
  have k0 : w.cell? ⟨ga, 0, none⟩ = some (.slice (some ⟨g, of, none⟩) x.l.length x.c) := by rw [← hA]; exact hK.cell 0
  have hii : (i : Int) < (x.l.length : Int) := by omega
  obtain ⟨V, hV⟩ : ∃ V, V = w.alloc (.cells #[.int .i64 op, .int .i64 n, .int .i64 wd] 65) := ⟨_, rfl⟩
  have HV : Hid (Blk V w.heap.size 65 #[.int .i64 op, .int .i64 n, .int .i64 wd]) := Lib.hid (by rw [hV]; exact Blk.new _ _ _)
  have HwV : Hid (Below w.heap.size w V) := Lib.hid (by rw [hV]; exact below1 _ _)
  have HBV : Hid (Below W.heap.size W V) := Lib.hid (below_step hb HwV.out)
  have HKV : Hid (Blk V ga 69 (wrCells x p ps e0)) := Lib.hid (hK.below HwV.out hK.lt)
  have hne : w.heap.size ≠ ga := by have := hK.lt; omega
  have HVg : Hid (∀ u, V.grownBy u (some ga) → Blk u w.heap.size 65 #[.int .i64 op, .int .i64 n, .int .i64 wd]) := Lib.hid (fun u hg => gr_blk HV.out hg hne)
  have HL := Lib.hid hl
  have HT := Lib.hid (fun u (h : V.grownBy u (some ga)) => E.tab.base (gr_base HBV.out h HL.out))
  have b0 : V.cell? ⟨w.heap.size, 0, none⟩ = some (.int .i64 op) := HV.out.cell 0
  have hmi := E.nodes.1
  unfold maxLen at hmi
  have HC := Lib.hid (show Calls Tryz.prog 37 #[.pointer (some ⟨ga, 0, none⟩), .int .i64 ((i : Int) + 1)] V fun r w' =>
    r = .returned (.tuple #[.string a, .int .i64 j1]) ∧ Blk w' ga 69 (wrCells x p ps (flagM p ps.l x.l e0 (i + 1) j1)) ∧ V.grownBy w' (some ga) from H1 e0 V HBV.out HKV.out)
  rw [← hsk, ← hjn2, ← hjn]
  generalize flagM p ps.l x.l e0 (i + 1) j1 = ef at *
  obtain rfl := arity3 ha
  have HR : Hid (triB a b c = a ++ ⟨#[32, 63, 32]⟩ ++ b ++ ⟨#[32, 58, 32]⟩ ++ c) := Lib.hid rfl
  rw [HR.out]
  have z0 : (⟨#[32, 63, 32]⟩ : ByteArray).size = 3 := rfl
  have z00 : (⟨#[32, 58, 32]⟩ : ByteArray).size = 3 := rfl
  have z1 : ¬ a.size + 3 > 9223372036854775807 := by omega
  have z2 : ¬ a.size + 3 + b.size > 9223372036854775807 := by omega
  have z3 : ¬ a.size + 3 + b.size + 3 > 9223372036854775807 := by omega
  have z4 : ¬ a.size + 3 + b.size + 3 + c.size > 9223372036854775807 := by omega
  clear hq hA hye h ha E hl hb hsk hjn hjn2 HR H1
  go_enter Tryz.func20, Tryz.ntmps20
  go_upto_region 2 with fail
  rw [← hV]
  clear hV k0 d0 d1 d2 hK
  go_wp2_with fail
  refine HC.out.mono ?_
  rintro r w1 ⟨rfl, hk1, hg1⟩
  have HC1 := Lib.hid (H2 _ w1 (gr_base HBV.out hg1 HL.out) hk1)
  have HG1 := Lib.hid hg1
  have c0 : w1.cell? ⟨w.heap.size, 0, none⟩ = some (.int .i64 17) := (HVg.out w1 hg1).cell 0
  clear hk1 hg1 HC b0
  go_wp2_with fail
  refine HC1.out.mono ?_
  rintro r w2 ⟨rfl, hk2, hg2⟩
  have HG2 := Lib.hid (gr_trans HG1.out hg2)
  have e0' : w2.cell? ⟨w.heap.size, 0, none⟩ = some (.int .i64 17) := (HVg.out w2 HG2.out).cell 0
  have HC2 := Lib.hid (H3 _ w2 (gr_base HBV.out HG2.out HL.out) hk2)
  clear hk2 hg2 HC1 c0
  go_wp2_with fail
  refine HC2.out.mono ?_
  rintro r w3 ⟨rfl, hk3, hg3⟩
  have HK3 := Lib.hid hk3
  have HG3 := Lib.hid (gr_trans HG2.out hg3)
  clear hk3 hg3 HC2 e0'
  go_wp2
  go_ret2
  exact ⟨ret_si rfl rfl, HK3.out, gr_trans (gr_below HwV.out _) HG3.out⟩
theorem tx_expr {W : World} {x : L NodeD} {p : ProgD} {ps : L FieldD} {ga : Nat} (E : WEnv W x p ps) (hl : W.heap.size ≤ ga) (hlen : x.l.length ≤ 24) {i j : Nat} {s : ByteArray} (h : Tx p ps.l x.l i j s) : ExprC W x p ps ga i j s := by
  have hb : ∀ {i j : Nat} {s : ByteArray}, Tx p ps.l x.l i j s → s.size ≤ 72000 := fun h => by have := h.lt; have := h.size E.nm; omega
  induction h with
  | leaf h ha hk => exact expr_leaf E hl h ha hk
  | @un i j x0 y s h ha hk hy t1 ih => exact expr_un E hl h ha hk (by have := t1.lt; omega) (by have := hb t1; have := opd_size y s; omega) (opd_of_expr E hl hy (by have := hb t1; omega) ih)
  | @bi i m j x0 y z s t h ha hk hy t1 hz t2 ih1 ih2 =>
    exact expr_bi E hl h ha (by have := t1.lt; omega) (by have := t2.lt; omega) (by have := hb t1; have := opd_size y s; omega) (by have := hb t2; have := opd_size z t; omega)
      (opd_of_expr E hl hy (by have := hb t1; omega) ih1) (opd_of_expr E hl hz (by have := hb t2; omega) ih2)
  | @tri i m n j x0 y z u s t r h ha hk hy t1 hz t2 hu t3 ih1 ih2 ih3 =>
    exact expr_tri E hl h ha (by have := t1.lt; omega) (by have := t2.lt; omega) (by have := t3.lt; omega) (by have := hb t1; have := opd_size y s; omega) (by have := hb t2; have := opd_size z t; omega)
      (by have := hb t3; have := opd_size u r; omega) (opd_of_expr E hl hy (by have := hb t1; omega) ih1) (opd_of_expr E hl hz (by have := hb t2; omega) ih2) (opd_of_expr E hl hu (by have := hb t3; omega) ih3)
end Go.Proofs.YtpomjcndeanjgaaGreatDoor
namespace Go.Proofs.YtpomjcndeanjgaaGreatDoor
open Go.RowKit
theorem ret_se {s t : ByteArray} {a b : Int} (h : (s, a) = (t, b)) : Ending.returned (.tuple #[.string t, .int .i64 b]) = .returned (.tuple #[.string s, .int .i64 a]) := by
  injection h with h1 h2; rw [h1, h2]
set_option maxRecDepth 100000 in
set_option maxHeartbeats 4000000 in
theorem eformat_any (p : ProgD) (ps : L FieldD) (x : L NodeD) (w : World) (o : ProgOk w p) (hps : LOk w 2 FieldD.cells ps) (hx : LOk w 3 NodeD.cells x) (ht : Tab w) (nm : Names p ps.l) :
    Calls Tryz.prog 7 #[.slice x.A x.l.length x.c, .agg (scopeCells p ps)] w fun e w' => e = .returned (.tuple #[.string (fmtM p ps.l x.l).1, .int .i64 (fmtM p ps.l x.l).2]) ∧ Below w.heap.size w w' := by
  have HO := Lib.hid o
  have HP := Lib.hid hps
  have HX := Lib.hid hx
  have HT := Lib.hid ht
  have HN := Lib.hid nm
  clear o hps hx ht nm
  obtain ⟨W, hW, hw, HB, hp⟩ := box1 w (scopeCells p ps) 41
  have HW := Lib.hid hw
  clear hw
  have HR : Hid (fmtM p ps.l x.l = _) := Lib.hid (by rw [fmtM])
  generalize fmtM p ps.l x.l = R at *
  go_enter Tryz.func7, Tryz.ntmps7
  go_upto_region 1 with fail
  rw [← hW]
  clear hW
  go_wp2_with fail
  refine (exprCheck_any p ps x _ (HO.out.below (below_step HW.out (by first | exact HB | exact below_alloc HB _ | exact below_alloc (below_alloc HB _) _ | exact below_alloc (below_alloc (below_alloc HB _) _) _))) (HP.out.below (below_step HW.out (by first | exact HB | exact below_alloc HB _ | exact below_alloc (below_alloc HB _) _ | exact below_alloc (below_alloc (below_alloc HB _) _) _)) (Nat.le_refl _)) (HX.out.below (below_step HW.out (by first | exact HB | exact below_alloc HB _ | exact below_alloc (below_alloc HB _) _ | exact below_alloc (below_alloc (below_alloc HB _) _) _)) (Nat.le_refl _))).mono ?_
  rintro e w1 ⟨rfl, hbN⟩
  replace HB := below_step (by first | exact HB | exact below_alloc HB _ | exact below_alloc (below_alloc HB _) _ | exact below_alloc (below_alloc (below_alloc HB _) _) _) hbN
  clear hbN
  generalize hr : exprM p ps.l x.l = r at *
  obtain ⟨a, c⟩ := r
  simp only at HR
  by_cases k5 : c = 0
  case neg =>
    have k5' : (c != 0) = true := bne_iff_ne.2 k5
    replace HR : Hid (R = (⟨#[]⟩, c)) := Lib.hid (by rw [HR.out]; simp [k5])
    go_wp2
    go_ret2
    exact ⟨ret_se HR.out, below_step HW.out HB⟩
  subst k5
  obtain ⟨htx, hlen⟩ := expr_tx (by rw [hr])
  generalize (txtM p ps.l x.l (x.l.length + 1) 0).1 = s at *
  clear hr
  obtain ⟨V, hV⟩ : ∃ V, V = w1.alloc (.cells (wrCells x p ps 0) 69) := ⟨_, rfl⟩
  have HV : Hid (Blk V w1.heap.size 69 (wrCells x p ps 0)) := Lib.hid (by rw [hV]; exact Blk.new _ _ _)
  have HwV : Hid (Below w1.heap.size w1 V) := Lib.hid (by rw [hV]; exact below1 _ _)
  have h1 := below_step HW.out HB
  have E : WEnv w1 x p ps := ⟨HT.out.base h1, HX.out.below h1 (Nat.le_refl _), HO.out.below h1, HP.out.below h1 (Nat.le_refl _), HN.out⟩
  have HC := Lib.hid (show Calls Tryz.prog 20 #[.pointer (some ⟨w1.heap.size, 0, none⟩), .int .i64 0] V fun r w' =>
    r = .returned (.tuple #[.string s, .int .i64 x.l.length]) ∧ Blk w' w1.heap.size 69 (wrCells x p ps (flagM p ps.l x.l 0 0 x.l.length)) ∧ V.grownBy w' (some w1.heap.size) from tx_expr E (Nat.le_refl _) hlen htx 0 V HwV.out HV.out)
  have HBB := Lib.hid h1
  have hp2 := hp w1 HB
  clear hp h1 E htx
  go_upto_region 5 with fail
  rw [← hV]
  clear hV hp2
  go_wp2_with fail
  refine HC.out.mono ?_
  rintro r w2 ⟨rfl, hk2, hg2⟩
  have HB2 := Lib.hid (below_step HBB.out (gr_base HwV.out hg2 (Nat.le_refl _)))
  have c11 : w2.cell? ⟨w1.heap.size, 11, none⟩ = some (.int .i64 (flagM p ps.l x.l 0 0 x.l.length)) := hk2.cell 11
  have HK2 := Lib.hid hk2
  clear hk2 hg2 HC
  have hfl : flagM p ps.l x.l 0 0 x.l.length = if badB p ps.l x.l 0 x.l.length = true then 6 else 0 := rfl
  rw [hfl] at c11
  clear hfl
  by_cases hbad : badB p ps.l x.l 0 x.l.length = true
  · rw [if_pos hbad] at c11
    replace HK2 : Hid (Blk w2 w1.heap.size 69 (wrCells x p ps 6)) := Lib.hid (by have := HK2.out; rw [flagM, if_pos hbad] at this; exact this)
    replace HR : Hid (R = (⟨#[]⟩, 6)) := Lib.hid (by rw [HR.out]; simp [hbad])
    clear hbad
    go_wp2
    have H0 := Lib.hid (Below.refl w2.heap.size w2)
    clear c11
    have hb6 := fun u (h : Below w2.heap.size w2 u) => (show u.cell? ⟨w1.heap.size, 11, none⟩ = some (.int .i64 6) from (HK2.out.below h HK2.out.lt).cell 11)
    go_region_held3 (fun w' => Below w2.heap.size w2 w') (first | exact H0.out | exact below_drew H0.out | (exact below_step (by assumption) (by assumption)) | assumption) (fail)
    all_goals
      have HB5 : Hid (Below w2.heap.size w2 _) := Lib.hid (by assumption)
      go_wp2
      go_ret2
      exact ⟨ret_se HR.out, below_step HB2.out HB5.out⟩
  · rw [if_neg hbad] at c11
    replace HR : Hid (R = (s, 0)) := Lib.hid (by rw [HR.out]; simp [hbad])
    clear hbad
    go_wp2
    go_ret2
    exact ⟨ret_se HR.out, HB2.out⟩
end Go.Proofs.YtpomjcndeanjgaaGreatDoor
namespace Go.Proofs.YtpomjcndeanjgaaGreatDoor
open Go.RowKit
theorem Tryz.infoTok : (Tryz.prog.info? 81).map (fun i => (i.zero, i.size, i.bytes)) = some (some (.agg #[.int .i64 0, .string ⟨#[]⟩, .int .u32 0, .int .i64 0]), 4, 40) := by kernel_rfl
set_option maxRecDepth 100000 in
set_option maxHeartbeats 400000 in
theorem nl_any (c : Int) (w : World) :
    Calls Tryz.prog 27 #[.int .u8 c] w fun e w' => e = .returned (.bool (notNl c)) ∧ w = w' := by
  go_enter Tryz.func27, Tryz.ntmps27
  go_wp2
  go_ret
  exact ⟨rfl, rfl⟩
theorem ext_nl (s : ByteArray) (w : World) (hs : s.size ≤ maxLen) :
    Calls Tryz.prog 26 #[.string s, .func (.func 27) #[] #[]] w fun e w' => e = .returned (.int .i64 (ext notNl s.data.toList)) ∧ w = w' :=
  extent_any _ notNl s w hs (fun _ _ => by kernel_rfl) (Lib.hid nl_any)
def TokRel (s : ByteArray) (w : World) (sv lv av : Value) (wr : World) : Prop :=
  ∃ (t : ByteArray) (at_ : Nat) (out : List Tk) (A : Option Addr) (c : Nat), sv = .string t ∧ t.size ≤ s.size ∧ av = .int .i64 at_ ∧ at_ + t.size ≤ s.size + 1 ∧ out.length + t.size ≤ s.size ∧
    lv = .slice A out.length c ∧ out.length ≤ c ∧ wr.ownsRow w.heap.size 81 4 (.slice A out.length c) out.length (tkCells out) ∧ Below w.heap.size w wr ∧
    tokM s.data.toList.length s.data.toList 1 [] = tokM s.data.toList.length t.data.toList at_ out
def TokEnd (s : ByteArray) (w : World) (e : Ending) (w' : World) : Prop :=
  ∃ (A : Option Addr) (c : Nat), e = .returned (.tuple #[.slice A (tokenize s.data.toList).1.length c, .int .i64 (tokenize s.data.toList).2.1, .int .i64 (tokenize s.data.toList).2.2]) ∧ (tokenize s.data.toList).1.length ≤ c ∧
    w'.ownsRow w.heap.size 81 4 (.slice A (tokenize s.data.toList).1.length c) (tokenize s.data.toList).1.length (tkCells (tokenize s.data.toList).1) ∧ Below w.heap.size w w'
def strSize : Value → Nat
  | .string t => t.size
  | _ => 0
theorem size_rest (t : ByteArray) (k : Nat) : (t.extract k t.size).size = t.size - k := by simp
theorem tok_step {s t : ByteArray} {at_ : Nat} {out : List Tk} (h : tokM s.data.toList.length s.data.toList 1 [] = tokM s.data.toList.length t.data.toList at_ out) (ht : t.size ≤ s.size) (h0 : 0 < t.size)
    {k : Nat} (hk : 0 < k) {b : Nat} {out' : List Tk} (hs : ∀ n, tokM (n + 1) t.data.toList at_ out = tokM n (t.data.toList.drop k) b out') :
    tokM s.data.toList.length s.data.toList 1 [] = tokM s.data.toList.length (t.extract k t.size).data.toList b out' := by
  rw [h, Lib.extract_to_end]
  obtain ⟨n, hn⟩ : ∃ n, s.data.toList.length = n + 1 := ⟨s.data.toList.length - 1, by have : s.data.toList.length = s.size := rfl; omega⟩
  rw [hn, hs n]
  have e : (t.data.toList.drop k).length = t.size - k := by rw [List.length_drop]; rfl
  have e2 : s.data.toList.length = s.size := rfl
  exact tokM_fuel _ _ _ _ _ (by omega) (by omega)
set_option maxRecDepth 100000 in
set_option maxHeartbeats 2000000 in
theorem tokenize_any (s : ByteArray) (w : World) (hs0 : s.size ≤ maxLen) :
    Calls Tryz.prog 14 #[.string s] w fun e w' => TokEnd s w e w' := by
  unfold maxLen at hs0
  by_cases hlong : 16384 < s.size
  · go_enter Tryz.func14, Tryz.ntmps14
    go_wp2
    go_step3
    go_wp2
    rw [Exit.noGoto_ret]
    go_ret3
    have e : tokenize s.data.toList = ([], 0, 4) := by rw [tokenize, if_pos (show 16384 < s.data.toList.length from hlong)]
    refine ⟨none, 0, ?_⟩
    rw [e]
    exact ⟨rfl, Nat.le_refl _, World.ownsRow_nil _ _ _ _, Below.refl _ _⟩
  · obtain ⟨i0, hi, hz0, hz1, hz2⟩ := info_parts Tryz.infoTok
    have hs : s.size ≤ 16384 := by omega
    have HT : Hid (tokenize s.data.toList = tokM s.data.toList.length s.data.toList 1 []) := by
      refine Lib.hid ?_
      rw [tokenize, if_neg (show ¬ 16384 < s.data.toList.length from hlong)]
    clear hs0
    go_enter Tryz.func14, Tryz.ntmps14
    go_wp2
    go_step3
    go_wp2
    go_step3
    go_wp2
    go_loopw [0, 2, 5] (fun sv lv av wr => TokRel s w sv lv av wr) (fun sv _ _ _ => strSize sv)
    case atStart => exact ⟨s, 1, [], none, 0, rfl, Nat.le_refl _, rfl, by omega, by simp, rfl, Nat.le_refl _, World.ownsRow_nil _ _ _ _, Below.refl _ _, rfl⟩
    case round =>
      obtain ⟨t, at_, out, A, c, rfl, htl, rfl, hat, hout, rfl, hc, hown, hbel, hrun⟩ := hrel
      have HR := Lib.hid hrun
      clear hrun
      by_cases h0 : 0 < t.size
      · have HL := Lib.hid (list_one t h0)
        have hin : ∀ k : UInt8, t[0] ≠ k → ((t[0].toNat : Int) == (k.toNat : Int)) = false := fun k h => byte_ne h
        have HIN := Lib.hid hin
        clear hin
        by_cases h1 : t[0] = 10
        · have h1' : ((t[0].toNat : Int) == 10) = true := by rw [h1]; rfl
          have H1 := Lib.hid h1
          clear h1
          go_wp2
          go_roundw
          case rel =>
            refine ⟨t.extract 1 t.size, at_ + 1, out, A, c, rfl, by rw [size_rest]; omega, by go_num, by rw [size_rest]; omega, by rw [size_rest]; omega, rfl, hc, hown, hbel, ?_⟩
            refine tok_step HR.out htl h0 (k := 1) (by omega) fun n => ?_
            rw [HL.out, tokM]
            simp only [H1.out, if_true, List.drop_succ_cons, List.drop_zero]
          case measure => show (t.extract 1 t.size).size < t.size; rw [size_rest]; omega
        · have h1' : ((t[0].toNat : Int) == 10) = false := HIN.out 10 h1
          have H1 := Lib.hid h1
          clear h1
          by_cases h2 : t[0] = 32 ∨ t[0] = 9
          · have H2 := Lib.hid h2
            have h2' : ((t[0].toNat : Int) == 32) = true ∨ (((t[0].toNat : Int) == 32) = false ∧ ((t[0].toNat : Int) == 9) = true) := by
              rcases h2 with h | h
              · left; rw [h]; rfl
              · right; rw [h]; exact ⟨rfl, rfl⟩
            clear h2
            rcases h2' with h2' | ⟨h2', h3'⟩
            all_goals
              go_wp2
              go_roundw
              case rel =>
                refine ⟨t.extract 1 t.size, at_, out, A, c, rfl, by rw [size_rest]; omega, rfl, by rw [size_rest]; omega, by rw [size_rest]; omega, rfl, hc, hown, hbel, ?_⟩
                refine tok_step HR.out htl h0 (k := 1) (by omega) fun n => ?_
                rw [HL.out, tokM]
                simp only [H1.out, H2.out, if_true, if_false, List.drop_succ_cons, List.drop_zero]
              case measure => show (t.extract 1 t.size).size < t.size; rw [size_rest]; omega
          · have h2' : ((t[0].toNat : Int) == 32) = false := HIN.out 32 (fun h => h2 (.inl h))
            have h3' : ((t[0].toNat : Int) == 9) = false := HIN.out 9 (fun h => h2 (.inr h))
            have H2 := Lib.hid h2
            clear h2
            by_cases h4 : t[0] = 35
            · have h4' : ((t[0].toNat : Int) == 35) = true := by rw [h4]; rfl
              have H4 := Lib.hid h4
              clear h4
              have hle : ext notNl t.data.toList ≤ t.size := ext_le _ _
              have hpos : 0 < ext notNl t.data.toList := by rw [HL.out, ext, if_pos (by rw [H4.out]; decide)]; omega
              go_wp2_with fail
              refine (ext_nl _ _ (by unfold maxLen; omega)).mono ?_
              rintro e w' ⟨rfl, rfl⟩
              go_wp2
              go_roundw
              case rel =>
                refine ⟨t.extract (ext notNl t.data.toList) t.size, at_, out, A, c, rfl, by rw [size_rest]; omega, rfl, by rw [size_rest]; omega, by rw [size_rest]; omega, rfl, hc, hown, hbel, ?_⟩
                refine tok_step HR.out htl h0 hpos fun n => ?_
                rw [HL.out, tokM, if_neg H1.out, if_neg H2.out, if_pos H4.out]
              case measure => show (t.extract _ t.size).size < t.size; rw [size_rest]; omega
            · have h4' : ((t[0].toNat : Int) == 35) = false := HIN.out 35 h4
              have H4 := Lib.hid h4
              clear h4
              by_cases h5 : 4096 ≤ out.length
              · go_wp2
                rw [Exit.noGoto_ret]
                go_ret3
                have e : tokenize s.data.toList = ([], at_, 12) := by
                  obtain ⟨n, hn⟩ : ∃ n, s.data.toList.length = n + 1 := ⟨s.data.toList.length - 1, by have : s.data.toList.length = s.size := rfl; omega⟩
                  rw [HT.out, HR.out, hn, HL.out, tokM, if_neg H1.out, if_neg H2.out, if_neg H4.out, if_pos h5]
                refine ⟨none, 0, ?_⟩
                rw [e]
                exact ⟨rfl, Nat.le_refl _, World.ownsRow_nil _ _ _ _, hbel⟩
              · go_wp2_with fail
                refine (next_any t _ (by omega) h0).mono ?_
                rintro e w1 ⟨rfl, hb⟩
                rcases hn : nextM t.data.toList with ⟨tk, f⟩
                rw [show nextEnd t.data.toList = .returned (.tuple #[.agg #[.int .i64 tk.kind, .string ⟨tk.text.toArray⟩, .int .u32 tk.value, .int .i64 tk.line], .int .i64 f]) from by rw [nextEnd, hn]; rfl]
                have HN := Lib.hid hn
                clear hn
                have hown1 := own_below hown hb
                have hbel1 := hbel.trans (hb.mono hbel.size)
                clear hown hbel hb
                by_cases h6 : f = 0
                · have H6 := Lib.hid h6
                  have h6' : ((f : Int) != 0) = false := by rw [h6]; rfl
                  have hpl := nextM_len t.data.toList (by rw [HN.out]; exact H6.out)
                  rw [HN.out] at hpl
                  simp only at hpl
                  obtain ⟨hpl0, hpl1⟩ := hpl
                  replace hpl1 : tk.text.length ≤ t.size := hpl1
                  clear h6
                  go_wp2_with (first
                    | (at_builtin; refine wpList_append_own _ rfl _ _ 50 rfl w.heap.size 81 i0 _ 4 40 Tryz.underlying50 hi hz0 hz1 hz2 rfl (by decide) _ _ _ rfl ((hown1.alloc _).alloc _) ⟨w1.heap.size + 1, 0, none⟩ 1 1 [.int .i64 tk.kind, .string ⟨tk.text.toArray⟩, .int .u32 tk.value, .int .i64 at_] rfl rfl ?c1 ?c2 ?c3 ?c4 ?c5 ?_))
                  case c1 =>
                    intro j u hj
                    match j, hj with
                    | 0, hj => simp at hj; subst hj; simp [Addr.add]
                    | 1, hj => simp at hj; subst hj; simp [Addr.add]
                    | 2, hj => simp at hj; subst hj; simp [Addr.add]
                    | 3, hj => simp at hj; subst hj; simp [Addr.add]
                  case c2 => intro u hu; simp at hu; rcases hu with rfl | rfl | rfl | rfl <;> rfl
                  case c3 => unfold maxLen; omega
                  case c4 => omega
                  case c5 => have := hbel1.size; simp; omega
                  intro v' w2 hown2 hgrow _
                  have hbel2 : Below w.heap.size w w2 := by
                    refine (below_alloc (below_alloc hbel1 _) _).grown hgrow (by have := hbel1.size; simp; omega) fun k hk => ?_
                    exact (hown1.lt k hk).1
                  have HB := Lib.hid hbel2
                  have HO := Lib.hid hown2
                  obtain ⟨A', c', hv, hc'⟩ := own_slice hown2
                  have HC := Lib.hid hc'
                  have HV := Lib.hid hv
                  clear hbel2 hown2 hgrow hc' hbel1 hown1 hv
                  go_wp2
                  go_roundw
                  case rel =>
                    have hl : (out ++ [({ tk with line := at_ } : Tk)]).length = out.length + 1 := by simp
                    refine ⟨t.extract tk.text.length t.size, at_, out ++ [{ tk with line := at_ }], A', c', rfl, by rw [size_rest]; omega, rfl, by rw [size_rest]; omega, by rw [size_rest, hl]; omega, by rw [hl]; exact HV.out, by rw [hl]; exact HC.out, ?_, HB.out, ?_⟩
                    · rw [hl, tkCells_snoc, ← HV.out]
                      exact HO.out
                    · refine tok_step HR.out htl h0 hpl0 fun n => ?_
                      rw [HL.out, tokM, if_neg H1.out, if_neg H2.out, if_neg H4.out, if_neg h5, ← HL.out, HN.out, if_pos H6.out]
                  case measure => show (t.extract _ t.size).size < t.size; rw [size_rest]; omega
                · have h6' : ((f : Int) != 0) = true := by rw [bne_iff_ne]; omega
                  go_wp2
                  rw [Exit.noGoto_ret]
                  go_ret3
                  have e : tokenize s.data.toList = ([], at_, f) := by
                    obtain ⟨n, hn⟩ : ∃ n, s.data.toList.length = n + 1 := ⟨s.data.toList.length - 1, by have : s.data.toList.length = s.size := rfl; omega⟩
                    rw [HT.out, HR.out, hn, HL.out, tokM, if_neg H1.out, if_neg H2.out, if_neg H4.out, if_neg h5, ← HL.out, HN.out, if_neg h6]
                  refine ⟨none, 0, ?_⟩
                  rw [e]
                  exact ⟨rfl, Nat.le_refl _, World.ownsRow_nil _ _ _ _, hbel1.alloc hbel1.size _⟩
      · have hz : t.data.toList = [] := List.eq_nil_of_length_eq_zero (show t.size = 0 by omega)
        have HZ := Lib.hid hz
        clear hz
        go_wp2
        try rw [Exit.noGoto_ret]
        go_ret3
        have e : tokenize s.data.toList = (out, 0, 0) := by
          rw [HT.out, HR.out, HZ.out]
          cases s.data.toList.length <;> rfl
        refine ⟨A, c, ?_⟩
        rw [e]
        exact ⟨rfl, hc, hown, hbel⟩
end Go.Proofs.YtpomjcndeanjgaaGreatDoor
namespace Go.Proofs.YtpomjcndeanjgaaGreatDoor
open Go.RowKit
def PtOk (w : World) (l : List NodeD) (i e : Int) (r : Ending) (w' : World) : Prop := ∃ A c, r = .returned (.tuple #[.slice A l.length c, .int .i64 i, .int .i64 e]) ∧ LOk w' 3 NodeD.cells ⟨l, A, c⟩ ∧ Below w.heap.size w w'
theorem PtOk.nil {w w' : World} {i e : Int} (hb : Below w.heap.size w w') : PtOk w [] i e (.returned (.tuple #[.slice none 0 0, .int .i64 i, .int .i64 e])) w' := ⟨none, 0, rfl, ⟨Nat.zero_le _, .inl rfl⟩, hb⟩
theorem ret_pt {i e : Int} {R : List NodeD × Int × Int} {l : List NodeD} (h : R = (l, i, e)) {w : World} {r : Ending} {w' : World} (hp : PtOk w l i e r w') : PtOk w R.1 R.2.1 R.2.2 r w' := by rw [h]; exact hp
set_option maxRecDepth 100000 in
set_option maxHeartbeats 8000000 in
theorem eparseTok_any (p : ProgD) (ps : L FieldD) (x : L Tk) (i : Int) (w : World) (E : REnv w x p ps) :
    Calls Tryz.prog 15 #[.slice x.A x.l.length x.c, .int .i64 i, .agg (scopeCells p ps)] w (PtOk w (parseTokM p ps.l x.l i).1 (parseTokM p ps.l x.l i).2.1 (parseTokM p ps.l x.l i).2.2) := by
  have HE := Lib.hid E
  have hm := E.few
  obtain ⟨W, hW, hw, HB, hp⟩ := box1 w (scopeCells p ps) 41
  have HW := Lib.hid hw
  have HR : Hid (parseTokM p ps.l x.l i = _) := Lib.hid (parseTokM.eq_1 p ps.l x.l i)
  generalize parseTokM p ps.l x.l i = R at *
  clear hw E
  by_cases hi : i < 0 ∨ (x.l.length : Int) < i
  · replace HR : Hid (R = ([], 0, 2)) := Lib.hid (HR.out.trans (if_pos hi))
    clear hp
    by_cases h0 : i < 0
    · have h0' : decide (i < 0) = true := decide_eq_true h0
      go_enter Tryz.func15, Tryz.ntmps15
      go_upto_region 1 with fail
      rw [← hW]
      clear hW hi
      go_wp2
      go_ret3
      exact ret_pt HR.out (PtOk.nil HW.out)
    · have h0' : decide (i < 0) = false := decide_eq_false h0
      have h1 : (x.l.length : Int) < i := by omega
      have h1' : decide ((x.l.length : Int) < i) = true := decide_eq_true h1
      go_enter Tryz.func15, Tryz.ntmps15
      go_upto_region 1 with fail
      rw [← hW]
      clear hW hi
      go_wp2
      go_ret3
      exact ret_pt HR.out (PtOk.nil HW.out)
  obtain ⟨j, rfl⟩ : ∃ j : Nat, i = j := ⟨i.toNat, (Int.toNat_of_nonneg (by omega)).symm⟩
  have hj : j ≤ x.l.length := by omega
  have h0' : decide ((j : Int) < 0) = false := decide_eq_false (by omega)
  have h1' : decide ((x.l.length : Int) < (j : Int)) = false := decide_eq_false (by omega)
  have h1'' : decide (x.l.length < j) = false := decide_eq_false (by omega)
  replace HR := Lib.hid (HR.out.trans (if_neg hi))
  simp only [Int.toNat_natCast] at HR
  have hp1 := hp W HB
  obtain ⟨V, hV⟩ : ∃ V, V = W.alloc (.cells (rdCells x j p ps 0) 85) := ⟨_, rfl⟩
  have HV : Hid (RSt w V V W.heap.size x j p ps 0) := Lib.hid ⟨by rw [hV]; exact Blk.new _ _ _, gr_refl _ _, by rw [hV]; exact below_step HW.out (below1 _ _), HW.out.size⟩
  have HWV : Hid (Below W.heap.size W V) := Lib.hid (by rw [hV]; exact below1 _ _)
  have HX := Lib.hid (expressionS HE.out HV.out hj)
  have hbd := exprR_bd p ps.l x.l j 0 hj
  have hbl : (exprR p ps.l x.l j 0).n.length ≤ 30000 := by have := hbd.er; have := hbd.le; omega
  generalize exprR p ps.l x.l j 0 = r at *
  obtain ⟨rn, rj, re⟩ := r
  simp only at HR HX hbl
  clear hi hbd
  go_enter Tryz.func15, Tryz.ntmps15
  go_upto_region 1 with fail
  rw [← hW]
  clear hW
  go_upto_region 4 with fail
  rw [← hV]
  clear hV hp1
  go_wp2_with fail
  refine HX.out.mono ?_
  rintro r w2 ⟨A, c, rfl, hL, hN⟩
  have H2 := Lib.hid hN
  have HL2 := Lib.hid hL
  have HB2 := Lib.hid (gr_base HWV.out hN.gr (Nat.le_refl _))
  clear hN hL HX
  have c1 : w2.cell? ⟨W.heap.size, 1, none⟩ = some (.int .i64 rj) := H2.out.blk.cell 1
  have c12 : w2.cell? ⟨W.heap.size, 12, none⟩ = some (.int .i64 re) := H2.out.blk.cell 12
  by_cases hre : re = 0
  case neg =>
    replace HR : Hid (R = ([], 0, re)) := Lib.hid (HR.out.trans (if_pos hre))
    have h1 : (re == 0) = false := beq_eq_false_iff_ne.2 hre
    have h2 : (re != 0) = true := bne_iff_ne.2 hre
    clear hre hp c1
    go_upto_region 8 with fail
    go_quiet (fail)
    go_wp2
    go_ret3
    exact ret_pt HR.out (PtOk.nil (below_step HW.out (below_drewN HB2.out _)))
  subst hre
  replace HR : Hid (R = if (exprM p ps.l rn).2 ≠ 0 then ([], 0, (exprM p ps.l rn).2) else (rn, (rj : Int), 0)) := Lib.hid (HR.out.trans (if_neg (by simp)))
  have hp2 := hp w2 HB2.out
  have f12 : w2.frozen? ⟨W.heap.size, 12, none⟩ = false := H2.out.blk.frozen 12
  have HCK := Lib.hid (exprCheck_any p ps ⟨rn, A, c⟩ w2 (HE.out.prog.below H2.out.base) (HE.out.pars.below H2.out.base (Nat.le_refl _)) HL2.out.lok)
  generalize exprM p ps.l rn = em at *
  obtain ⟨ea, ec⟩ := em
  simp only at HR HCK
  go_wp2_with fail
  refine HCK.out.mono ?_
  rintro r w3 ⟨rfl, hb3⟩
  have H3 := Lib.hid (H2.out.below hb3)
  have HL3 := Lib.hid (HL2.out.gr (gr_below hb3 _))
  have HB3 := Lib.hid (below_step HB2.out hb3)
  clear hb3 HCK hp2 c1 c12 f12 hp
  have c12 : w3.cell? ⟨W.heap.size, 12, none⟩ = some (.int .i64 0) := H3.out.blk.cell 12
  have f12 : w3.frozen? ⟨W.heap.size, 12, none⟩ = false := H3.out.blk.frozen 12
  go_upto_region 7 with fail
  obtain ⟨Z, hZ⟩ : ∃ Z, Z = w3.setCell ⟨W.heap.size, 12, none⟩ (.int .i64 ec) := ⟨_, rfl⟩
  have HZ : Hid (Blk Z W.heap.size 85 (rdCells x rj p ps ec)) := Lib.hid (by rw [hZ]; exact H3.out.blk.set_ 12 (.int .i64 ec))
  have HLZ := Lib.hid (show LOk Z 3 NodeD.cells ⟨rn, A, c⟩ from by rw [hZ]; exact (HL3.out.gr (gr_set (gr_refl _ _) _)).lok)
  have HBZ := Lib.hid (show Below W.heap.size W Z from by rw [hZ]; exact gr_base HB3.out (gr_set (gr_refl _ _) _) (Nat.le_refl _))
  rw [← hZ]
  clear hZ c12 f12
  have c1 : Z.cell? ⟨W.heap.size, 1, none⟩ = some (.int .i64 rj) := HZ.out.cell 1
  have c12 : Z.cell? ⟨W.heap.size, 12, none⟩ = some (.int .i64 ec) := HZ.out.cell 12
  by_cases hec : ec = 0
  case neg =>
    replace HR : Hid (R = ([], 0, ec)) := Lib.hid (HR.out.trans (if_pos hec))
    have h2 : (ec != 0) = true := bne_iff_ne.2 hec
    clear hec c1
    go_upto_region 8 with fail
    go_quiet (fail)
    go_wp2
    go_ret3
    exact ret_pt HR.out (PtOk.nil (below_step HW.out (below_drewN HBZ.out _)))
  subst hec
  replace HR : Hid (R = (rn, (rj : Int), 0)) := Lib.hid (HR.out.trans (if_neg (by simp)))
  go_upto_region 9 with fail
  go_quiet (fail)
  go_wp2
  go_ret3
  exact ret_pt HR.out ⟨A, c, rfl, HLZ.out.below (below_drewN (Below.refl Z.heap.size Z) _) (Nat.le_refl _), below_step HW.out (below_drewN HBZ.out _)⟩
end Go.Proofs.YtpomjcndeanjgaaGreatDoor
namespace Go.Proofs.YtpomjcndeanjgaaGreatDoor
open Go.RowKit
def PaOk (w : World) (R : List NodeD × Int) (r : Ending) (w' : World) : Prop := ∃ A c, r = .returned (.tuple #[.slice A R.1.length c, .int .i64 R.2]) ∧ LOk w' 3 NodeD.cells ⟨R.1, A, c⟩ ∧ Below w.heap.size w w'
theorem PaOk.nil {w w' : World} {e : Int} {R : List NodeD × Int} (h : R = ([], e)) (hb : Below w.heap.size w w') : PaOk w R (.returned (.tuple #[.slice none 0 0, .int .i64 e])) w' := by
  rw [h]; exact ⟨none, 0, rfl, ⟨Nat.zero_le _, .inl rfl⟩, hb⟩
set_option maxRecDepth 100000 in
set_option maxHeartbeats 8000000 in
theorem eparse_any (p : ProgD) (ps : L FieldD) (s : ByteArray) (w : World) (o : ProgOk w p) (hps : LOk w 2 FieldD.cells ps) (ht : Tab w) (nm : Names p ps.l) (hs : s.size ≤ maxLen) :
    Calls Tryz.prog 11 #[.string s, .agg (scopeCells p ps)] w (PaOk w (parseM p ps.l s)) := by
  obtain ⟨W, hW, hw, HB, hp⟩ := box1 w (scopeCells p ps) 41
  have HW := Lib.hid hw
  have HO := Lib.hid (o.below hw)
  have HPS := Lib.hid (hps.below hw (Nat.le_refl _))
  have HT := Lib.hid (ht.base hw)
  have HN := Lib.hid nm
  have HR : Hid (parseM p ps.l s = _) := Lib.hid (parseM.eq_1 p ps.l s)
  generalize parseM p ps.l s = R at *
  have HTK := Lib.hid (tokenize_any s W hs)
  have hok := tokenize_ok s.data.toList
  clear o hps ht nm hw
  unfold TokEnd at HTK
  generalize tokenize s.data.toList = t at *
  obtain ⟨ts, ln, er⟩ := t
  simp only at HTK hok HR
  go_enter Tryz.func11, Tryz.ntmps11
  go_upto_region 1 with fail
  rw [← hW]
  clear hW
  go_wp2_with fail
  refine HTK.out.mono ?_
  intro r w1 hT
  obtain ⟨A, c, rfl, hlc, hown, hb1⟩ := hT
  have E1 : REnv w1 ⟨ts, A, c⟩ p ps := ⟨own_tk hown (by unfold maxLen; omega), hok.1, hok.2, HO.out.below hb1, HPS.out.below hb1 (Nat.le_refl _)⟩
  have HPT : Hid (Calls Tryz.prog 15 #[.slice A ts.length c, .int .i64 0, .agg (scopeCells p ps)] w1 (PtOk w1 (parseTokM p ps.l ts 0).1 (parseTokM p ps.l ts 0).2.1 (parseTokM p ps.l ts 0).2.2)) := Lib.hid (eparseTok_any p ps ⟨ts, A, c⟩ 0 w1 E1)
  have HB1 := Lib.hid hb1
  generalize parseTokM p ps.l ts 0 = q at *
  obtain ⟨qn, qi, qe⟩ := q
  simp only at HPT HR
  have hp1 := hp w1 hb1
  clear hown hb1 hok E1 HTK hlc
  by_cases h1 : er = 0
  case neg =>
    replace HR : Hid (R = ([], (er : Int))) := Lib.hid (HR.out.trans (if_pos h1))
    have h1' : ((er : Int) != 0) = true := bne_iff_ne.2 (by omega)
    clear h1 hp hp1
    go_wp2
    go_ret2
    exact PaOk.nil HR.out (below_step HW.out HB1.out)
  subst h1
  replace HR := Lib.hid (HR.out.trans (if_neg (by simp)))
  go_wp2_with fail
  refine HPT.out.mono ?_
  rintro r w2 ⟨A2, c2, rfl, hl2, hb2⟩
  have HB2 := Lib.hid (below_step HB1.out hb2)
  have HL2 := Lib.hid hl2
  have hp2 := hp w2 (below_step HB1.out hb2)
  clear hl2 hb2 hp1 HPT
  by_cases h2 : qe = 0
  case neg =>
    replace HR : Hid (R = ([], qe)) := Lib.hid (HR.out.trans (if_pos h2))
    have h2' : (qe != 0) = true := bne_iff_ne.2 h2
    clear h2 hp hp2
    go_wp2
    go_ret2
    exact PaOk.nil HR.out (below_step HW.out HB2.out)
  subst h2
  replace HR := Lib.hid (HR.out.trans (if_neg (by simp)))
  by_cases h3 : qi < (ts.length : Int)
  · replace HR : Hid (R = ([], 4)) := Lib.hid (HR.out.trans (if_pos h3))
    have h3' : decide (qi < (ts.length : Int)) = true := decide_eq_true h3
    clear hp hp2
    go_wp2
    go_ret2
    exact PaOk.nil HR.out (below_step HW.out HB2.out)
  replace HR := Lib.hid (HR.out.trans (if_neg h3))
  have h3' : decide (qi < (ts.length : Int)) = false := decide_eq_false h3
  have HF : Hid (Calls Tryz.prog 7 #[.slice A2 qn.length c2, .agg (scopeCells p ps)] w2 fun e w' => e = .returned (.tuple #[.string (fmtM p ps.l qn).1, .int .i64 (fmtM p ps.l qn).2]) ∧ Below w2.heap.size w2 w') := Lib.hid (eformat_any p ps ⟨qn, A2, c2⟩ w2 (HO.out.below HB2.out) (HPS.out.below HB2.out (Nat.le_refl _)) HL2.out (HT.out.base HB2.out) HN.out)
  generalize fmtM p ps.l qn = f at *
  obtain ⟨ft, fe⟩ := f
  simp only at HF HR
  go_wp2_with fail
  refine HF.out.mono ?_
  rintro r w3 ⟨rfl, hb3⟩
  have HB3 := Lib.hid (below_step HB2.out hb3)
  have HL3 := Lib.hid (HL2.out.below hb3 (Nat.le_refl _))
  clear hb3 hp hp2 HF
  by_cases h4 : fe = 0
  case neg =>
    replace HR : Hid (R = ([], 23)) := Lib.hid (HR.out.trans (if_pos (.inl h4)))
    have h4' : (fe != 0) = true := bne_iff_ne.2 h4
    clear h4
    go_wp2
    go_ret2
    exact PaOk.nil HR.out (below_step HW.out HB3.out)
  subst h4
  by_cases h5 : ft = s
  · replace HR : Hid (R = (qn, 0)) := Lib.hid (HR.out.trans (if_neg (fun h => h.elim (fun h => h rfl) (fun h => h h5))))
    have h5' := toList_true h5
    clear h5
    go_wp2
    go_ret2
    exact ⟨A2, c2, by rw [HR.out]; rfl, by rw [HR.out]; exact HL3.out, below_step HW.out HB3.out⟩
  · replace HR : Hid (R = ([], 23)) := Lib.hid (HR.out.trans (if_pos (.inr h5)))
    have h5' := toList_false h5
    clear h5
    go_wp2
    go_ret2
    exact PaOk.nil HR.out (below_step HW.out HB3.out)
end Go.Proofs.YtpomjcndeanjgaaGreatDoor
namespace Go.Proofs.YtpomjcndeanjgaaGreatDoor
open Go.RowKit
@[reducible] def c14Cells (p : ProgD) (ps : L FieldD) (ns : L NodeD) : Array Value := #[.string p.name, .slice p.headers.A p.headers.l.length p.headers.c, .slice p.metadata.A p.metadata.l.length p.metadata.c,
  .slice p.registers.A p.registers.l.length p.registers.c, .slice p.actions.A p.actions.l.length p.actions.c, .slice p.tables.A p.tables.l.length p.tables.c,
  .slice p.states.A p.states.l.length p.states.c, .slice p.control.A p.control.l.length p.control.c, .slice p.deparser.A p.deparser.l.length p.deparser.c, .slice ps.A ps.l.length ps.c, .slice ns.A ns.l.length ns.c]
set_option maxRecDepth 100000 in
set_option maxHeartbeats 2000000 in
theorem own14_any (p : ProgD) (ps : L FieldD) (ns : L NodeD) (w : World) : Calls Tryz.prog 8 #[.agg (c14Cells p ps ns)] w fun e w' => e = .returned (.agg (scopeCells p ps)) ∧ Below w.heap.size w w' := by
  go_enter Tryz.func8, Tryz.ntmps8
  go_wp2
  refine bodyPost_ret (v := .agg (scopeCells p ps)) (by simp [results, Tryz.results8, go_sem, scopeCells]) rfl ⟨rfl, below2 _ _ _⟩
set_option maxRecDepth 100000 in
set_option maxHeartbeats 2000000 in
theorem scope14_any (p : ProgD) (ps : L FieldD) (ns : L NodeD) (w : World) : Calls Tryz.prog 10 #[.agg (c14Cells p ps ns)] w fun e w' => e = .returned (.agg (scopeCells p ps)) ∧ Below w.heap.size w w' := by
  go_enter Tryz.func10, Tryz.ntmps10
  go_wp2
  refine bodyPost_ret (v := .agg (scopeCells p ps)) (by simp [results, Tryz.results10, go_sem, scopeCells]) rfl ⟨rfl, below2 _ _ _⟩
def shortB (l : List FieldD) : Bool := l.all fun f => decide (f.name.size ≤ 30)
theorem short_yes {l : List FieldD} (h : ∀ j (hj : j < l.length), l[j].name.size ≤ 30) : shortB l = true := by
  unfold shortB
  rw [List.all_eq_true]
  intro f hf
  obtain ⟨j, hj, rfl⟩ := List.getElem_of_mem hf
  exact decide_eq_true (h j hj)
theorem short_no {l : List FieldD} {j : Nat} (hj : j < l.length) (h : 30 < l[j].name.size) : shortB l = false := by
  unfold shortB
  rw [List.all_eq_false]
  exact ⟨l[j], List.getElem_mem hj, by simp; omega⟩
theorem short_mem {l : List FieldD} (h : shortB l = true) : ∀ f ∈ l, f.name.size ≤ 1000 := fun f hf => by
  have := List.all_eq_true.1 h f hf
  have := of_decide_eq_true this
  omega
set_option maxRecDepth 100000 in
set_option maxHeartbeats 2000000 in
theorem short_any (x : L FieldD) (w : World) (h : LOk w 2 FieldD.cells x) : Calls Tryz.prog 18 #[.slice x.A x.l.length x.c] w fun e w' => e = .returned (.bool (shortB x.l)) ∧ w = w' := by
  have HX := Lib.hid h
  have hm := h.1
  unfold maxLen at hm
  have HY := Lib.hid (@short_yes x.l)
  have HN := Lib.hid (fun j (hj : j < x.l.length) => short_no (l := x.l) hj)
  generalize shortB x.l = R at *
  clear h
  go_enter Tryz.func18, Tryz.ntmps18
  go_wp2
  go_loopw [3] (fun iv wr => w = wr ∧ ∃ k : Nat, k ≤ x.l.length ∧ iv = .int .i64 k ∧ Hid (∀ j (hj : j < x.l.length), j < k → x.l[j].name.size ≤ 30)) (fun iv _ => x.l.length - (intOf iv).toNat)
  case atStart => exact ⟨rfl, 0, Nat.zero_le _, rfl, Lib.hid (fun j _ h => absurd h (Nat.not_lt_zero _))⟩
  case round =>
  obtain ⟨rfl, k, hk, rfl, HA⟩ := hrel
  by_cases hlt : k < x.l.length
  · obtain ⟨g, of, hA, d0, d1⟩ := FieldD.at HX.out hlt
    simp only [hA]
    by_cases hs : 30 < x.l[k].name.size
    · have HR := Lib.hid (HN.out k hlt hs)
      have hs' : decide ((30 : Int) < (x.l[k].name.size : Int)) = true := decide_eq_true (by omega)
      have hs2 : decide (30 < x.l[k].name.size) = true := decide_eq_true hs
      clear HA HN HY
      generalize x.l[k].name = nm at *
      go_wp2
      go_ret
      exact ⟨by rw [HR.out]; rfl, rfl⟩
    · have HA2 : Hid (∀ j (hj : j < x.l.length), j < k + 1 → x.l[j].name.size ≤ 30) := Lib.hid (fun j hj h => by
        rcases Nat.lt_succ_iff_lt_or_eq.1 h with h | rfl
        · exact HA.out j hj h
        · omega)
      have hs' : decide ((30 : Int) < (x.l[k].name.size : Int)) = false := decide_eq_false (by omega)
      have hs2 : decide (30 < x.l[k].name.size) = false := decide_eq_false hs
      clear HA
      generalize x.l[k].name = nm at d0 hs hs' hs2
      go_wp2
      go_roundw
      case rel => exact ⟨trivial, k + 1, by omega, by go_num, HA2⟩
      case measure => simp [intOf]; omega
  · have hk' : k = x.l.length := by omega
    subst hk'
    have HR := Lib.hid (HY.out (fun j hj => HA.out j hj hj))
    go_wp2
    go_ret
    exact ⟨by rw [HR.out]; rfl, rfl⟩
def used14N (y : NodeD) : NodeD := if y.op = 1 ∨ y.op = 2 ∨ y.op = 8 then y else if y.op = 3 ∨ y.op = 4 ∨ y.op = 6 ∨ y.op = 7 then ⟨y.op, y.n, 0⟩ else ⟨y.op, 0, 0⟩
set_option maxRecDepth 100000 in
set_option maxHeartbeats 4000000 in
theorem used_any (y : NodeD) (w : World) : Calls Tryz.prog 51 #[.agg #[.int .i64 y.op, .int .i64 y.n, .int .i64 y.w]] w fun e w' => e = .returned (.agg #[.int .i64 (used14N y).op, .int .i64 (used14N y).n, .int .i64 (used14N y).w]) ∧ Below w.heap.size w w' := by
  obtain ⟨op, n, wd⟩ := y
  by_cases h : op = 1 ∨ op = 2 ∨ op = 8 ∨ op = 3 ∨ op = 4 ∨ op = 6 ∨ op = 7
  · rcases h with rfl | rfl | rfl | rfl | rfl | rfl | rfl
    · rw [show used14N ⟨1, n, wd⟩ = ⟨1, n, wd⟩ from rfl]
      go_enter Tryz.func51, Tryz.ntmps51
      go_wp2
      refine bodyPost_ret (v := .agg #[.int .i64 1, .int .i64 n, .int .i64 wd]) (by simp [results, Tryz.results51, go_sem]) rfl ⟨rfl, below2 _ _ _⟩
    · rw [show used14N ⟨2, n, wd⟩ = ⟨2, n, wd⟩ from rfl]
      go_enter Tryz.func51, Tryz.ntmps51
      go_wp2
      refine bodyPost_ret (v := .agg #[.int .i64 2, .int .i64 n, .int .i64 wd]) (by simp [results, Tryz.results51, go_sem]) rfl ⟨rfl, below2 _ _ _⟩
    · rw [show used14N ⟨8, n, wd⟩ = ⟨8, n, wd⟩ from rfl]
      go_enter Tryz.func51, Tryz.ntmps51
      go_wp2
      refine bodyPost_ret (v := .agg #[.int .i64 8, .int .i64 n, .int .i64 wd]) (by simp [results, Tryz.results51, go_sem]) rfl ⟨rfl, below2 _ _ _⟩
    · rw [show used14N ⟨3, n, wd⟩ = ⟨3, n, 0⟩ from rfl]
      go_enter Tryz.func51, Tryz.ntmps51
      go_wp2
      refine bodyPost_ret (v := .agg #[.int .i64 3, .int .i64 n, .int .i64 0]) (by simp [results, Tryz.results51, go_sem]) rfl ⟨rfl, below2 _ _ _⟩
    · rw [show used14N ⟨4, n, wd⟩ = ⟨4, n, 0⟩ from rfl]
      go_enter Tryz.func51, Tryz.ntmps51
      go_wp2
      refine bodyPost_ret (v := .agg #[.int .i64 4, .int .i64 n, .int .i64 0]) (by simp [results, Tryz.results51, go_sem]) rfl ⟨rfl, below2 _ _ _⟩
    · rw [show used14N ⟨6, n, wd⟩ = ⟨6, n, 0⟩ from rfl]
      go_enter Tryz.func51, Tryz.ntmps51
      go_wp2
      refine bodyPost_ret (v := .agg #[.int .i64 6, .int .i64 n, .int .i64 0]) (by simp [results, Tryz.results51, go_sem]) rfl ⟨rfl, below2 _ _ _⟩
    · rw [show used14N ⟨7, n, wd⟩ = ⟨7, n, 0⟩ from rfl]
      go_enter Tryz.func51, Tryz.ntmps51
      go_wp2
      refine bodyPost_ret (v := .agg #[.int .i64 7, .int .i64 n, .int .i64 0]) (by simp [results, Tryz.results51, go_sem]) rfl ⟨rfl, below2 _ _ _⟩
  · have HR : Hid (used14N ⟨op, n, wd⟩ = ⟨op, 0, 0⟩) := Lib.hid (by unfold used14N; rw [if_neg (fun h2 => h (by simp only at h2; omega)), if_neg (fun h2 => h (by simp only at h2; omega))])
    have b1 : (op == 1) = false := beq_eq_false_iff_ne.2 (by omega)
    have b2 : (op == 2) = false := beq_eq_false_iff_ne.2 (by omega)
    have b3 : (op == 3) = false := beq_eq_false_iff_ne.2 (by omega)
    have b4 : (op == 4) = false := beq_eq_false_iff_ne.2 (by omega)
    have b6 : (op == 6) = false := beq_eq_false_iff_ne.2 (by omega)
    have b7 : (op == 7) = false := beq_eq_false_iff_ne.2 (by omega)
    have b8 : (op == 8) = false := beq_eq_false_iff_ne.2 (by omega)
    rw [HR.out]
    clear h HR
    go_enter Tryz.func51, Tryz.ntmps51
    go_wp2
    refine bodyPost_ret (v := .agg #[.int .i64 op, .int .i64 0, .int .i64 0]) (by simp [results, Tryz.results51, go_sem]) rfl ⟨rfl, below2 _ _ _⟩
end Go.Proofs.YtpomjcndeanjgaaGreatDoor
namespace Go.Proofs.YtpomjcndeanjgaaGreatDoor
open Go.RowKit Go.WideShapes Go.ChangeShapes
structure Case14 where
  p : ProgD
  ps : L FieldD
  ns : L NodeD
structure Case14Good (w : World) (c : Case14) : Prop where
  p : ProgGood w c.p
  ps : ListOk w 2 24 FieldD.cells FldGood c.ps
  ns : ListOk w 3 24 NodeD.cells NodeGood c.ns
section
variable {H : Type} {enc : TypeId × Value → H} {w : World} {base : Nat} {held : Bool}
theorem rd_case14 (N : Nat) : RdB enc Tryz.prog w base held N 34 (fun c : Case14 => (c14Cells c.p c.ps c.ns).toList) (Case14Good w) := by
  intro m hm cs x h hw
  obtain ⟨xs, n, e1, hx, hlen, hl, hf⟩ := DataW.trod_struct Tryz.underlying34 h
  subst hx
  simp only [DataW.weights, Tryz.underlying34] at hw
  obtain ⟨d0, h0, w0⟩ := rd_field (N := N) 0 _ 0 9 hf hl hw rfl rfl rfl (by kernel_rfl) (rd_prog N) (by omega)
  obtain ⟨d1, h1, w1⟩ := rd_field (N := N) 1 _ 9 1 hf hl hw rfl rfl rfl (by kernel_rfl) (rd_fields N) (by omega)
  obtain ⟨d2, h2, w2⟩ := rd_field (N := N) 2 _ 10 1 hf hl hw rfl rfl rfl (by kernel_rfl) (rd_nodes N) (by omega)
  have e2 : cs.length = 11 := hlen.trans (by kernel_rfl)
  refine ⟨⟨d0, d1, d2⟩, cells_eq e2 fun i hi => ?_, ⟨w0, w1, w2⟩⟩
  match i, hi with
  | 0, _ => exact cut_get h0 0 (by simp)
  | 1, _ => exact cut_get h0 1 (by simp)
  | 2, _ => exact cut_get h0 2 (by simp)
  | 3, _ => exact cut_get h0 3 (by simp)
  | 4, _ => exact cut_get h0 4 (by simp)
  | 5, _ => exact cut_get h0 5 (by simp)
  | 6, _ => exact cut_get h0 6 (by simp)
  | 7, _ => exact cut_get h0 7 (by simp)
  | 8, _ => exact cut_get h0 8 (by simp)
  | 9, _ => exact cell_of_cut h1
  | 10, _ => exact cell_of_cut h2
end
end Go.Proofs.YtpomjcndeanjgaaGreatDoor
namespace Go.Proofs.YtpomjcndeanjgaaGreatDoor
open Go.RowKit
theorem neq_nodeX (x : NodeD) (w : World) : Sem.run Tryz.prog (binOp .neq 65 (.agg #[.int .i64 x.op, .int .i64 x.n, .int .i64 x.w]) (.agg #[.int .i64 x.op, .int .i64 x.n, .int .i64 x.w])) w = .ok (.bool false) w := by
  have hS : Tryz.prog.underlying 65 = some (.struct (Tryz.prog.fieldsOf 65)) := by kernel_rfl
  have hp : Tryz.prog.stoodInHeld 65 = false := by kernel_rfl
  have u0 := Tryz.underlying3
  have a0 := Tryz.isAgg3
  have z0 := Tryz.sizeOf3
  rw [run_neq_struct, show (10000 : Nat) = 9999 + 1 from rfl, run_equalIn_agg w 9999 65 _ _ hS hp]
  simp only [Program.fieldsOf, Tryz.underlying65]
  go_simp
set_option maxRecDepth 100000 in
set_option maxHeartbeats 4000000 in
theorem eqNodes_any (l : List NodeD) (A B : Option Addr) (c d : Nat) (w : World) (h : LOk w 3 NodeD.cells ⟨l, A, c⟩) (h2 : LOk w 3 NodeD.cells ⟨l, B, d⟩) :
    Calls Tryz.prog 25 #[.slice A l.length c, .slice B l.length d] w fun e w' => e = .returned (.bool true) ∧ Below w.heap.size w w' := by
  have HX := Lib.hid h
  have HY := Lib.hid h2
  have hm := h.1
  unfold maxLen at hm
  simp only at hm
  clear h h2
  go_enter Tryz.func25, Tryz.ntmps25
  go_wp2
  go_loopw [5] (fun iv wr => ∃ k : Nat, k ≤ l.length ∧ iv = .int .i64 k ∧ Below w.heap.size w wr) (fun i _ => l.length - (intOf i).toNat)
  case atStart => exact ⟨0, Nat.zero_le _, rfl, Below.refl _ _⟩
  case round =>
  obtain ⟨k, hk, rfl, HB⟩ := hrel
  by_cases hlt : k < l.length
  · obtain ⟨g, of, hA, hq⟩ := NodeD.atA HX.out hlt
    obtain ⟨g2, of2, hA2, hq2⟩ := NodeD.atA HY.out hlt
    simp only at hA hA2
    have HBw := Lib.hid HB
    have d1 := fun u (h : Below wr.heap.size wr u) => hq u (below_step HBw.out h)
    have d2 := fun u (h : Below wr.heap.size wr u) => hq2 u (below_step HBw.out h)
    have H0 := Lib.hid (Below.refl wr.heap.size wr)
    have hlt' : (k : Int) < (l.length : Int) := by omega
    clear hq hq2 HB
    simp only at d1 d2
    have HU := Lib.hid (used_any l[k])
    have hnq := neq_nodeX (used14N l[k])
    generalize used14N l[k] = u at *
    generalize l[k] = y at *
    subst hA hA2
    go_upto_region 6 with fail
    go_region_held3 (fun w' => Below wr.heap.size wr w') (first | exact H0.out | exact below_drew H0.out | (exact below_step (by assumption) (by assumption)) | assumption)
      (first | (go_at_call 51; refine (HU.out _).mono ?_; rintro r w5 ⟨rfl, hb5⟩))
    all_goals
      have HB5 : Hid (Below wr.heap.size wr _) := Lib.hid (by assumption)
      go_wp2
      go_roundw
      case rel => exact ⟨k + 1, by omega, by go_num, below_step HBw.out HB5.out⟩
      case measure => simp [intOf]; omega
  · have hk' : k = l.length := by omega
    subst hk'
    go_wp2
    go_ret
    exact ⟨rfl, HB⟩
theorem equal14_any (l : List NodeD) (A B : Option Addr) (c d : Nat) (w : World) (h : LOk w 3 NodeD.cells ⟨l, A, c⟩) (h2 : LOk w 3 NodeD.cells ⟨l, B, d⟩) :
    Calls Tryz.prog 13 #[.slice A l.length c, .slice B l.length d] w fun e w' => e = .returned (.bool true) ∧ Below w.heap.size w w' := by
  have HC := Lib.hid (eqNodes_any l A B c d w h h2)
  clear h h2
  go_enter Tryz.func13, Tryz.ntmps13
  go_wp2_with fail
  refine HC.out.mono ?_
  rintro r w1 ⟨rfl, hb⟩
  have HB := Lib.hid hb
  clear hb HC
  go_wp2
  go_ret
  exact ⟨rfl, HB.out⟩
end Go.Proofs.YtpomjcndeanjgaaGreatDoor
namespace Go.Proofs.YtpomjcndeanjgaaGreatDoor
open Go.RowKit
def hdrSm (h : HeaderD) : Prop := h.name.size ≤ 30 ∧ shortB h.fields.l = true
theorem names_of {p : ProgD} {ps : List FieldD} (h1 : ∀ j (hj : j < p.headers.l.length), hdrSm p.headers.l[j]) (h2 : shortB p.metadata.l = true) (h3 : shortB ps = true) : Names p ps := by
  refine ⟨fun h hh => ?_, fun h hh => ?_, short_mem h2, short_mem h3⟩
  · obtain ⟨j, hj, rfl⟩ := List.getElem_of_mem hh
    have := (h1 j hj).1
    omega
  · obtain ⟨j, hj, rfl⟩ := List.getElem_of_mem hh
    exact short_mem (h1 j hj).2
def SaysYes (P : Prop) (r : Ending) : Prop := ∃ b : Bool, r = .returned (.bool b) ∧ (b = true → P)
theorem SaysYes.no {P : Prop} : SaysYes P (.returned (.bool false)) := ⟨false, rfl, fun h => by cases h⟩
set_option maxRecDepth 100000 in
set_option maxHeartbeats 8000000 in
theorem small14_any (p : ProgD) (ps : L FieldD) (ns : L NodeD) (w : World) (o : ProgOk w p) (hps : LOk w 2 FieldD.cells ps) :
    Calls Tryz.prog 5 #[.agg (c14Cells p ps ns)] w fun e w' => SaysYes (Names p ps.l) e ∧ Below w.heap.size w w' := by
  obtain ⟨W, hW, hw, HB, hp⟩ := box1 w (c14Cells p ps ns) 34
  have HW := Lib.hid hw
  have HO := Lib.hid (o.below hw)
  have HSP := Lib.hid (short_any ps W (hps.below hw (Nat.le_refl _)))
  have HSM := Lib.hid (short_any p.metadata W HO.out.metadata)
  have hp1 := hp W HB
  have hnm : Hid (∀ (h1 : ∀ j (hj : j < p.headers.l.length), hdrSm p.headers.l[j]), shortB p.metadata.l = true → shortB ps.l = true → Names p ps.l) := Lib.hid (fun h1 h2 h3 => names_of h1 h2 h3)
  have hlh := HO.out.headers.1
  unfold maxLen at hlh
  clear hw o hps
  generalize shortB ps.l = b5 at *
  generalize shortB p.metadata.l = b6 at *
  by_cases a1 : 40 < ns.l.length
  · have e1 : decide ((40 : Int) < (ns.l.length : Int)) = true := decide_eq_true (by omega)
    have e1' : decide (40 < ns.l.length) = true := decide_eq_true a1
    go_enter Tryz.func5, Tryz.ntmps5
    go_upto_region 1 with fail
    rw [← hW]
    clear hW
    go_wp2
    go_ret
    exact ⟨.no, HW.out⟩
  have e1 : decide ((40 : Int) < (ns.l.length : Int)) = false := decide_eq_false (by omega)
  have e1' : decide (40 < ns.l.length) = false := decide_eq_false a1
  by_cases a2 : 10 < ps.l.length
  · have e2 : decide ((10 : Int) < (ps.l.length : Int)) = true := decide_eq_true (by omega)
    have e2' : decide (10 < ps.l.length) = true := decide_eq_true a2
    go_enter Tryz.func5, Tryz.ntmps5
    go_upto_region 1 with fail
    rw [← hW]
    clear hW
    go_wp2
    go_ret
    exact ⟨.no, HW.out⟩
  have e2 : decide ((10 : Int) < (ps.l.length : Int)) = false := decide_eq_false (by omega)
  have e2' : decide (10 < ps.l.length) = false := decide_eq_false a2
  by_cases a3 : 10 < p.headers.l.length
  · have e3 : decide ((10 : Int) < (p.headers.l.length : Int)) = true := decide_eq_true (by omega)
    have e3' : decide (10 < p.headers.l.length) = true := decide_eq_true a3
    go_enter Tryz.func5, Tryz.ntmps5
    go_upto_region 1 with fail
    rw [← hW]
    clear hW
    go_wp2
    go_ret
    exact ⟨.no, HW.out⟩
  have e3 : decide ((10 : Int) < (p.headers.l.length : Int)) = false := decide_eq_false (by omega)
  have e3' : decide (10 < p.headers.l.length) = false := decide_eq_false a3
  by_cases a4 : 20 < p.metadata.l.length
  · have e4 : decide ((20 : Int) < (p.metadata.l.length : Int)) = true := decide_eq_true (by omega)
    have e4' : decide (20 < p.metadata.l.length) = true := decide_eq_true a4
    go_enter Tryz.func5, Tryz.ntmps5
    go_upto_region 1 with fail
    rw [← hW]
    clear hW
    go_wp2
    go_ret
    exact ⟨.no, HW.out⟩
  have e4 : decide ((20 : Int) < (p.metadata.l.length : Int)) = false := decide_eq_false (by omega)
  have e4' : decide (20 < p.metadata.l.length) = false := decide_eq_false a4
  cases b5 with
  | false =>
    go_enter Tryz.func5, Tryz.ntmps5
    go_upto_region 1 with fail
    rw [← hW]
    clear hW
    go_wp2_with fail
    refine HSP.out.mono ?_
    rintro r w' ⟨rfl, rfl⟩
    go_wp2
    go_ret
    exact ⟨.no, HW.out⟩
  | true =>
  cases b6 with
  | false =>
    go_enter Tryz.func5, Tryz.ntmps5
    go_upto_region 1 with fail
    rw [← hW]
    clear hW
    go_wp2_with fail
    refine HSP.out.mono ?_
    rintro r w' ⟨rfl, rfl⟩
    go_wp2_with fail
    refine HSM.out.mono ?_
    rintro r w' ⟨rfl, rfl⟩
    go_wp2
    go_ret
    exact ⟨.no, HW.out⟩
  | true =>
  go_enter Tryz.func5, Tryz.ntmps5
  go_upto_region 1 with fail
  rw [← hW]
  clear hW
  go_wp2_with fail
  refine HSP.out.mono ?_
  rintro r w' ⟨rfl, rfl⟩
  go_wp2_with fail
  refine HSM.out.mono ?_
  rintro r w' ⟨rfl, rfl⟩
  clear HSP HSM e1 e1' e2 e2' e3 e3' e4 e4' a1 a2 a4
  go_wp2
  go_loopw [3, 4] (fun iv _ wr => ∃ k : Nat, k ≤ p.headers.l.length ∧ iv = .int .i64 k ∧ Hid (∀ j (hj : j < p.headers.l.length), j < k → hdrSm p.headers.l[j]) ∧ Below W.heap.size W wr) (fun iv _ _ => p.headers.l.length - (intOf iv).toNat)
  case atStart => exact ⟨0, Nat.zero_le _, rfl, Lib.hid (fun j _ h => absurd h (Nat.not_lt_zero _)), HB⟩
  case round =>
  obtain ⟨k, hk, rfl, HA, hbel⟩ := hrel
  have HBw := Lib.hid hbel
  by_cases hlt : k < p.headers.l.length
  · obtain ⟨g, of, hA, hq⟩ := HeaderD.atA HO.out.headers hlt
    obtain ⟨d0, d1⟩ := hq wr hbel
    have hp2 := hp wr hbel
    have hlt' : (k : Int) < (p.headers.l.length : Int) := by omega
    have HFO := Lib.hid ((HO.out.hdr _ (List.getElem_mem hlt)).fields)
    have HQ : Hid (hdrSm p.headers.l[k] → ∀ j (hj : j < p.headers.l.length), j < k + 1 → hdrSm p.headers.l[j]) := Lib.hid (fun hw j hj h => by
      rcases Nat.lt_succ_iff_lt_or_eq.1 h with h | h
      · exact HA.out j hj h
      · subst h; exact hw)
    generalize p.headers.l[k] = y at *
    obtain ⟨yn, yf⟩ := y
    simp only at d0 d1 HFO
    obtain ⟨V, hV⟩ : ∃ V, V = wr.alloc (.cells #[.string yn, .slice yf.A yf.l.length yf.c] 61) := ⟨_, rfl⟩
    have HV : Hid (Blk V wr.heap.size 61 #[.string yn, .slice yf.A yf.l.length yf.c]) := Lib.hid (by rw [hV]; exact Blk.new _ _ _)
    have HBV : Hid (Below W.heap.size W V) := Lib.hid (by rw [hV]; exact below_alloc hbel _)
    have HSF := Lib.hid (short_any yf V (HFO.out.below HBV.out (Nat.le_refl _)))
    have HQ2 : Hid (yn.size ≤ 30 → shortB yf.l = true → hdrSm ⟨yn, yf⟩) := Lib.hid (fun a b => ⟨a, b⟩)
    have hAe := Lib.hid hA
    clear hq HA hbel
    have c1 : wr.cell? ⟨w.heap.size, 1, none⟩ = some (.slice (some ⟨g, of, none⟩) p.headers.l.length p.headers.c) := by rw [← hA]; exact hp2 1 (show 1 < 11 by decide)
    clear hp2 hA
    generalize shortB yf.l = bf at *
    have v0 : V.cell? ⟨wr.heap.size, 0, none⟩ = some (.string yn) := HV.out.cell 0
    have v1 : V.cell? ⟨wr.heap.size, 1, none⟩ = some (.slice yf.A yf.l.length yf.c) := HV.out.cell 1
    by_cases s1 : 30 < yn.size
    · have x1 : decide ((30 : Int) < (yn.size : Int)) = true := decide_eq_true (by omega)
      have x1' : decide (30 < yn.size) = true := decide_eq_true s1
      go_upto_region 7 with fail
      rw [← hV]
      clear hV c1 d0 d1
      go_wp2
      go_ret
      exact ⟨.no, below_step HW.out HBV.out⟩
    have x1 : decide ((30 : Int) < (yn.size : Int)) = false := decide_eq_false (by omega)
    have x1' : decide (30 < yn.size) = false := decide_eq_false s1
    by_cases s2 : 20 < yf.l.length
    · have x2 : decide ((20 : Int) < (yf.l.length : Int)) = true := decide_eq_true (by omega)
      have x2' : decide (20 < yf.l.length) = true := decide_eq_true s2
      go_upto_region 7 with fail
      rw [← hV]
      clear hV c1 d0 d1
      go_wp2
      go_ret
      exact ⟨.no, below_step HW.out HBV.out⟩
    have x2 : decide ((20 : Int) < (yf.l.length : Int)) = false := decide_eq_false (by omega)
    have x2' : decide (20 < yf.l.length) = false := decide_eq_false s2
    cases bf with
    | false =>
      go_upto_region 7 with fail
      rw [← hV]
      clear hV c1 d0 d1
      go_wp2_with fail
      refine HSF.out.mono ?_
      rintro r w' ⟨rfl, rfl⟩
      go_wp2
      go_ret
      exact ⟨.no, below_step HW.out HBV.out⟩
    | true =>
      have HA2 := Lib.hid (HQ.out (HQ2.out (by omega) rfl))
      go_upto_region 7 with fail
      rw [← hV]
      clear hV c1 d0 d1
      go_wp2_with fail
      refine HSF.out.mono ?_
      rintro r w' ⟨rfl, rfl⟩
      go_wp2
      go_roundw
      case rel => exact ⟨k + 1, by omega, by go_num, HA2, HBV.out⟩
      case measure => simp [intOf]; omega
  · have hk' : k = p.headers.l.length := by omega
    subst hk'
    have HN := Lib.hid (hnm.out (fun j hj => HA.out j hj hj) (by first | rfl | trivial) (by first | rfl | trivial))
    have hp2 := hp wr hbel
    go_wp2
    go_ret
    exact ⟨⟨true, rfl, fun _ => HN.out⟩, below_step HW.out hbel⟩
end Go.Proofs.YtpomjcndeanjgaaGreatDoor
namespace Go.Proofs.YtpomjcndeanjgaaGreatDoor
open Go.RowKit
def nilX {α : Type} : L α := ⟨[], none, 0⟩
theorem nilX_ok {α : Type} (w : World) (k : Nat) (cells : α → List Value) : LOk w k cells (nilX : L α) := ⟨Nat.zero_le _, .inl rfl⟩
def wkP (g : Nat) : ProgD := ⟨⟨#[]⟩, ⟨[⟨⟨#[104]⟩, ⟨[⟨⟨#[98]⟩, 8⟩], some ⟨g, 0, none⟩, 1⟩⟩], some ⟨g + 1, 0, none⟩, 1⟩, nilX, nilX, nilX, nilX, nilX, nilX, nilX⟩
def wkN : List NodeD := [⟨9, 0, 0⟩, ⟨2, 0, 0⟩, ⟨6, 2, 0⟩, ⟨1, 5, 8⟩]
def wkS : ByteArray := ⟨#[104, 46, 98, 32, 43, 32, 40, 53, 58, 56, 32, 60, 60, 32, 50, 41]⟩
def wkT : ByteArray := ⟨#[104, 46, 98, 32, 32, 43, 32, 53, 58, 56]⟩
theorem wk_fmt (g : Nat) : fmtM (wkP g) [] wkN = (wkS, 0) := by kernel_rfl
theorem wk_parse (g : Nat) : parseM (wkP g) [] wkS = (wkN, 0) := by kernel_rfl
theorem wk_bad (g : Nat) : parseM (wkP g) [] wkT = ([], 23) := by kernel_rfl
theorem wk_ok {w : World} {g : Nat} (h : Blk w g 63 #[.string ⟨#[98]⟩, .int .i64 8]) (h2 : Blk w (g + 1) 61 #[.string ⟨#[104]⟩, .slice (some ⟨g, 0, none⟩) 1 1]) : ProgOk w (wkP g) where
  name := Nat.zero_le _
  headers := by
    refine ⟨by show (1 : Nat) ≤ maxLen; unfold maxLen; omega, .inr ⟨g + 1, 0, rfl, h2.lt, fun i hi j hj => ?_⟩⟩
    have hi' : i < 1 := hi
    rw [h2.cell]
    match i, hi', j, hj with
    | 0, _, 0, _ => rfl
    | 0, _, 1, _ => rfl
  hdr := fun x hx => by
    simp only [wkP, List.mem_singleton] at hx
    subst hx
    refine ⟨by show (1 : Nat) ≤ maxLen; unfold maxLen; omega, ⟨by show (1 : Nat) ≤ maxLen; unfold maxLen; omega, .inr ⟨g, 0, rfl, h.lt, fun i hi j hj => ?_⟩⟩, fun f hf => ?_⟩
    · have hi' : i < 1 := hi
      rw [h.cell]
      match i, hi', j, hj with
      | 0, _, 0, _ => rfl
      | 0, _, 1, _ => rfl
    · simp only [List.mem_singleton] at hf
      subst hf
      show (1 : Nat) ≤ maxLen; unfold maxLen; omega
  metadata := nilX_ok _ _ _
  mnames := fun _ h => by cases h
  registers := nilX_ok _ _ _
  rnames := fun _ h => by cases h
  actions := nilX_ok _ _ _
  act := fun _ h => by cases h
  tables := nilX_ok _ _ _
  tab := fun _ h => by cases h
  states := nilX_ok _ _ _
  state := fun _ h => by cases h
  control := nilX_ok _ _ _
  ctl := by show CtlsOk w []; rw [CtlsOk]; trivial
  deparser := nilX_ok _ _ _
theorem wk_names (g : Nat) : Names (wkP g) [] := by
  refine ⟨fun h hh => ?_, fun h hh f hf => ?_, fun f hf => (by cases hf), fun f hf => (by cases hf)⟩
  · simp only [wkP, List.mem_singleton] at hh
    subst hh
    show (1 : Nat) ≤ 1000; omega
  · simp only [wkP, List.mem_singleton] at hh
    subst hh
    simp only [List.mem_singleton] at hf
    subst hf
    show (1 : Nat) ≤ 1000; omega
def wkCells : Array Value := #[.int .i64 9, .int .i64 0, .int .i64 0, .int .i64 2, .int .i64 0, .int .i64 0, .int .i64 6, .int .i64 2, .int .i64 0, .int .i64 1, .int .i64 5, .int .i64 8]
theorem wk_nodes {w : World} {g : Nat} (b : Blk w g 65 wkCells) : LOk w 3 NodeD.cells ⟨wkN, some ⟨g, 0, none⟩, 4⟩ := by
  refine ⟨by show (4 : Nat) ≤ maxLen; unfold maxLen; omega, .inr ⟨g, 0, rfl, b.lt, fun i hi j hj => ?_⟩⟩
  have hi' : i < 4 := hi
  rw [b.cell]
  match i, hi', j, hj with
  | 0, _, 0, _ => rfl
  | 0, _, 1, _ => rfl
  | 0, _, 2, _ => rfl
  | 1, _, 0, _ => rfl
  | 1, _, 1, _ => rfl
  | 1, _, 2, _ => rfl
  | 2, _, 0, _ => rfl
  | 2, _, 1, _ => rfl
  | 2, _, 2, _ => rfl
  | 3, _, 0, _ => rfl
  | 3, _, 1, _ => rfl
  | 3, _, 2, _ => rfl
theorem box4X (w : World) (c1 c2 c3 c4 : Array Value) (t1 t2 t3 t4 : TypeId) : ∃ W, W = (((w.alloc (.cells c1 t1)).alloc (.cells c2 t2)).alloc (.cells c3 t3)).alloc (.cells c4 t4) ∧ Below w.heap.size w W ∧ W.heap.size = w.heap.size + 4 ∧
    Blk W w.heap.size t1 c1 ∧ Blk W (w.heap.size + 1) t2 c2 ∧ Blk W (w.heap.size + 1 + 1) t3 c3 ∧ Blk W (w.heap.size + 1 + 1 + 1) t4 c4 := by
  refine ⟨_, rfl, ?_, by simp, ((Blk.new _ _ _).alloc _).alloc _ |>.alloc _, ?_, ?_, ?_⟩
  · exact (((Below.refl w.heap.size w).alloc (Nat.le_refl _) _).alloc (by simp) _ |>.alloc (by simp; omega) _).alloc (by simp; omega) _
  · have := ((Blk.new (w.alloc (.cells c1 t1)) t2 c2).alloc (.cells c3 t3)).alloc (.cells c4 t4)
    simpa using this
  · have := (Blk.new ((w.alloc (.cells c1 t1)).alloc (.cells c2 t2)) t3 c3).alloc (.cells c4 t4)
    simpa using this
  · have := Blk.new (((w.alloc (.cells c1 t1)).alloc (.cells c2 t2)).alloc (.cells c3 t3)) t4 c4
    simpa using this
set_option maxRecDepth 100000 in
set_option maxHeartbeats 8000000 in
theorem works14_any (w : World) (ht : Tab w) : Calls Tryz.prog 6 #[] w fun e w' => e = .returned (.bool true) ∧ Below w.heap.size w w' := by
  have HT := Lib.hid ht
  go_enter Tryz.func6, Tryz.ntmps6
  go_upto_region 3 with fail
  obtain ⟨V, hV⟩ : ∃ V, V = (((w.alloc (.cells #[.string ⟨#[98]⟩, .int .i64 8] 63)).alloc (.cells #[.string ⟨#[104]⟩, .slice (some ⟨w.heap.size, 0, none⟩) 1 1] 61)).alloc (.cells #[.string ⟨#[]⟩, .slice (some ⟨w.heap.size + 1, 0, none⟩) 1 1, .slice none 0 0, .slice none 0 0, .slice none 0 0, .slice none 0 0, .slice none 0 0, .slice none 0 0, .slice none 0 0, .slice none 0 0] 41)).alloc (.cells #[.int .i64 9, .int .i64 0, .int .i64 0, .int .i64 2, .int .i64 0, .int .i64 0, .int .i64 6, .int .i64 2, .int .i64 0, .int .i64 1, .int .i64 5, .int .i64 8] 65) := ⟨_, rfl⟩
  obtain ⟨hbV, k1, k2, k3, k4⟩ : Below w.heap.size w V ∧ Blk V w.heap.size 63 #[.string ⟨#[98]⟩, .int .i64 8] ∧ Blk V (w.heap.size + 1) 61 #[.string ⟨#[104]⟩, .slice (some ⟨w.heap.size, 0, none⟩) 1 1] ∧ Blk V (w.heap.size + 1 + 1) 41 (scopeCells (wkP w.heap.size) nilX) ∧ Blk V (w.heap.size + 1 + 1 + 1) 65 wkCells := by
    obtain ⟨W, e, b, _, q1, q2, q3, q4⟩ := box4X w #[.string ⟨#[98]⟩, .int .i64 8] #[.string ⟨#[104]⟩, .slice (some ⟨w.heap.size, 0, none⟩) 1 1] (scopeCells (wkP w.heap.size) nilX) wkCells 63 61 41 65
    rw [hV]
    rw [e] at b q1 q2 q3 q4
    exact ⟨b, q1, q2, q3, q4⟩
  have HbV := Lib.hid hbV
  have K3 := Lib.hid (fun u (h : Below V.heap.size V u) => k3.below h k3.lt)
  have HP := Lib.hid (wk_ok k1 k2)
  have HN := Lib.hid (wk_nodes k4)
  have HTV := Lib.hid (HT.out.base hbV)
  rw [← hV]
  clear hV k1 k2 k4 hbV ht
  have HF : Hid (Calls Tryz.prog 7 #[.slice (some ⟨w.heap.size + 1 + 1 + 1, 0, none⟩) 4 4, .agg (scopeCells (wkP w.heap.size) nilX)] V fun e w' => e = .returned (.tuple #[.string wkS, .int .i64 0]) ∧ Below V.heap.size V w') := Lib.hid (by
    have := eformat_any (wkP w.heap.size) nilX ⟨wkN, some ⟨w.heap.size + 1 + 1 + 1, 0, none⟩, 4⟩ V HP.out (nilX_ok _ _ _) HN.out HTV.out (wk_names _)
    rw [show fmtM (wkP w.heap.size) (nilX : L FieldD).l (⟨wkN, some ⟨w.heap.size + 1 + 1 + 1, 0, none⟩, 4⟩ : L NodeD).l = (wkS, 0) from wk_fmt _] at this
    exact this)
  have HA : Hid (∀ u, Below V.heap.size V u → Calls Tryz.prog 11 #[.string wkS, .agg (scopeCells (wkP w.heap.size) nilX)] u (PaOk u (wkN, 0))) := Lib.hid (fun u h => by
    have := eparse_any (wkP w.heap.size) nilX wkS u (HP.out.below h) (nilX_ok _ _ _) (HTV.out.base h) (wk_names _) (by show (16 : Nat) ≤ maxLen; unfold maxLen; omega)
    rw [show parseM (wkP w.heap.size) (nilX : L FieldD).l wkS = (wkN, 0) from wk_parse _] at this
    exact this)
  have HB : Hid (∀ u, Below V.heap.size V u → Calls Tryz.prog 11 #[.string wkT, .agg (scopeCells (wkP w.heap.size) nilX)] u (PaOk u ([], 23))) := Lib.hid (fun u h => by
    have := eparse_any (wkP w.heap.size) nilX wkT u (HP.out.below h) (nilX_ok _ _ _) (HTV.out.base h) (wk_names _) (by show (10 : Nat) ≤ maxLen; unfold maxLen; omega)
    rw [show parseM (wkP w.heap.size) (nilX : L FieldD).l wkT = ([], 23) from wk_bad _] at this
    exact this)
  have hpP := fun u (h : Below V.heap.size V u) i (_ : i < 10) => (K3.out u h).cell i
  clear k3 HP HTV K3
  generalize wkP w.heap.size = P at *
  have hp1 := hpP V (Below.refl _ _)
  go_wp2_with fail
  refine HF.out.mono ?_
  rintro r w1 ⟨rfl, hb1⟩
  have H1 := Lib.hid hb1
  clear hb1 HF hp1
  have hp1 := hpP w1 H1.out
  go_wp2_with fail
  refine (HA.out w1 H1.out).mono ?_
  rintro r w2 ⟨A, c, rfl, hl2, hb2⟩
  have H2 := Lib.hid (below_step H1.out hb2)
  have HL2 := Lib.hid hl2
  clear hb2 hl2 HA hp1
  have hp1 := hpP w2 H2.out
  go_wp2_with fail
  refine (HB.out w2 H2.out).mono ?_
  rintro r w3 ⟨B, d, rfl, _, hb3⟩
  have H3 := Lib.hid (below_step H2.out hb3)
  have HE := Lib.hid (equal14_any wkN A (some ⟨w.heap.size + 1 + 1 + 1, 0, none⟩) c 4 w3 (HL2.out.below hb3 (Nat.le_refl _)) (HN.out.below H3.out (Nat.le_refl _)))
  clear hb3 HB hp1 hpP
  have hts : (wkS.toList == [104, 46, 98, 32, 43, 32, 40, 53, 58, 56, 32, 60, 60, 32, 50, 41]) = true := by rw [toList_data]; rfl
  go_wp2_with fail
  refine HE.out.mono ?_
  rintro r w4 ⟨rfl, hb4⟩
  have H4 := Lib.hid (below_step H3.out hb4)
  clear hb4
  go_wp2
  go_ret
  exact ⟨rfl, below_step HbV.out H4.out⟩
end Go.Proofs.YtpomjcndeanjgaaGreatDoor
namespace Go.Proofs.YtpomjcndeanjgaaGreatDoor
open Go.RowKit
set_option maxHeartbeats 400000 in
theorem rdig5R_any (c : Int) (w : World) :
    Calls Tryz.prog 83 #[.int .u8 c] w fun e w' => e = .returned (.bool (isDig c)) ∧ w = w' := by
  go_enter Tryz.func83, Tryz.ntmps83
  go_wp2
  all_goals (go_ret; exact ⟨ret_bool (by rw [Bool.eq_iff_iff]; simp [isDig]; omega), rfl⟩)
theorem isWord_letR {c : Int} (h : isLet c = true) : isWord c = true := by rw [isWord, h]; rfl
theorem ext_stepR {p : Int → Bool} {l : List UInt8} {k : Nat} (hk : k ≤ ext p l) (hlt : k < l.length) (hp : p ((l[k]'hlt).toNat : Nat) = true) : k + 1 ≤ ext p l := by
  rcases Nat.lt_or_ge k (ext p l) with h | h
  · exact h
  · have e : ext p l = k := by omega
    have := ext_stop p l (by omega)
    simp only [e] at this
    rw [hp] at this
    cases this
theorem ext_endR {p : Int → Bool} {l : List UInt8} {k : Nat} (hk : k ≤ ext p l) (hlt : k < l.length) (hp : p ((l[k]'hlt).toNat : Nat) = false) : ext p l = k := by
  rcases Nat.lt_or_ge k (ext p l) with h | h
  · have := ext_all p l k h
    rw [hp] at this; cases this
  · omega
set_option maxRecDepth 100000 in
set_option maxHeartbeats 2000000 in
theorem risIdent_any (s : ByteArray) (w : World) (hs : s.size ≤ maxLen) :
    Calls Tryz.prog 42 #[.string s] w fun e w' => e = .returned (.bool (identM s.data.toList)) ∧ w = w' := by
  unfold maxLen at hs
  rcases Nat.eq_zero_or_pos s.size with hz | h0
  · have hz' : s.data.toList = [] := List.eq_nil_of_length_eq_zero hz
    have HZ := Lib.hid hz'
    have h1 : s.toList = [] := by rw [toList_data, hz']
    clear hz hz'
    go_enter Tryz.func42, Tryz.ntmps42
    go_wp2
    go_ret
    exact ⟨by rw [HZ.out]; rfl, rfl⟩
  · have h1 : s.toList.isEmpty = false := by rw [toList_data, list_one s h0]; rfl
    have HI := Lib.hid (identM_head s h0)
    by_cases h16 : 16 < s.size
    · go_enter Tryz.func42, Tryz.ntmps42
      go_wp2
      go_ret
      exact ⟨by rw [HI.out, show decide (s.size ≤ 16) = false from by simp; omega]; rfl, rfl⟩
    · have H16 : Hid (decide (s.size ≤ 16) = true) := Lib.hid (by simp; omega)
      rcases hl : isLet (s[0].toNat : Int) with _ | _
      · have HL := Lib.hid hl
        clear hl
        go_enter Tryz.func42, Tryz.ntmps42
        go_wp2_with fail
        refine (rletter_any _ _).mono ?_
        rintro e w' ⟨rfl, rfl⟩
        have hl := HL.out
        go_wp2
        go_ret
        exact ⟨by rw [HI.out, H16.out, HL.out]; rfl, rfl⟩
      · have HL := Lib.hid hl
        have HM : Hid (identM s.data.toList = decide (ext isWord s.data.toList = s.size)) := Lib.hid (by rw [HI.out, H16.out, hl]; rfl)
        clear hl
        have hle : ext isWord s.data.toList ≤ s.size := ext_le _ _
        go_enter Tryz.func42, Tryz.ntmps42
        go_wp2_with fail
        refine (rletter_any _ _).mono ?_
        rintro e w' ⟨rfl, rfl⟩
        have hl := HL.out
        go_wp2
        clear hl
        go_loop [3] (fun i => ∃ k : Nat, k ≤ ext isWord s.data.toList ∧ i = .int .i64 k) (fun i => s.size - (intOf i).toNat)
        case atStart => exact ⟨0, Nat.zero_le _, rfl⟩
        case round =>
          obtain ⟨k, hk, rfl⟩ := hrel
          by_cases hlt : k < s.size
          · rcases hb1 : isLet (s[k].toNat : Int) with _ | _
            · have HB1 := Lib.hid hb1
              clear hb1
              rcases hb2 : isDig (s[k].toNat : Int) with _ | _
              · have HB2 := Lib.hid hb2
                clear hb2
                rcases hb3 : ((s[k].toNat : Int) == 95) with _ | _
                · have HW : Hid (isWord (s[k].toNat : Int) = false) := Lib.hid (by rw [isWord, HB1.out, HB2.out, hb3]; rfl)
                  have hb3' : ((s[k].toNat : Int) != 95) = true := by rw [bne, hb3]; rfl
                  go_wp2_with fail
                  refine (rletter_any _ _).mono ?_
                  rintro e w' ⟨rfl, rfl⟩
                  have hb1 := HB1.out
                  go_wp2_with fail
                  refine (rdig5R_any _ _).mono ?_
                  rintro e w' ⟨rfl, rfl⟩
                  have hb2 := HB2.out
                  go_wp2
                  go_ret
                  refine ⟨ret_bool ?_, rfl⟩
                  have := ext_endR hk hlt HW.out
                  rw [HM.out, eq_comm]
                  show decide _ = false
                  rw [decide_eq_false_iff_not]; omega
                · have HW : Hid (isWord (s[k].toNat : Int) = true) := Lib.hid (by rw [isWord, hb3, Bool.or_true])
                  have hb3' : ((s[k].toNat : Int) != 95) = false := by rw [bne, hb3]; rfl
                  go_wp2_with fail
                  refine (rletter_any _ _).mono ?_
                  rintro e w' ⟨rfl, rfl⟩
                  have hb1 := HB1.out
                  go_wp2_with fail
                  refine (rdig5R_any _ _).mono ?_
                  rintro e w' ⟨rfl, rfl⟩
                  have hb2 := HB2.out
                  go_wp2
                  go_round
                  case rel => exact ⟨k + 1, ext_stepR hk hlt HW.out, by go_num⟩
                  case measure => simp [intOf]; omega
              · have HB2 := Lib.hid hb2
                clear hb2
                have HW : Hid (isWord (s[k].toNat : Int) = true) := Lib.hid (by rw [isWord, HB2.out, Bool.or_true, Bool.true_or])
                go_wp2_with fail
                refine (rletter_any _ _).mono ?_
                rintro e w' ⟨rfl, rfl⟩
                have hb1 := HB1.out
                go_wp2_with fail
                refine (rdig5R_any _ _).mono ?_
                rintro e w' ⟨rfl, rfl⟩
                have hb2 := HB2.out
                go_wp2
                go_round
                case rel => exact ⟨k + 1, ext_stepR hk hlt HW.out, by go_num⟩
                case measure => simp [intOf]; omega
            · have HB1 := Lib.hid hb1
              clear hb1
              have HW : Hid (isWord (s[k].toNat : Int) = true) := Lib.hid (isWord_letR HB1.out)
              go_wp2_with fail
              refine (rletter_any _ _).mono ?_
              rintro e w' ⟨rfl, rfl⟩
              have hb1 := HB1.out
              go_wp2
              go_round
              case rel => exact ⟨k + 1, ext_stepR hk hlt HW.out, by go_num⟩
              case measure => simp [intOf]; omega
          · go_wp2
            go_ret
            refine ⟨ret_bool ?_, rfl⟩
            rw [HM.out, eq_comm]
            show decide _ = true
            rw [decide_eq_true_iff]; omega
end Go.Proofs.YtpomjcndeanjgaaGreatDoor
namespace Go.Proofs.YtpomjcndeanjgaaGreatDoor
open Go.RowKit
set_option maxHeartbeats 400000 in
theorem rdec32_any (v : Nat) (hv : v < 4294967296) (w : World) : Calls Tryz.prog 84 #[.int .u32 v] w fun e w' => e = .returned (.string ⟨(dec v).toArray⟩) ∧ Below w.heap.size w w' := by
  go_enter Tryz.func84, Tryz.ntmps84
  go_wp2_with fail
  refine (rdigits_any 19 v _ (by omega) (by omega) (by omega)).mono ?_
  rintro e w1 ⟨rfl, hb1⟩
  go_wp2
  go_ret
  exact ⟨rfl, hb1⟩
set_option maxHeartbeats 400000 in
theorem rdec_any (n : Int) (h0 : 0 ≤ n) (h1 : n ≤ 4294967295) (w : World) : Calls Tryz.prog 44 #[.int .i64 n] w fun e w' => e = .returned (.string (decB n)) ∧ Below w.heap.size w w' := by
  obtain ⟨k, rfl⟩ : ∃ k : Nat, n = k := ⟨n.toNat, (Int.toNat_of_nonneg h0).symm⟩
  have HR : Hid (decB k = ⟨(dec k).toArray⟩) := Lib.hid rfl
  go_enter Tryz.func44, Tryz.ntmps44
  go_wp2_with fail
  refine (rdec32_any k (by omega) _).mono ?_
  rintro e w1 ⟨rfl, hb1⟩
  go_wp2
  go_ret
  exact ⟨by rw [HR.out]; rfl, hb1⟩
set_option maxRecDepth 100000 in
set_option maxHeartbeats 2000000 in
theorem rfindField_any (x : L FieldD) (s : ByteArray) (w : World) (h : LOk w 2 FieldD.cells x) :
    Calls Tryz.prog 43 #[.slice x.A x.l.length x.c, .string s] w fun e w' => e = .returned (.int .i64 (Lib.idxOfS (fNames x.l) s)) ∧ w = w' := by
  have HX := Lib.hid h
  have hm := h.1
  unfold maxLen at hm
  have HH : Hid (∀ k (hk : k < x.l.length), x.l[k].name = s → (∀ j (hj : j < x.l.length), j < k → x.l[j].name ≠ s) → Lib.idxOfS (fNames x.l) s = k) := Lib.hid (fun k hk h1 h2 =>
    idx_hit (by simpa [fNames] using hk) (by simpa [fNames] using h1) (fun j hj hjk => by simpa [fNames] using h2 j (by simpa [fNames] using hj) hjk))
  have HM : Hid ((∀ j (hj : j < x.l.length), x.l[j].name ≠ s) → Lib.idxOfS (fNames x.l) s = -1) := Lib.hid (fun h2 => idx_miss (fun j hj => by simpa [fNames] using h2 j (by simpa [fNames] using hj)))
  clear h
  generalize Lib.idxOfS (fNames x.l) s = R at *
  go_enter Tryz.func43, Tryz.ntmps43
  go_wp2
  go_loop [5] (fun iv => ∃ k : Nat, k ≤ x.l.length ∧ iv = .int .i64 k ∧ Hid (∀ j (hj : j < x.l.length), j < k → x.l[j].name ≠ s)) (fun i => x.l.length - (intOf i).toNat)
  case atStart => exact ⟨0, Nat.zero_le _, rfl, Lib.hid (fun j _ h => absurd h (Nat.not_lt_zero _))⟩
  case round =>
  obtain ⟨k, hk, rfl, HP⟩ := hrel
  by_cases hlt : k < x.l.length
  case neg =>
    have HR := Lib.hid (HM.out (fun j hj => HP.out j hj (by omega)))
    go_wp2
    go_ret
    exact ⟨by rw [HR.out]; rfl, rfl⟩
  obtain ⟨g, of, hA, d0, d1⟩ := FieldD.at HX.out hlt
  simp only [hA]
  by_cases hy : x.l[k].name = s
  · have HR := Lib.hid (HH.out k hlt hy HP.out)
    have hy' := toList_true hy
    clear hy
    generalize x.l[k] = y at *
    clear HP
    go_wp2
    go_ret
    exact ⟨by rw [HR.out]; rfl, rfl⟩
  · have HP2 : Hid (∀ j (hj : j < x.l.length), j < k + 1 → x.l[j].name ≠ s) := Lib.hid (fun j hj h => by
      rcases Nat.lt_succ_iff_lt_or_eq.1 h with h | rfl
      · exact HP.out j hj h
      · exact hy)
    have hy' := toList_false hy
    clear hy
    generalize x.l[k] = y at *
    clear HP
    go_wp2
    go_round
    case rel => exact ⟨k + 1, by omega, by go_num, HP2⟩
    case measure => simp [intOf]; omega
set_option maxRecDepth 100000 in
set_option maxHeartbeats 2000000 in
theorem rfindHeader_any (p : ProgD) (ps : L FieldD) (s : ByteArray) (w : World) (o : ProgOk w p) :
    Calls Tryz.prog 81 #[.agg (scopeCells p ps), .string s] w fun e w' => e = .returned (.int .i64 (Lib.idxOfS (hNames p) s)) ∧ Below w.heap.size w w' := by
  obtain ⟨W, hW, hw, HB, hp⟩ := box1 w (scopeCells p ps) 44
  have HW := Lib.hid hw
  have HX := Lib.hid (o.headers.below hw (Nat.le_refl _))
  have hm := o.headers.1
  unfold maxLen at hm
  have hp3 := hp W HB
  clear o hw hp
  have HH : Hid (∀ k (hk : k < p.headers.l.length), p.headers.l[k].name = s → (∀ j (hj : j < p.headers.l.length), j < k → p.headers.l[j].name ≠ s) → Lib.idxOfS (hNames p) s = k) := Lib.hid (fun k hk h1 h2 =>
    idx_hit (by simpa [hNames] using hk) (by simpa [hNames] using h1) (fun j hj hjk => by simpa [hNames] using h2 j (by simpa [hNames] using hj) hjk))
  have HM : Hid ((∀ j (hj : j < p.headers.l.length), p.headers.l[j].name ≠ s) → Lib.idxOfS (hNames p) s = -1) := Lib.hid (fun h2 => idx_miss (fun j hj => by simpa [hNames] using h2 j (by simpa [hNames] using hj)))
  generalize Lib.idxOfS (hNames p) s = R at *
  go_enter Tryz.func81, Tryz.ntmps81
  go_upto_region 1 with fail
  rw [← hW]
  clear hW HB
  go_wp2
  go_loop [5] (fun iv => ∃ k : Nat, k ≤ p.headers.l.length ∧ iv = .int .i64 k ∧ Hid (∀ j (hj : j < p.headers.l.length), j < k → p.headers.l[j].name ≠ s)) (fun i => p.headers.l.length - (intOf i).toNat)
  case atStart => exact ⟨0, Nat.zero_le _, rfl, Lib.hid (fun j _ h => absurd h (Nat.not_lt_zero _))⟩
  case round =>
  obtain ⟨k, hk, rfl, HP⟩ := hrel
  by_cases hlt : k < p.headers.l.length
  case neg =>
    have HR := Lib.hid (HM.out (fun j hj => HP.out j hj (by omega)))
    go_wp2
    go_ret
    exact ⟨by rw [HR.out]; rfl, HW.out⟩
  obtain ⟨g, of, hA, hall⟩ := HeaderD.atA HX.out hlt
  obtain ⟨d0, d1⟩ := hall W (Below.refl _ _)
  simp only [scopeCells, hA] at hp3 ⊢
  by_cases hy : p.headers.l[k].name = s
  · have HR := Lib.hid (HH.out k hlt hy HP.out)
    have hy' := toList_true hy
    clear hy hall
    generalize p.headers.l[k] = y at *
    clear HP
    go_wp2
    go_ret
    exact ⟨by rw [HR.out]; rfl, HW.out⟩
  · have HP2 : Hid (∀ j (hj : j < p.headers.l.length), j < k + 1 → p.headers.l[j].name ≠ s) := Lib.hid (fun j hj h => by
      rcases Nat.lt_succ_iff_lt_or_eq.1 h with h | rfl
      · exact HP.out j hj h
      · exact hy)
    have hy' := toList_false hy
    clear hy hall
    generalize p.headers.l[k] = y at *
    clear HP
    go_wp2
    go_round
    case rel => exact ⟨k + 1, by omega, by go_num, HP2⟩
    case measure => simp [intOf]; omega
set_option maxRecDepth 100000 in
set_option maxHeartbeats 2000000 in
theorem rheader_any (p : ProgD) (ps : L FieldD) (h : Int) (w : World) (o : ProgOk w p) (hh : h = -1 ∨ (0 ≤ h ∧ h.toNat < p.headers.l.length)) :
    Calls Tryz.prog 45 #[.agg (scopeCells p ps), .int .i64 h] w fun e w' => e = .returned (.string (hdrB p h)) ∧ Below w.heap.size w w' := by
  obtain ⟨W, hW, hw, HB, hp⟩ := box1 w (scopeCells p ps) 44
  have HW := Lib.hid hw
  have HX := Lib.hid (o.headers.below hw (Nat.le_refl _))
  have hp3 := hp W HB
  have hm := o.headers.1
  unfold maxLen at hm
  clear o hw hp
  rcases hh with rfl | ⟨h0, h1⟩
  · have HR : Hid (hdrB p (-1) = ⟨#[109, 101, 116, 97]⟩) := Lib.hid rfl
    rw [HR.out]
    go_enter Tryz.func45, Tryz.ntmps45
    go_upto_region 1 with fail
    rw [← hW]
    clear hW HB
    go_wp2
    go_ret
    exact ⟨rfl, HW.out⟩
  · obtain ⟨k, rfl⟩ : ∃ k : Nat, h = k := ⟨h.toNat, (Int.toNat_of_nonneg h0).symm⟩
    have hk : k < p.headers.l.length := by simpa using h1
    have hki : (k : Int) < (p.headers.l.length : Int) := by omega
    rw [(hdr_at' p hk).1]
    obtain ⟨g, of, hA, hall⟩ := HeaderD.atA HX.out hk
    obtain ⟨d0, d1⟩ := hall W (Below.refl _ _)
    clear hall
    generalize p.headers.l[k] = y at *
    go_enter Tryz.func45, Tryz.ntmps45
    go_upto_region 1 with fail
    rw [← hW]
    clear hW HB
    simp only [scopeCells, hA] at hp3 ⊢
    clear hA HX
    go_wp2
    go_ret
    exact ⟨rfl, HW.out⟩
set_option maxRecDepth 100000 in
set_option maxHeartbeats 2000000 in
theorem rfields_any (p : ProgD) (ps : L FieldD) (h : Int) (w : World) (o : ProgOk w p) (hh : h = -1 ∨ (0 ≤ h ∧ h.toNat < p.headers.l.length)) :
    Calls Tryz.prog 40 #[.agg (scopeCells p ps), .int .i64 h] w fun e w' => e = .returned (.slice (fldsL p h).A (fldsL p h).l.length (fldsL p h).c) ∧ Below w.heap.size w w' := by
  obtain ⟨W, hW, hw, HB, hp⟩ := box1 w (scopeCells p ps) 44
  have HW := Lib.hid hw
  have HX := Lib.hid (o.headers.below hw (Nat.le_refl _))
  have hp3 := hp W HB
  have hm := o.headers.1
  unfold maxLen at hm
  clear o hw hp
  rcases hh with rfl | ⟨h0, h1⟩
  · rw [show fldsL p (-1) = p.metadata from rfl]
    go_enter Tryz.func40, Tryz.ntmps40
    go_upto_region 1 with fail
    rw [← hW]
    clear hW HB
    go_wp2
    go_ret
    exact ⟨rfl, HW.out⟩
  · obtain ⟨k, rfl⟩ : ∃ k : Nat, h = k := ⟨h.toNat, (Int.toNat_of_nonneg h0).symm⟩
    have hk : k < p.headers.l.length := by simpa using h1
    have hki : (k : Int) < (p.headers.l.length : Int) := by omega
    rw [(hdr_at' p hk).2]
    obtain ⟨g, of, hA, hall⟩ := HeaderD.atA HX.out hk
    obtain ⟨d0, d1⟩ := hall W (Below.refl _ _)
    clear hall
    generalize p.headers.l[k] = y at *
    go_enter Tryz.func40, Tryz.ntmps40
    go_upto_region 1 with fail
    rw [← hW]
    clear hW HB
    simp only [scopeCells, hA] at hp3 ⊢
    clear hA HX
    go_wp2
    go_ret
    exact ⟨rfl, HW.out⟩
end Go.Proofs.YtpomjcndeanjgaaGreatDoor
namespace Go.Proofs.YtpomjcndeanjgaaGreatDoor
open Go.RowKit
theorem rvalid_any (n : Int) (w : World) :
    Calls Tryz.prog 121 #[.int .i64 n] w fun e w' => e = .returned (.bool (okW n)) ∧ w = w' := by
  by_cases h1 : 1 ≤ n
  · have HR := Lib.hid (show okW n = decide (n ≤ 32) by simp [okW, h1])
    by_cases h2 : n ≤ 32
    all_goals
      go_enter Tryz.func121, Tryz.ntmps121
      go_wp2
      go_ret
      exact ⟨by rw [HR.out]; simp [h2], rfl⟩
  · have HR := Lib.hid (show okW n = false by simp [okW, h1])
    go_enter Tryz.func121, Tryz.ntmps121
    go_wp2
    go_ret
    exact ⟨by rw [HR.out]; rfl, rfl⟩
theorem pow_le40 {k : Nat} (h : k ≤ 40) : 2 ^ k ≤ 1099511627776 := Nat.pow_le_pow_right (by decide) h
theorem rpower_any (n : Nat) (hn : n ≤ 40) (w : World) :
    Calls Tryz.prog 122 #[.int .i64 n] w fun e w' => e = .returned (.int .u64 ((2 ^ n : Nat) : Int)) ∧ w = w' := by
  go_enter Tryz.func122, Tryz.ntmps122
  go_wp2
  go_loop [3, 4] (fun v i => ∃ k x : Nat, k ≤ n ∧ i = .int .i64 k ∧ v = .int .u64 x ∧ Hid (x = 2 ^ k)) (fun _ i => n - (intOf i).toNat)
  case atStart => exact ⟨0, 1, Nat.zero_le _, rfl, rfl, Lib.hid rfl⟩
  case round =>
  obtain ⟨k, x, hk, rfl, rfl, hx⟩ := hrel
  by_cases hlt : k < n
  · have HX : Hid (2 * x = 2 ^ (k + 1) ∧ 2 * x ≤ 1099511627776) := Lib.hid (by
      have h1 : 2 * x = 2 ^ (k + 1) := by rw [hx.out, Nat.pow_succ, Nat.mul_comm]
      exact ⟨h1, by rw [h1]; exact pow_le40 (by omega)⟩)
    go_wp2
    go_round
    case rel => exact ⟨k + 1, 2 * x, by omega, by go_num, by
      have h2 := HX.out.2
      refine congrArg (Value.int .u64) ?_
      rw [IntWalk.u64_in _ (by omega)]; rfl, Lib.hid HX.out.1⟩
    case measure => simp [intOf]; omega
  · have e : k = n := by omega
    subst e
    go_wp2
    go_ret
    exact ⟨by rw [hx.out]; simp, rfl⟩
theorem rmask_any (n : Int) (w : World) :
    Calls Tryz.prog 106 #[.int .i64 n] w fun e w' => e = .returned (.int .u32 (maskM n)) ∧ w = w' := by
  cases hv : okW n
  · have HM := Lib.hid (show maskM n = 0 by rw [maskM, hv]; rfl)
    have HV := Lib.hid hv
    clear hv
    go_enter Tryz.func106, Tryz.ntmps106
    go_wp2_with fail
    refine (rvalid_any n _).mono ?_
    rintro e w1 ⟨rfl, rfl⟩
    rw [HV.out]
    go_wp2
    go_ret
    exact ⟨by rw [HM.out]; rfl, rfl⟩
  · have HV := Lib.hid hv
    have hr : 1 ≤ n ∧ n ≤ 32 := okW_iff.1 hv
    obtain ⟨m, rfl⟩ : ∃ m : Nat, n = m := ⟨n.toNat, by omega⟩
    have HR := Lib.hid hr
    have HM : Hid (IntKind.u32.wrap (((2 ^ m : Nat) : Int) - 1) = (maskM m : Int)) := Lib.hid (by
      have h1 : maskM (m : Int) = 2 ^ m - 1 := by rw [maskM, hv]; rfl
      have h2 : 2 ^ m ≤ 2 ^ 32 := Nat.pow_le_pow_right (by decide) (by omega)
      have h3 : 0 < 2 ^ m := Nat.pow_pos (by decide)
      rw [h1, IntWalk.u32_in _ (by omega)]
      omega)
    have HP : Hid ((2 ^ m : Nat) ≤ 4294967296 ∧ 0 < 2 ^ m) := Lib.hid ⟨Nat.pow_le_pow_right (n := 2) (by decide) (show m ≤ 32 by omega), Nat.pow_pos (by decide)⟩
    clear hv hr
    go_enter Tryz.func106, Tryz.ntmps106
    go_wp2_with fail
    refine (rvalid_any m _).mono ?_
    rintro e w1 ⟨rfl, rfl⟩
    rw [HV.out]
    go_wp2_with fail
    refine (rpower_any m (by have := HR.out; omega) _).mono ?_
    rintro e w1 ⟨rfl, rfl⟩
    generalize hX : 2 ^ m = X at *
    have hX1 : 0 < (X : Int) := by have := HP.out; omega
    have hX2 : (X : Int) ≤ 4294967296 := by have := HP.out; omega
    clear hX
    go_wp2
    go_ret
    exact ⟨by rw [← HM.out, IntWalk.u32_in _ (by omega)]; rfl, rfl⟩
end Go.Proofs.YtpomjcndeanjgaaGreatDoor
namespace Go.Proofs.YtpomjcndeanjgaaGreatDoor
open Go.RowKit
theorem rarity_any (op : Int) (w : World) : Calls Tryz.prog 78 #[.int .i64 op] w fun e w' => e = .returned (.int .i64 (arityM op)) ∧ w = w' := by
  have hd : op < 1 ∨ (1 ≤ op ∧ op ≤ 4) ∨ (5 ≤ op ∧ op ≤ 8) ∨ (9 ≤ op ∧ op ≤ 16) ∨ op = 17 ∨ 17 < op := by omega
  rcases hd with h | ⟨h1, h2⟩ | ⟨h1, h2⟩ | ⟨h1, h2⟩ | h | h
  · have HR := Lib.hid (show arityM op = -1 by unfold arityM; repeat' split <;> omega)
    have k1 : (op == 17) = false := beq_eq_false_iff_ne.2 (by omega)
    have k2 : ¬ 5 ≤ op := by omega
    have k3 : ¬ 9 ≤ op := by omega
    go_enter Tryz.func78, Tryz.ntmps78
    go_wp2
    go_ret
    exact ⟨by rw [HR.out]; rfl, rfl⟩
  · have HR := Lib.hid (show arityM op = 0 by unfold arityM; repeat' split <;> omega)
    go_enter Tryz.func78, Tryz.ntmps78
    go_wp2
    go_ret
    exact ⟨by rw [HR.out]; rfl, rfl⟩
  · have HR := Lib.hid (show arityM op = 1 by unfold arityM; repeat' split <;> omega)
    have k2 : 1 ≤ op := by omega
    have k3 : ¬ op ≤ 4 := by omega
    go_enter Tryz.func78, Tryz.ntmps78
    go_wp2
    go_ret
    exact ⟨by rw [HR.out]; rfl, rfl⟩
  · have HR := Lib.hid (show arityM op = 2 by unfold arityM; repeat' split <;> omega)
    have k2 : 1 ≤ op := by omega
    have k3 : ¬ op ≤ 4 := by omega
    have k4 : 5 ≤ op := by omega
    have k5 : ¬ op ≤ 8 := by omega
    go_enter Tryz.func78, Tryz.ntmps78
    go_wp2
    go_ret
    exact ⟨by rw [HR.out]; rfl, rfl⟩
  · subst h
    go_enter Tryz.func78, Tryz.ntmps78
    go_wp2
    go_ret
    exact ⟨rfl, rfl⟩
  · have HR := Lib.hid (show arityM op = -1 by unfold arityM; repeat' split <;> omega)
    have k1 : (op == 17) = false := beq_eq_false_iff_ne.2 (by omega)
    have k2 : 1 ≤ op := by omega
    have k3 : ¬ op ≤ 4 := by omega
    have k4 : 5 ≤ op := by omega
    have k5 : ¬ op ≤ 8 := by omega
    have k6 : 9 ≤ op := by omega
    have k7 : ¬ op ≤ 16 := by omega
    go_enter Tryz.func78, Tryz.ntmps78
    go_wp2
    go_ret
    exact ⟨by rw [HR.out]; rfl, rfl⟩
theorem rwide_any (n : Int) (w : World) : Calls Tryz.prog 105 #[.int .i64 n] w fun e w' => e = .returned (.tuple #[.int .i64 (wideM n).1, .int .i64 (wideM n).2]) ∧ w = w' := by
  cases h : okW n
  · have HR := Lib.hid (wideM_bad h)
    have h' := okW_not.1 h
    clear h
    by_cases h2 : n < 1
    · go_enter Tryz.func105, Tryz.ntmps105
      go_wp2
      go_ret2
      exact ⟨by rw [HR.out]; rfl, rfl⟩
    · have h1 : 32 < n := by omega
      go_enter Tryz.func105, Tryz.ntmps105
      go_wp2
      go_ret2
      exact ⟨by rw [HR.out]; rfl, rfl⟩
  · have HR := Lib.hid (wideM_ok h)
    obtain ⟨h1, h2⟩ := okW_iff.1 h
    go_enter Tryz.func105, Tryz.ntmps105
    go_wp2
    go_ret2
    exact ⟨by rw [HR.out]; rfl, rfl⟩
def declV (d : Option FieldD) : Value := .tuple #[.int .i64 (d.getD noField).width, .bool d.isSome]
set_option maxRecDepth 100000 in
set_option maxHeartbeats 2000000 in
theorem rdeclared_any (p : ProgD) (h f : Int) (w : World) (o : ProgOk w p) :
    Calls Tryz.prog 107 #[.agg (progCells p), .agg #[.int .i64 h, .int .i64 f]] w fun e w' => e = .returned (declV (declF p h f)) ∧ Below w.heap.size w w' := by
  have HO := Lib.hid o
  clear o
  have hca := @World.cell?_alloc_some
  rcases fieldsOf_cases p h with ⟨rfl, hx⟩ | ⟨h1, h2, hx⟩ | ⟨k, hk, rfl, hx⟩
  · rcases declF_cases hx f with ⟨h3, hd⟩ | ⟨j, hj, rfl, hd⟩
    · have HR := Lib.hid hd
      clear hd hx
      by_cases h4 : f < 0
      · clear h3
        go_enter Tryz.func107, Tryz.ntmps107
        go_wp2
        go_ret2
        exact ⟨by rw [HR.out]; rfl, below2 _ _ _⟩
      · have h5 : (p.metadata.l.length : Int) ≤ f := by omega
        clear h3
        go_enter Tryz.func107, Tryz.ntmps107
        go_wp2
        go_ret2
        exact ⟨by rw [HR.out]; rfl, below2 _ _ _⟩
    · have HR := Lib.hid hd
      obtain ⟨g, of, hA, d0, d1⟩ := FieldD.at HO.out.metadata hj
      simp only [progCells, hA]
      clear hd hx hA
      generalize p.metadata.l[j] = y at *
      go_enter Tryz.func107, Tryz.ntmps107
      go_wp2
      go_ret2
      exact ⟨by rw [HR.out]; rfl, below2 _ _ _⟩
  · have HR := Lib.hid (declF_none hx f)
    have h1' : (h == -1) = false := beq_eq_false_iff_ne.2 h1
    clear hx
    by_cases h4 : h < 0
    · clear h2
      go_enter Tryz.func107, Tryz.ntmps107
      go_wp2
      go_ret2
      exact ⟨by rw [HR.out]; rfl, below2 _ _ _⟩
    · have h5 : (p.headers.l.length : Int) ≤ h := by omega
      clear h2
      go_enter Tryz.func107, Tryz.ntmps107
      go_wp2
      go_ret2
      exact ⟨by rw [HR.out]; rfl, below2 _ _ _⟩
  · obtain ⟨g, of, hA, d0, d1⟩ := HeaderD.at HO.out.headers hk
    have HF := Lib.hid (HO.out.hdr _ (List.getElem_mem hk)).fields
    have h1' : ((k : Int) == -1) = false := beq_eq_false_iff_ne.2 (by omega)
    simp only [progCells, hA]
    clear hA
    generalize p.headers.l[k] = x at *
    obtain ⟨xn, ⟨fl, fA, fc⟩⟩ := x
    simp only [L.v] at d1
    rcases declF_cases hx f with ⟨h3, hd⟩ | ⟨j, hj, rfl, hd⟩
    · have HR := Lib.hid hd
      simp only at h3
      clear hd hx
      by_cases h4 : f < 0
      · clear h3
        go_enter Tryz.func107, Tryz.ntmps107
        go_wp2
        go_ret2
        exact ⟨by rw [HR.out]; rfl, below2 _ _ _⟩
      · have h5 : (fl.length : Int) ≤ f := by omega
        clear h3
        go_enter Tryz.func107, Tryz.ntmps107
        go_wp2
        go_ret2
        exact ⟨by rw [HR.out]; rfl, below2 _ _ _⟩
    · have HR := Lib.hid hd
      simp only at hj
      obtain ⟨g2, of2, hA, e0, e1⟩ := FieldD.at HF.out hj
      simp only at hA e0 e1
      subst hA
      clear hd hx
      simp only at HR
      generalize fl[j] = y at *
      go_enter Tryz.func107, Tryz.ntmps107
      go_wp2
      go_ret2
      exact ⟨by rw [HR.out]; rfl, below2 _ _ _⟩
end Go.Proofs.YtpomjcndeanjgaaGreatDoor
namespace Go.Proofs.YtpomjcndeanjgaaGreatDoor
open Go.RowKit
def endM : List NodeD → Nat → Option Nat
  | [], _ => none
  | x :: r, n => if arityM x.op < 0 then none else if n + (arityM x.op).toNat = 1 then some 1 else (endM r (n + (arityM x.op).toNat - 1)).map (· + 1)
theorem endM_step {l : List NodeD} {i : Nat} {x : NodeD} (h : l[i]? = some x) (n : Nat) : endM (l.drop i) n = if arityM x.op < 0 then none else if n + (arityM x.op).toNat = 1 then some 1 else (endM (l.drop (i + 1)) (n + (arityM x.op).toNat - 1)).map (· + 1) := by
  have hi := (List.getElem?_eq_some_iff.1 h).1
  have he : l[i] = x := by rw [List.getElem?_eq_getElem hi] at h; injection h
  rw [List.drop_eq_getElem_cons hi, endM, he]
theorem map_add (o : Option Nat) (a b : Nat) : (o.map (· + a)).map (· + b) = o.map (· + (a + b)) := by cases o <;> simp [Nat.add_assoc]
theorem tx_end {p : ProgD} {ps : List FieldD} {l : List NodeD} {i j : Nat} {s : ByteArray} (h : Tx p ps l i j s) : ∀ n, endM (l.drop i) (n + 1) = if n = 0 then some (j - i) else (endM (l.drop j) n).map (· + (j - i)) := by
  induction h with
  | @leaf i x h ha hk =>
    intro n
    rw [endM_step h, ha]
    cases n with
    | zero => simp
    | succ n => simp
  | @un i j x y s h ha hk hy t1 ih =>
    intro n
    have := t1.lt
    rw [endM_step h, ha]
    simp only [show ¬ ((1 : Int) < 0) by decide, if_false, show (1 : Int).toNat = 1 from rfl, show ¬ (n + 1 + 1 = 1) by omega, Nat.add_sub_cancel, ih n]
    split
    · simp only [Option.map_some]; congr 1; omega
    · rw [map_add, show j - (i + 1) + 1 = j - i by omega]
  | @bi i m j x y z s t h ha hk hy t1 hz t2 ih1 ih2 =>
    intro n
    have := t1.lt
    have := t2.lt
    rw [endM_step h, ha]
    simp only [show ¬ ((2 : Int) < 0) by decide, if_false, show (2 : Int).toNat = 2 from rfl, show ¬ (n + 1 + 2 = 1) by omega, show n + 1 + 2 - 1 = (n + 1) + 1 by omega, ih1 (n + 1), show ¬ (n + 1 = 0) by omega, ih2 n]
    split
    · simp only [Option.map_some]; congr 1; omega
    · rw [map_add, map_add, show j - m + (m - (i + 1) + 1) = j - i by omega]
  | @tri i m k j x y z u s t r h ha hk hy t1 hz t2 hu t3 ih1 ih2 ih3 =>
    intro n
    have := t1.lt
    have := t2.lt
    have := t3.lt
    rw [endM_step h, ha]
    simp only [show ¬ ((3 : Int) < 0) by decide, if_false, show (3 : Int).toNat = 3 from rfl, show ¬ (n + 1 + 3 = 1) by omega, show n + 1 + 3 - 1 = (n + 2) + 1 by omega, ih1 (n + 2), show ¬ (n + 2 = 0) by omega, show n + 2 = (n + 1) + 1 by omega, ih2 (n + 1), show ¬ (n + 1 = 0) by omega, ih3 n]
    split
    · simp only [Option.map_some]; congr 1; omega
    · rw [map_add, map_add, map_add, show j - k + (k - m + (m - (i + 1) + 1)) = j - i by omega]
theorem endM_le : ∀ {l : List NodeD} {n m : Nat}, endM l n = some m → m ≤ l.length ∧ 1 ≤ m ∧ n ≤ m
  | [], _, _, h => by cases h
  | x :: r, n, m, h => by
    rw [endM] at h
    split at h
    · cases h
    · split at h
      · injection h with h; simp; omega
      · rcases he : endM r (n + (arityM x.op).toNat - 1) with _ | k
        · rw [he] at h; cases h
        · rw [he] at h; simp only [Option.map_some, Option.some.injEq] at h
          have := endM_le he
          simp only [List.length_cons]; omega
set_option maxRecDepth 100000 in
set_option maxHeartbeats 2000000 in
theorem rend_any (x : L NodeD) (i j : Nat) (w : World) (h : LOk w 3 NodeD.cells x) (hi : i < x.l.length) (he : endM (x.l.drop i) 1 = some (j - i)) (hj : i ≤ j) :
    Calls Tryz.prog 47 #[.slice x.A x.l.length x.c, .int .i64 i] w fun e w' => e = .returned (.int .i64 j) ∧ w = w' := by
  have HX := Lib.hid h
  have hm := h.1
  unfold maxLen at hm
  have HE := Lib.hid he
  have hii : (i : Int) < (x.l.length : Int) := by omega
  have hd1 : decide ((x.l.length : Int) ≤ (i : Int)) = false := decide_eq_false (by omega)
  have hd2 : decide (x.l.length ≤ i) = false := decide_eq_false (by omega)
  clear h he
  go_enter Tryz.func47, Tryz.ntmps47
  go_wp2
  go_loopw [5, 6, 7] (fun nv iv _ wr => w = wr ∧ ∃ k n : Nat, k ≤ x.l.length ∧ iv = .int .i64 k ∧ nv = .int .i64 n ∧ 1 ≤ n ∧ n ≤ x.l.length ∧ Hid (∃ q, endM (x.l.drop k) n = some q ∧ k + q = j)) (fun _ i _ _ => x.l.length - (intOf i).toNat)
  case atStart => exact ⟨rfl, i, 1, by omega, rfl, rfl, Nat.le_refl _, by omega, Lib.hid ⟨_, HE.out, by omega⟩⟩
  case round =>
  obtain ⟨rfl, k, n, hk, rfl, rfl, hn, hn2, HQ⟩ := hrel
  have hlt : k < x.l.length := by
    obtain ⟨q, hq, _⟩ := HQ.out
    have := endM_le hq
    rw [List.length_drop] at this
    omega
  have hki : (k : Int) < (x.l.length : Int) := by omega
  obtain ⟨q, hq, hqj⟩ := HQ.out
  rw [endM_step (List.getElem?_eq_getElem hlt)] at hq
  obtain ⟨g, of, hA, hall⟩ := NodeD.atA HX.out hlt
  obtain ⟨d0, d1, d2⟩ := hall w (Below.refl _ _)
  simp only [hA]
  generalize x.l[k] = y at *
  have ha := arityM_cases y.op
  have hnn : ¬ arityM y.op < 0 := fun h => by rw [if_pos h] at hq; cases hq
  rw [if_neg hnn] at hq
  have HQ2 := Lib.hid hq
  have HQJ := Lib.hid hqj
  have HRA := Lib.hid (rarity_any y.op)
  clear hq hqj HQ hall
  generalize arityM y.op = a at *
  obtain ⟨b, rfl⟩ : ∃ b : Nat, a = b := ⟨a.toNat, (Int.toNat_of_nonneg (by omega)).symm⟩
  have hb3 : b ≤ 3 := by omega
  clear ha hnn
  go_wp2_with fail
  refine (HRA.out _).mono ?_
  rintro e w' ⟨rfl, rfl⟩
  by_cases hs : n + b = 1
  · have hq : q = 1 := by have := HQ2.out; rw [Int.toNat_natCast, if_pos hs] at this; injection this with this; exact this.symm
    have hkj := HQJ.out
    have t1 : ((n : Int) + ((b : Int) - 1) == 0) = true := beq_iff_eq.2 (by omega)
    have t2 : (((n + b - 1 : Nat) : Int) == 0) = true := beq_iff_eq.2 (by omega)
    go_wp2
    go_ret
    exact ⟨congrArg (fun z => Ending.returned (.int .i64 z)) (by omega), rfl⟩
  · have hq : ∃ r, endM (x.l.drop (k + 1)) (n + b - 1) = some r ∧ q = r + 1 := by
      have := HQ2.out
      rw [Int.toNat_natCast, if_neg hs] at this
      rcases he : endM (x.l.drop (k + 1)) (n + b - 1) with _ | r
      · rw [he] at this; cases this
      · rw [he] at this; simp only [Option.map_some, Option.some.injEq] at this; exact ⟨r, rfl, this.symm⟩
    obtain ⟨r, hr, hqr⟩ := hq
    have hle := endM_le hr
    rw [List.length_drop] at hle
    have hkj := HQJ.out
    have HN : Hid (∃ q, endM (x.l.drop (k + 1)) (n + b - 1) = some q ∧ k + 1 + q = j) := Lib.hid ⟨r, hr, by omega⟩
    clear hr
    have t1 : ((n : Int) + ((b : Int) - 1) == 0) = false := beq_eq_false_iff_ne.2 (by omega)
    go_wp2
    go_roundw
    case rel => exact ⟨trivial, k + 1, n + b - 1, by omega, by go_num, by go_num, by omega, by omega, HN⟩
    case measure => simp [intOf]; omega
end Go.Proofs.YtpomjcndeanjgaaGreatDoor
namespace Go.Proofs.YtpomjcndeanjgaaGreatDoor
open Go.RowKit
theorem ret_bT {a b : Bool} (h : a = b) : Ending.returned (.bool b) = .returned (.bool a) := by rw [h]
set_option maxHeartbeats 1000000 in
theorem rprim_any (op : Int) (w : World) (h : 1 ≤ op ∧ op ≤ 17) : Calls Tryz.prog 85 #[.int .i64 op] w fun e w' => e = .returned (.bool (decide (op ≤ 4))) ∧ w = w' := by
  by_cases h4 : op ≤ 4
  · have HR : Hid (decide (op ≤ 4) = true) := Lib.hid (decide_eq_true h4)
    rw [HR.out]
    have hc : op = 1 ∨ op = 2 ∨ op = 3 ∨ op = 4 := by omega
    clear HR
    rcases hc with rfl | rfl | rfl | rfl
    all_goals
      go_enter Tryz.func85, Tryz.ntmps85
      go_wp2
      go_ret
      exact ⟨rfl, rfl⟩
  · have HR : Hid (decide (op ≤ 4) = false) := Lib.hid (decide_eq_false h4)
    rw [HR.out]
    have t1 : (op == 1) = false := beq_eq_false_iff_ne.2 (by omega)
    have t2 : (op == 2) = false := beq_eq_false_iff_ne.2 (by omega)
    have t3 : (op == 3) = false := beq_eq_false_iff_ne.2 (by omega)
    have t4 : (op == 4) = false := beq_eq_false_iff_ne.2 (by omega)
    clear HR h4 h
    go_enter Tryz.func85, Tryz.ntmps85
    go_wp2
    go_ret
    exact ⟨rfl, rfl⟩
set_option maxRecDepth 100000 in
set_option maxHeartbeats 4000000 in
theorem rright_any (p : ProgD) (ps : L FieldD) (h : Int) (w : World) (o : ProgOk w p) (nm : Names p ps.l) (hh : h = -1 ∨ (0 ≤ h ∧ h.toNat < p.headers.l.length)) :
    Calls Tryz.prog 41 #[.agg (scopeCells p ps), .int .i64 h] w fun e w' => e = .returned (.bool (rightH p h)) ∧ Below w.heap.size w w' := by
  obtain ⟨W, hW, hw, HB, hp⟩ := box1 w (scopeCells p ps) 44
  have HW := Lib.hid hw
  have HH := Lib.hid (fun u (hb : Below W.heap.size W u) => rheader_any p ps h u (o.below (below_step hw hb)) hh)
  have HF := Lib.hid (fun u (hb : Below W.heap.size W u) => rfindHeader_any p ps (hdrB p h) u (o.below (below_step hw hb)))
  have hsz : (hdrB p h).size ≤ 1000 := by
    rcases hh with rfl | ⟨h0, h1⟩
    · exact (by decide : metaName.size ≤ 1000)
    · obtain ⟨k, rfl⟩ : ∃ k : Nat, h = k := ⟨h.toNat, (Int.toNat_of_nonneg h0).symm⟩
      have hk : k < p.headers.l.length := by simpa using h1
      rw [(hdr_at' p hk).1]; exact nm.hdr _ (List.getElem_mem hk)
  have HI := Lib.hid (fun u => risIdent_any (hdrB p h) u (by unfold maxLen; omega))
  have HR : Hid (rightH p h = (decide (h < 0) || (decide (hdrB p h ≠ metaName) && (ident (hdrB p h) && decide (Lib.idxOfS (hNames p) (hdrB p h) = h))))) := Lib.hid rfl
  generalize rightH p h = R at *
  by_cases hn : h < 0
  · have t1 : decide (h < 0) = true := decide_eq_true hn
    have HRR : Hid (R = true) := Lib.hid (by rw [HR.out, t1]; rfl)
    clear HR hn
    go_enter Tryz.func41, Tryz.ntmps41
    go_upto_region 1 with fail
    rw [← hW]
    clear hW
    go_wp2_with fail
    refine (HH.out _ (by first | exact HB | exact below_alloc HB _ | exact below_alloc (below_alloc HB _) _ | exact below_alloc (below_alloc (below_alloc HB _) _) _)).mono ?_
    rintro e w1 ⟨rfl, hbN⟩
    replace HB := below_step (by first | exact HB | exact below_alloc HB _ | exact below_alloc (below_alloc HB _) _ | exact below_alloc (below_alloc (below_alloc HB _) _) _) hbN
    clear hbN
    go_wp2
    go_ret
    exact ⟨ret_bT HRR.out, below_step HW.out HB⟩
  have t1 : decide (h < 0) = false := decide_eq_false hn
  rcases hi : ident (hdrB p h) with _ | _
  · have HRR : Hid (R = false) := Lib.hid (by rw [HR.out, t1, hi]; simp)
    have HI2 := Lib.hid (fun u => show Calls Tryz.prog 42 #[.string (hdrB p h)] u fun e w' => e = .returned (.bool false) ∧ u = w' from by rw [← hi]; exact HI.out u)
    clear HR hn HI hi
    go_enter Tryz.func41, Tryz.ntmps41
    go_upto_region 1 with fail
    rw [← hW]
    clear hW
    go_wp2_with fail
    refine (HH.out _ (by first | exact HB | exact below_alloc HB _ | exact below_alloc (below_alloc HB _) _ | exact below_alloc (below_alloc (below_alloc HB _) _) _)).mono ?_
    rintro e w1 ⟨rfl, hbN⟩
    replace HB := below_step (by first | exact HB | exact below_alloc HB _ | exact below_alloc (below_alloc HB _) _ | exact below_alloc (below_alloc (below_alloc HB _) _) _) hbN
    clear hbN
    go_wp2_with fail
    refine (HI2.out _).mono ?_
    rintro e w' ⟨rfl, rfl⟩
    go_wp2
    go_ret
    exact ⟨ret_bT HRR.out, below_step HW.out HB⟩
  have HI2 := Lib.hid (fun u => show Calls Tryz.prog 42 #[.string (hdrB p h)] u fun e w' => e = .returned (.bool true) ∧ u = w' from by rw [← hi]; exact HI.out u)
  by_cases hm : hdrB p h = metaName
  · have hmb : ((hdrB p h).toList == [109, 101, 116, 97]) = true := by rw [← meta_list]; exact toList_true hm
    have hmc : ((hdrB p h).toList != [109, 101, 116, 97]) = false := by rw [bne, hmb]; rfl
    have HRR : Hid (R = false) := Lib.hid (by rw [HR.out, t1, hm]; simp)
    clear HR hn HI hi hm
    go_enter Tryz.func41, Tryz.ntmps41
    go_upto_region 1 with fail
    rw [← hW]
    clear hW
    go_wp2_with fail
    refine (HH.out _ (by first | exact HB | exact below_alloc HB _ | exact below_alloc (below_alloc HB _) _ | exact below_alloc (below_alloc (below_alloc HB _) _) _)).mono ?_
    rintro e w1 ⟨rfl, hbN⟩
    replace HB := below_step (by first | exact HB | exact below_alloc HB _ | exact below_alloc (below_alloc HB _) _ | exact below_alloc (below_alloc (below_alloc HB _) _) _) hbN
    clear hbN
    go_wp2_with fail
    refine (HI2.out _).mono ?_
    rintro e w' ⟨rfl, rfl⟩
    go_wp2
    go_ret
    exact ⟨ret_bT HRR.out, below_step HW.out HB⟩
  · have hmb : ((hdrB p h).toList == [109, 101, 116, 97]) = false := by rw [← meta_list]; exact toList_false hm
    have hmc : ((hdrB p h).toList != [109, 101, 116, 97]) = true := by rw [bne, hmb]; rfl
    have HRR : Hid (R = (Lib.idxOfS (hNames p) (hdrB p h) == h)) := Lib.hid (by rw [HR.out, t1, hi, decide_eq_true hm]; simp only [Bool.false_or, Bool.true_and]; rfl)
    clear HR hn HI hi hm
    have hp1 := fun u (hb : Below W.heap.size W u) => hp u hb
    go_enter Tryz.func41, Tryz.ntmps41
    go_upto_region 1 with fail
    rw [← hW]
    clear hW
    go_wp2_with fail
    refine (HH.out _ (by first | exact HB | exact below_alloc HB _ | exact below_alloc (below_alloc HB _) _ | exact below_alloc (below_alloc (below_alloc HB _) _) _)).mono ?_
    rintro e w1 ⟨rfl, hbN⟩
    replace HB := below_step (by first | exact HB | exact below_alloc HB _ | exact below_alloc (below_alloc HB _) _ | exact below_alloc (below_alloc (below_alloc HB _) _) _) hbN
    clear hbN
    go_wp2_with fail
    refine (HI2.out _).mono ?_
    rintro e w' ⟨rfl, rfl⟩
    have hp2 := hp _ HB
    go_wp2_with fail
    refine (HF.out _ (by first | exact HB | exact below_alloc HB _ | exact below_alloc (below_alloc HB _) _ | exact below_alloc (below_alloc (below_alloc HB _) _) _)).mono ?_
    rintro e w2 ⟨rfl, hbN⟩
    replace HB := below_step (by first | exact HB | exact below_alloc HB _ | exact below_alloc (below_alloc HB _) _ | exact below_alloc (below_alloc (below_alloc HB _) _) _) hbN
    clear hbN
    go_wp2
    go_ret
    exact ⟨ret_bT HRR.out, below_step HW.out HB⟩
end Go.Proofs.YtpomjcndeanjgaaGreatDoor
namespace Go.Proofs.YtpomjcndeanjgaaGreatDoor
open Go.RowKit
def TxtC (W : World) (x : L NodeD) (p : ProgD) (ps : L FieldD) (i : Nat) (s : ByteArray) : Prop := ∀ (w : World), Below W.heap.size W w →
  Calls Tryz.prog 23 #[.slice x.A x.l.length x.c, .int .i64 i, .agg (scopeCells p ps)] w fun e w' => e = .returned (.string s) ∧ Below w.heap.size w w'
def ROpdC (W : World) (x : L NodeD) (p : ProgD) (ps : L FieldD) (i : Nat) (s : ByteArray) : Prop := ∀ (w : World), Below W.heap.size W w →
  Calls Tryz.prog 46 #[.slice x.A x.l.length x.c, .int .i64 i, .agg (scopeCells p ps)] w fun e w' => e = .returned (.string s) ∧ Below w.heap.size w w'
theorem ret_s {s t : ByteArray} (h : s = t) : Ending.returned (.string s) = .returned (.string t) := by rw [h]
set_option maxRecDepth 100000 in
set_option maxHeartbeats 4000000 in
theorem ropd_of_text {W : World} {x : L NodeD} {p : ProgD} {ps : L FieldD} {i : Nat} {s : ByteArray} {y : NodeD} (E : WEnv W x p ps) (hy : x.l[i]? = some y) (hop : 1 ≤ y.op ∧ y.op ≤ 17) (hs : s.size ≤ 1000000) (H : TxtC W x p ps i s) :
    ROpdC W x p ps i (opdB y s) := by
  intro w hb
  have hi : i < x.l.length := (List.getElem?_eq_some_iff.1 hy).1
  obtain ⟨g, of, hA, hq⟩ := NodeD.atA E.nodes hi
  have hye : x.l[i] = y := by rw [List.getElem?_eq_getElem hi] at hy; injection hy
  rw [hye] at hq
  have HQ := Lib.hid hq
  have HC := Lib.hid H
  obtain ⟨V, hV, hw, HB, hp⟩ := box1 w (scopeCells p ps) 44
  have HW := Lib.hid hw
  have H0 := Lib.hid (below_step hb hw)
  have hii : (i : Int) < (x.l.length : Int) := by omega
  have HO : Hid (opdB y s = if y.op ≤ 4 then s else ⟨#[40]⟩ ++ s ++ ⟨#[41]⟩) := Lib.hid rfl
  have HP := Lib.hid (rprim_any y.op)
  generalize opdB y s = R at *
  have HAA := Lib.hid hA
  clear hb hy H hq E hye hA hw
  go_enter Tryz.func46, Tryz.ntmps46
  go_upto_region 1 with fail
  rw [← hV]
  clear hV
  go_wp2_with fail
  refine (HC.out _ H0.out).mono ?_
  rintro e w1 ⟨rfl, hb1⟩
  have HB1 := Lib.hid hb1
  have d0 := (HQ.out w1 (below_step H0.out hb1)).1
  simp only [HAA.out]
  clear hb1 HC
  have z1 : ¬ (⟨#[40]⟩ : ByteArray).size + s.size > 9223372036854775807 := by have : (⟨#[40]⟩ : ByteArray).size = 1 := rfl; omega
  have z2 : ¬ 1 + s.size > 9223372036854775807 := by omega
  have z3 : ¬ 1 + s.size + 1 > 9223372036854775807 := by omega
  by_cases h4 : y.op ≤ 4
  · have HR : Hid (R = s) := Lib.hid (by rw [HO.out, if_pos h4])
    have HP2 := Lib.hid (fun u => show Calls Tryz.prog 85 #[.int .i64 y.op] u fun e w' => e = .returned (.bool true) ∧ u = w' from by have := HP.out u hop; rwa [decide_eq_true h4] at this)
    clear h4 hop HP
    go_wp2_with fail
    refine (HP2.out _).mono ?_
    rintro e w' ⟨rfl, rfl⟩
    go_wp2
    go_ret
    exact ⟨ret_s HR.out.symm, below_step HW.out HB1.out⟩
  · have HR : Hid (R = ⟨#[40]⟩ ++ s ++ ⟨#[41]⟩) := Lib.hid (by rw [HO.out, if_neg h4])
    have HP2 := Lib.hid (fun u => show Calls Tryz.prog 85 #[.int .i64 y.op] u fun e w' => e = .returned (.bool false) ∧ u = w' from by have := HP.out u hop; rwa [decide_eq_false h4] at this)
    clear h4 hop HP
    go_wp2_with fail
    refine (HP2.out _).mono ?_
    rintro e w' ⟨rfl, rfl⟩
    go_wp2
    go_ret
    exact ⟨ret_s HR.out.symm, below_step HW.out HB1.out⟩
set_option maxRecDepth 100000 in
set_option maxHeartbeats 8000000 in
theorem rtext_leaf {W : World} {x : L NodeD} {p : ProgD} {ps : L FieldD} {i : Nat} {y0 : NodeD} (E : WEnv W x p ps) (h : x.l[i]? = some y0) (ha : arityM y0.op = 0) (hk : NodeOk p ps.l y0) :
    TxtC W x p ps i (primB p ps.l y0) := by
  intro w hb
  have hi : i < x.l.length := (List.getElem?_eq_some_iff.1 h).1
  obtain ⟨g, of, hA, hq⟩ := NodeD.atA E.nodes hi
  have hye : x.l[i] = y0 := by rw [List.getElem?_eq_getElem hi] at h; injection h
  rw [hye] at hq
  obtain ⟨op, n, wd⟩ := y0
  simp only at hq ha hk
  obtain ⟨V0, hV0, hw0, HB0, hp0⟩ := box1 w (scopeCells p ps) 44
  obtain ⟨d0, d1, d2⟩ := hq V0 (below_step hb hw0)
  obtain ⟨V, hV⟩ : ∃ V, V = V0.alloc (.cells #[.int .i64 op, .int .i64 n, .int .i64 wd] 65) := ⟨_, rfl⟩
  have HV : Hid (Blk V V0.heap.size 65 #[.int .i64 op, .int .i64 n, .int .i64 wd]) := Lib.hid (by rw [hV]; exact Blk.new _ _ _)
  have h0V : Below V0.heap.size V0 V := by rw [hV]; exact below1 _ _
  have HwV : Hid (Below w.heap.size w V) := Lib.hid (below_step hw0 h0V)
  have HBV : Hid (Below W.heap.size W V) := Lib.hid (below_step hb HwV.out)
  have hps := hp0 V h0V
  have hps2 : ∀ u, Below V.heap.size V u → _ := fun u hu => hp0 u (below_step h0V hu)
  have hbk : ∀ u, Below V.heap.size V u → Blk u V0.heap.size 65 #[.int .i64 op, .int .i64 n, .int .i64 wd] := fun u hu => HV.out.below hu HV.out.lt
  have hb0 : ∀ u, Below V.heap.size V u → u.cell? ⟨V0.heap.size, 0, none⟩ = some (.int .i64 op) := fun u hu => (hbk u hu).cell 0
  have hb1 : ∀ u, Below V.heap.size V u → u.cell? ⟨V0.heap.size, 1, none⟩ = some (.int .i64 n) := fun u hu => (hbk u hu).cell 1
  have hb2 : ∀ u, Below V.heap.size V u → u.cell? ⟨V0.heap.size, 2, none⟩ = some (.int .i64 wd) := fun u hu => (hbk u hu).cell 2
  have b0 := hb0 V (Below.refl _ _)
  have b1 := hb1 V (Below.refl _ _)
  have b2 := hb2 V (Below.refl _ _)
  have hii : (i : Int) < (x.l.length : Int) := by omega
  have hmi := E.nodes.1
  unfold maxLen at hmi
  have H0 := Lib.hid (Below.refl V.heap.size V)
  have HE := Lib.hid E
  have HAA := Lib.hid hA
  clear hA
  rcases arity0 ha with rfl | rfl | rfl | rfl
  · obtain ⟨⟨n0, n1⟩, w0, w1⟩ : (0 ≤ n ∧ n ≤ 4294967295) ∧ 1 ≤ wd ∧ wd ≤ 32 := hk.c1 rfl
    have HR : Hid (primB p ps.l ⟨1, n, wd⟩ = decB n ++ ⟨#[58]⟩ ++ decB wd) := Lib.hid rfl
    rw [HR.out]
    have q1 := dec_size n
    have q2 := dec_size wd
    have z0 : (⟨#[58]⟩ : ByteArray).size = 1 := rfl
    have z1 : ¬ (decB n).size + 1 > 9223372036854775807 := by omega
    have z2 : ¬ (decB n).size + 1 + (decB wd).size > 9223372036854775807 := by omega
    clear hk h ha E HR
    clear hp0 hbk h0V hw0 HB0 hq hb hye hi
    go_enter Tryz.func23, Tryz.ntmps23
    go_upto_region 1 with fail
    rw [← hV0]
    clear hV0
    simp only [HAA.out]
    go_upto_region 2 with fail
    rw [← hV]
    clear hV d0 d1 d2
    go_upto_region 4 with fail
    clear b0 b1 b2 hps
    go_region_held3 (fun w' => Below V.heap.size V w') (first | exact H0.out | exact below_drew H0.out | (exact below_step (by assumption) (by assumption)) | assumption)
      (first
      | (go_at_call 44; refine (rdec_any _ (by omega) (by omega) _).mono ?_; rintro r w5 ⟨rfl, hb5⟩))
    all_goals
      have HB5 : Hid (Below V.heap.size V _) := Lib.hid (by assumption)
      go_wp2
      go_ret
      exact ⟨rfl, below_step HwV.out HB5.out⟩
  · obtain ⟨hn, w0, w1⟩ : (n = -1 ∨ (0 ≤ n ∧ n.toNat < p.headers.l.length)) ∧ 0 ≤ wd ∧ wd.toNat < (fldsL p n).l.length := hk.c2 rfl
    obtain ⟨f, rfl⟩ : ∃ f : Nat, wd = f := ⟨wd.toNat, (Int.toNat_of_nonneg w0).symm⟩
    have hf : f < (fldsL p n).l.length := by simpa using w1
    have hfi : (f : Int) < ((fldsL p n).l.length : Int) := by omega
    have hF : LOk W 2 FieldD.cells (fldsL p n) ∧ ∀ z ∈ (fldsL p n).l, z.name.size ≤ 1000 := by
      rcases hn with rfl | ⟨h0, h1⟩
      · exact ⟨E.prog.metadata, E.nm.met⟩
      · obtain ⟨k, rfl⟩ : ∃ k : Nat, n = k := ⟨n.toNat, (Int.toNat_of_nonneg h0).symm⟩
        have hk1 : k < p.headers.l.length := by simpa using h1
        rw [(hdr_at' p hk1).2]
        exact ⟨(E.prog.hdr _ (List.getElem_mem hk1)).fields, E.nm.fld _ (List.getElem_mem hk1)⟩
    have hhs : (hdrB p n).size ≤ 1000 := by
      rcases hn with rfl | ⟨h0, h1⟩
      · exact (by decide : metaName.size ≤ 1000)
      · obtain ⟨k, rfl⟩ : ∃ k : Nat, n = k := ⟨n.toNat, (Int.toNat_of_nonneg h0).symm⟩
        have hk1 : k < p.headers.l.length := by simpa using h1
        rw [(hdr_at' p hk1).1]; exact E.nm.hdr _ (List.getElem_mem hk1)
    have HH := Lib.hid (fun u (hb : Below V.heap.size V u) => rheader_any p ps n u (E.prog.below (below_step HBV.out hb)) hn)
    have HF := Lib.hid (fun u (hb : Below V.heap.size V u) => rfields_any p ps n u (E.prog.below (below_step HBV.out hb)) hn)
    have HR : Hid (primB p ps.l ⟨2, n, f⟩ = hdrB p n ++ ⟨#[46]⟩ ++ (fldsL p n).l[f].name) := Lib.hid (by rw [← fld_at' hf]; rfl)
    rw [HR.out]
    have hfs := hF.2 _ (List.getElem_mem hf)
    obtain ⟨gf, og, hAf, hallf⟩ := FieldD.atA hF.1 hf
    have hdf : ∀ u, Below V.heap.size V u → _ := fun u hu => (hallf u (below_step HBV.out hu)).1
    clear hF hn hallf
    generalize fldsL p n = F at *
    simp only [hAf] at HF
    generalize F.l[f].name = nm at *
    generalize hdrB p n = hd at *
    generalize F.l.length = fl at *
    generalize F.c = fc at *
    clear hAf
    have z0 : (⟨#[46]⟩ : ByteArray).size = 1 := rfl
    have z1 : ¬ hd.size + (⟨#[46]⟩ : ByteArray).size > 9223372036854775807 := by omega
    have z2 : ¬ hd.size + 1 > 9223372036854775807 := by omega
    have z3 : ¬ (hd ++ ⟨#[46]⟩).size + nm.size > 9223372036854775807 := by simp only [ByteArray.size_append]; omega
    have z4 : ¬ hd.size + 1 + nm.size > 9223372036854775807 := by omega
    clear hk h ha E HR
    clear hp0 hbk h0V hw0 HB0 hq hb hye hi
    go_enter Tryz.func23, Tryz.ntmps23
    go_upto_region 1 with fail
    rw [← hV0]
    clear hV0
    simp only [HAA.out]
    go_upto_region 2 with fail
    rw [← hV]
    clear hV d0 d1 d2
    go_upto_region 6 with fail
    clear b0 b1 b2 hps
    go_region_held3 (fun w' => Below V.heap.size V w') (first | exact H0.out | exact below_drew H0.out | (exact below_step (by assumption) (by assumption)) | assumption)
      (first
      | (go_at_call 45; refine (HH.out _ (by assumption)).mono ?_; rintro r w5 ⟨rfl, hb5⟩)
      | (go_at_call 40; refine (HF.out _ (by assumption)).mono ?_; rintro r w6 ⟨rfl, hb6⟩))
    all_goals
      have HB5 : Hid (Below V.heap.size V _) := Lib.hid (by assumption)
      go_wp2
      go_ret
      exact ⟨rfl, below_step HwV.out HB5.out⟩
  · obtain ⟨n0, n1⟩ : 0 ≤ n ∧ n.toNat < ps.l.length := hk.c3 rfl
    obtain ⟨k, rfl⟩ : ∃ k : Nat, n = k := ⟨n.toNat, (Int.toNat_of_nonneg n0).symm⟩
    have hk1 : k < ps.l.length := by simpa using n1
    have hki : (k : Int) < (ps.l.length : Int) := by omega
    obtain ⟨gp, og, hAp, hallp⟩ := FieldD.atA E.pars hk1
    have hdp := (hallp V HBV.out).1
    have hns := E.nm.par _ (List.getElem_mem hk1)
    have HR : Hid (primB p ps.l ⟨3, k, wd⟩ = ⟨#[64]⟩ ++ ps.l[k].name) := Lib.hid (by rw [← fld_at' hk1]; rfl)
    rw [HR.out]
    clear hk h ha E HR hallp
    generalize ps.l[k].name = nm at *
    have z0 : (⟨#[64]⟩ : ByteArray).size = 1 := rfl
    have z1 : ¬ (⟨#[64]⟩ : ByteArray).size + nm.size > 9223372036854775807 := by omega
    have z2 : ¬ 1 + nm.size > 9223372036854775807 := by omega
    clear hp0 hbk h0V hw0 HB0 hq hb hye hi
    go_enter Tryz.func23, Tryz.ntmps23
    go_upto_region 1 with fail
    rw [← hV0]
    clear hV0
    simp only [HAA.out]
    go_upto_region 2 with fail
    rw [← hV]
    clear hV d0 d1 d2
    simp only [scopeCells, hAp] at hps ⊢
    clear hps2 hb0 hb1 hb2 hAp
    go_wp2
    go_ret
    exact ⟨rfl, HwV.out⟩
  · obtain ⟨n0, n1⟩ : 0 ≤ n ∧ n.toNat < p.headers.l.length := hk.c4 rfl
    have hhs : (hdrB p n).size ≤ 1000 := by
      obtain ⟨k, rfl⟩ : ∃ k : Nat, n = k := ⟨n.toNat, (Int.toNat_of_nonneg n0).symm⟩
      have hk1 : k < p.headers.l.length := by simpa using n1
      rw [(hdr_at' p hk1).1]; exact E.nm.hdr _ (List.getElem_mem hk1)
    have HH := Lib.hid (fun u (hb : Below V.heap.size V u) => rheader_any p ps n u (E.prog.below (below_step HBV.out hb)) (.inr ⟨n0, n1⟩))
    have HR : Hid (primB p ps.l ⟨4, n, wd⟩ = ⟨#[118, 97, 108, 105, 100, 40]⟩ ++ hdrB p n ++ ⟨#[41]⟩) := Lib.hid rfl
    rw [HR.out]
    generalize hdrB p n = hd at *
    have z0 : (⟨#[118, 97, 108, 105, 100, 40]⟩ : ByteArray).size = 6 := rfl
    have z1 : ¬ (⟨#[118, 97, 108, 105, 100, 40]⟩ : ByteArray).size + hd.size > 9223372036854775807 := by omega
    have z2 : ¬ 6 + hd.size > 9223372036854775807 := by omega
    have z3 : ¬ 6 + hd.size + 1 > 9223372036854775807 := by omega
    clear hk h ha E HR
    clear hp0 hbk h0V hw0 HB0 hq hb hye hi
    go_enter Tryz.func23, Tryz.ntmps23
    go_upto_region 1 with fail
    rw [← hV0]
    clear hV0
    simp only [HAA.out]
    go_upto_region 2 with fail
    rw [← hV]
    clear hV d0 d1 d2
    clear hps2 hb0 hb1 hb2
    go_wp2_with fail
    refine (HH.out _ H0.out).mono ?_
    rintro e w1 ⟨rfl, hB1⟩
    have HB1 := Lib.hid hB1
    clear hB1
    go_wp2
    go_ret
    exact ⟨rfl, below_step HwV.out HB1.out⟩
end Go.Proofs.YtpomjcndeanjgaaGreatDoor
namespace Go.Proofs.YtpomjcndeanjgaaGreatDoor
open Go.RowKit
set_option maxRecDepth 100000 in
set_option maxHeartbeats 8000000 in
theorem rtext_un {W : World} {x : L NodeD} {p : ProgD} {ps : L FieldD} {i : Nat} {y0 : NodeD} {a : ByteArray} (E : WEnv W x p ps) (h : x.l[i]? = some y0) (ha : arityM y0.op = 1) (hk : NodeOk p ps.l y0) (hs : a.size ≤ 1000000)
    (H1 : ROpdC W x p ps (i + 1) a) : TxtC W x p ps i (unB y0 a) := by
  intro w hb
  have hi : i < x.l.length := (List.getElem?_eq_some_iff.1 h).1
  obtain ⟨g, of, hA, hq⟩ := NodeD.atA E.nodes hi
  have hye : x.l[i] = y0 := by rw [List.getElem?_eq_getElem hi] at h; injection h
  rw [hye] at hq
  obtain ⟨op, n, wd⟩ := y0
  simp only at hq ha hk
  obtain ⟨V0, hV0, hw0, HB0, hp0⟩ := box1 w (scopeCells p ps) 44
  obtain ⟨d0, d1, d2⟩ := hq V0 (below_step hb hw0)
  obtain ⟨V, hV⟩ : ∃ V, V = V0.alloc (.cells #[.int .i64 op, .int .i64 n, .int .i64 wd] 65) := ⟨_, rfl⟩
  have HV : Hid (Blk V V0.heap.size 65 #[.int .i64 op, .int .i64 n, .int .i64 wd]) := Lib.hid (by rw [hV]; exact Blk.new _ _ _)
  have h0V : Below V0.heap.size V0 V := by rw [hV]; exact below1 _ _
  have HwV : Hid (Below w.heap.size w V) := Lib.hid (below_step hw0 h0V)
  have HBV : Hid (Below W.heap.size W V) := Lib.hid (below_step hb HwV.out)
  have hps := hp0 V h0V
  have hps2 : ∀ u, Below V.heap.size V u → _ := fun u hu => hp0 u (below_step h0V hu)
  have hbk : ∀ u, Below V.heap.size V u → Blk u V0.heap.size 65 #[.int .i64 op, .int .i64 n, .int .i64 wd] := fun u hu => HV.out.below hu HV.out.lt
  have hb0 : ∀ u, Below V.heap.size V u → u.cell? ⟨V0.heap.size, 0, none⟩ = some (.int .i64 op) := fun u hu => (hbk u hu).cell 0
  have hb1 : ∀ u, Below V.heap.size V u → u.cell? ⟨V0.heap.size, 1, none⟩ = some (.int .i64 n) := fun u hu => (hbk u hu).cell 1
  have hb2 : ∀ u, Below V.heap.size V u → u.cell? ⟨V0.heap.size, 2, none⟩ = some (.int .i64 wd) := fun u hu => (hbk u hu).cell 2
  have b0 := hb0 V (Below.refl _ _)
  have b1 := hb1 V (Below.refl _ _)
  have b2 := hb2 V (Below.refl _ _)
  have hii : (i : Int) < (x.l.length : Int) := by omega
  have hmi := E.nodes.1
  unfold maxLen at hmi
  have H0 := Lib.hid (Below.refl V.heap.size V)
  have hwr : IntKind.i64.wrap ((i : Int) + 1) = ((i + 1 : Nat) : Int) := by rw [IntWalk.i64_in _ (by omega)]; rfl
  have HC := Lib.hid (fun u (hb : Below V.heap.size V u) => show Calls Tryz.prog 46 #[.slice x.A x.l.length x.c, .int .i64 (IntKind.i64.wrap ((i : Int) + 1)), .agg (scopeCells p ps)] u fun e w' => e = .returned (.string a) ∧ Below u.heap.size u w' from by rw [hwr]; exact H1 u (below_step HBV.out hb))
  have HC0 := Lib.hid (fun u (hb : Below V.heap.size V u) => show Calls Tryz.prog 46 #[.slice x.A x.l.length x.c, .int .i64 ((i : Int) + 1), .agg (scopeCells p ps)] u fun e w' => e = .returned (.string a) ∧ Below u.heap.size u w' from by exact H1 u (below_step HBV.out hb))
  clear hwr
  have HAA := Lib.hid hA
  simp only [hA] at HC HC0
  clear hA
  have q1 := dec_size n
  have q2 := dec_size wd
  have z01 : (⟨#[126]⟩ : ByteArray).size = 1 := rfl
  have z02 : (⟨#[32, 60, 60, 32]⟩ : ByteArray).size = 4 := rfl
  have z03 : (⟨#[32, 62, 62, 32]⟩ : ByteArray).size = 4 := rfl
  have z04 : (⟨#[91]⟩ : ByteArray).size = 1 := rfl
  have z05 : (⟨#[43]⟩ : ByteArray).size = 1 := rfl
  have z06 : (⟨#[93]⟩ : ByteArray).size = 1 := rfl
  have z1 : ¬ (⟨#[126]⟩ : ByteArray).size + a.size > 9223372036854775807 := by omega
  have z2 : ¬ 1 + a.size > 9223372036854775807 := by omega
  have z3 : ¬ a.size + 4 > 9223372036854775807 := by omega
  have z4 : ¬ a.size + 4 + (decB n).size > 9223372036854775807 := by omega
  have z5 : ¬ a.size + 1 > 9223372036854775807 := by omega
  have z6 : ¬ a.size + 1 + (decB n).size > 9223372036854775807 := by omega
  have z7 : ¬ a.size + 1 + (decB n).size + 1 > 9223372036854775807 := by omega
  have z8 : ¬ a.size + 1 + (decB n).size + 1 + (decB wd).size > 9223372036854775807 := by omega
  have z9 : ¬ a.size + 1 + (decB n).size + 1 + (decB wd).size + 1 > 9223372036854775807 := by omega
  rcases arity1 ha with rfl | rfl | rfl | rfl
  · have HR : Hid (unB ⟨5, n, wd⟩ a = ⟨#[126]⟩ ++ a) := Lib.hid rfl
    rw [HR.out]
    clear hk h ha E HR HC H1
    clear hp0 hbk h0V hw0 HB0 hq hb hye hi
    go_enter Tryz.func23, Tryz.ntmps23
    go_upto_region 1 with fail
    rw [← hV0]
    clear hV0
    simp only [HAA.out]
    go_upto_region 2 with fail
    rw [← hV]
    clear hV d0 d1 d2
    clear hps2 hb0 hb1 hb2
    go_wp2_with fail
    refine (HC0.out _ H0.out).mono ?_
    rintro e w1 ⟨rfl, hB1⟩
    have HB1 := Lib.hid hB1
    clear hB1
    go_wp2
    go_ret
    exact ⟨rfl, below_step HwV.out HB1.out⟩
  · have HR : Hid (unB ⟨6, n, wd⟩ a = a ++ ⟨#[32, 60, 60, 32]⟩ ++ decB n) := Lib.hid rfl
    rw [HR.out]
    obtain ⟨n0, n1⟩ : 0 ≤ n ∧ n ≤ 31 := hk.c6 (.inl rfl)
    clear hk h ha E HR HC0 H1
    clear hp0 hbk h0V hw0 HB0 hq hb hye hi
    go_enter Tryz.func23, Tryz.ntmps23
    go_upto_region 1 with fail
    rw [← hV0]
    clear hV0
    simp only [HAA.out]
    go_upto_region 2 with fail
    rw [← hV]
    clear hV d0 d1 d2
    go_upto_region 14 with fail
    clear b0 b1 b2 hps
    go_region_held3 (fun w' => Below V.heap.size V w') (first | exact H0.out | exact below_drew H0.out | (exact below_step (by assumption) (by assumption)) | assumption)
      (first
      | (go_at_call 46; refine (HC.out _ (by assumption)).mono ?_; rintro r w4 ⟨rfl, hb4⟩)
      | (go_at_call 44; refine (rdec_any _ (by omega) (by omega) _).mono ?_; rintro r w5 ⟨rfl, hb5⟩))
    all_goals
      have HB5 : Hid (Below V.heap.size V _) := Lib.hid (by assumption)
      go_wp2
      go_ret
      exact ⟨rfl, below_step HwV.out HB5.out⟩
  · have HR : Hid (unB ⟨7, n, wd⟩ a = a ++ ⟨#[32, 62, 62, 32]⟩ ++ decB n) := Lib.hid rfl
    rw [HR.out]
    obtain ⟨n0, n1⟩ : 0 ≤ n ∧ n ≤ 31 := hk.c6 (.inr rfl)
    clear hk h ha E HR HC0 H1
    clear hp0 hbk h0V hw0 HB0 hq hb hye hi
    go_enter Tryz.func23, Tryz.ntmps23
    go_upto_region 1 with fail
    rw [← hV0]
    clear hV0
    simp only [HAA.out]
    go_upto_region 2 with fail
    rw [← hV]
    clear hV d0 d1 d2
    go_upto_region 16 with fail
    clear b0 b1 b2 hps
    go_region_held3 (fun w' => Below V.heap.size V w') (first | exact H0.out | exact below_drew H0.out | (exact below_step (by assumption) (by assumption)) | assumption)
      (first
      | (go_at_call 46; refine (HC.out _ (by assumption)).mono ?_; rintro r w4 ⟨rfl, hb4⟩)
      | (go_at_call 44; refine (rdec_any _ (by omega) (by omega) _).mono ?_; rintro r w5 ⟨rfl, hb5⟩))
    all_goals
      have HB5 : Hid (Below V.heap.size V _) := Lib.hid (by assumption)
      go_wp2
      go_ret
      exact ⟨rfl, below_step HwV.out HB5.out⟩
  · have HR : Hid (unB ⟨8, n, wd⟩ a = a ++ ⟨#[91]⟩ ++ decB n ++ ⟨#[43]⟩ ++ decB wd ++ ⟨#[93]⟩) := Lib.hid rfl
    rw [HR.out]
    obtain ⟨⟨n0, n1⟩, w0, w1⟩ : (0 ≤ n ∧ n ≤ 32) ∧ 1 ≤ wd ∧ wd ≤ 32 := hk.c8 rfl
    clear hk h ha E HR HC0 H1
    clear hp0 hbk h0V hw0 HB0 hq hb hye hi
    go_enter Tryz.func23, Tryz.ntmps23
    go_upto_region 1 with fail
    rw [← hV0]
    clear hV0
    simp only [HAA.out]
    go_upto_region 2 with fail
    rw [← hV]
    clear hV d0 d1 d2
    go_upto_region 18 with fail
    clear b0 b1 b2 hps
    go_region_held3 (fun w' => Below V.heap.size V w') (first | exact H0.out | exact below_drew H0.out | (exact below_step (by assumption) (by assumption)) | assumption)
      (first
      | (go_at_call 46; refine (HC.out _ (by assumption)).mono ?_; rintro r w4 ⟨rfl, hb4⟩)
      | (go_at_call 44; refine (rdec_any _ (by omega) (by omega) _).mono ?_; rintro r w5 ⟨rfl, hb5⟩))
    all_goals
      have HB5 : Hid (Below V.heap.size V _) := Lib.hid (by assumption)
      go_wp2
      go_ret
      exact ⟨rfl, below_step HwV.out HB5.out⟩
set_option maxRecDepth 100000 in
set_option maxHeartbeats 8000000 in
theorem rtext_bi {W : World} {x : L NodeD} {p : ProgD} {ps : L FieldD} {i j1 : Nat} {y0 : NodeD} {a b : ByteArray} (E : WEnv W x p ps) (h : x.l[i]? = some y0) (ha : arityM y0.op = 2) (hs : a.size ≤ 1000000) (hs2 : b.size ≤ 1000000)
    (hi1 : i + 1 < x.l.length) (hj : i + 1 ≤ j1) (e1 : endM (x.l.drop (i + 1)) 1 = some (j1 - (i + 1))) (H1 : ROpdC W x p ps (i + 1) a) (H2 : ROpdC W x p ps j1 b) : TxtC W x p ps i (biB y0 a b) := by
  intro w hb
  have hi : i < x.l.length := (List.getElem?_eq_some_iff.1 h).1
  obtain ⟨g, of, hA, hq⟩ := NodeD.atA E.nodes hi
  have hye : x.l[i] = y0 := by rw [List.getElem?_eq_getElem hi] at h; injection h
  rw [hye] at hq
  obtain ⟨op, n, wd⟩ := y0
  simp only at hq ha
  obtain ⟨V0, hV0, hw0, HB0, hp0⟩ := box1 w (scopeCells p ps) 44
  obtain ⟨d0, d1, d2⟩ := hq V0 (below_step hb hw0)
  obtain ⟨V, hV⟩ : ∃ V, V = V0.alloc (.cells #[.int .i64 op, .int .i64 n, .int .i64 wd] 65) := ⟨_, rfl⟩
  have HV : Hid (Blk V V0.heap.size 65 #[.int .i64 op, .int .i64 n, .int .i64 wd]) := Lib.hid (by rw [hV]; exact Blk.new _ _ _)
  have h0V : Below V0.heap.size V0 V := by rw [hV]; exact below1 _ _
  have HwV : Hid (Below w.heap.size w V) := Lib.hid (below_step hw0 h0V)
  have HBV : Hid (Below W.heap.size W V) := Lib.hid (below_step hb HwV.out)
  have hps := hp0 V h0V
  have hps2 : ∀ u, Below V.heap.size V u → _ := fun u hu => hp0 u (below_step h0V hu)
  have hbk : ∀ u, Below V.heap.size V u → Blk u V0.heap.size 65 #[.int .i64 op, .int .i64 n, .int .i64 wd] := fun u hu => HV.out.below hu HV.out.lt
  have hb0 : ∀ u, Below V.heap.size V u → u.cell? ⟨V0.heap.size, 0, none⟩ = some (.int .i64 op) := fun u hu => (hbk u hu).cell 0
  have hb1 : ∀ u, Below V.heap.size V u → u.cell? ⟨V0.heap.size, 1, none⟩ = some (.int .i64 n) := fun u hu => (hbk u hu).cell 1
  have hb2 : ∀ u, Below V.heap.size V u → u.cell? ⟨V0.heap.size, 2, none⟩ = some (.int .i64 wd) := fun u hu => (hbk u hu).cell 2
  have b0 := hb0 V (Below.refl _ _)
  have b1 := hb1 V (Below.refl _ _)
  have b2 := hb2 V (Below.refl _ _)
  have hii : (i : Int) < (x.l.length : Int) := by omega
  have hmi := E.nodes.1
  unfold maxLen at hmi
  have H0 := Lib.hid (Below.refl V.heap.size V)
  have hwr : IntKind.i64.wrap ((i : Int) + 1) = ((i + 1 : Nat) : Int) := by rw [IntWalk.i64_in _ (by omega)]; rfl
  have HC := Lib.hid (fun u (hb : Below V.heap.size V u) => show Calls Tryz.prog 46 #[.slice x.A x.l.length x.c, .int .i64 (IntKind.i64.wrap ((i : Int) + 1)), .agg (scopeCells p ps)] u fun e w' => e = .returned (.string a) ∧ Below u.heap.size u w' from by rw [hwr]; exact H1 u (below_step HBV.out hb))
  have HC2 := Lib.hid (fun u (hb : Below V.heap.size V u) => show Calls Tryz.prog 46 #[.slice x.A x.l.length x.c, .int .i64 j1, .agg (scopeCells p ps)] u fun e w' => e = .returned (.string b) ∧ Below u.heap.size u w' from by exact H2 u (below_step HBV.out hb))
  have HN1 := Lib.hid (fun u (hb : Below V.heap.size V u) => show Calls Tryz.prog 47 #[.slice x.A x.l.length x.c, .int .i64 ((i : Int) + 1)] u fun e w' => e = .returned (.int .i64 j1) ∧ u = w' from rend_any x (i + 1) j1 u (E.nodes.below (below_step HBV.out hb) (Nat.le_refl _)) (by omega) e1 (by omega))
  clear hwr
  have HAA := Lib.hid hA
  simp only [hA] at HC HC2 HN1
  clear hA
  have hop := arity2 ha
  have t1 : (op == 1) = false := beq_eq_false_iff_ne.2 (by omega)
  have t2 : (op == 2) = false := beq_eq_false_iff_ne.2 (by omega)
  have t3 : (op == 3) = false := beq_eq_false_iff_ne.2 (by omega)
  have t4 : (op == 4) = false := beq_eq_false_iff_ne.2 (by omega)
  have t5 : (op == 5) = false := beq_eq_false_iff_ne.2 (by omega)
  have t6 : (op == 6) = false := beq_eq_false_iff_ne.2 (by omega)
  have t7 : (op == 7) = false := beq_eq_false_iff_ne.2 (by omega)
  have t8 : (op == 8) = false := beq_eq_false_iff_ne.2 (by omega)
  have t17 : (op == 17) = false := beq_eq_false_iff_ne.2 (by omega)
  have q1 := sym_size op
  have z0 : (⟨#[32]⟩ : ByteArray).size = 1 := rfl
  have HR : Hid (biB ⟨op, n, wd⟩ a b = a ++ ⟨#[32]⟩ ++ symB op ++ ⟨#[32]⟩ ++ b) := Lib.hid rfl
  rw [HR.out]
  have z1 : ¬ a.size + 1 > 9223372036854775807 := by omega
  have z2 : ¬ a.size + 1 + (symB op).size > 9223372036854775807 := by omega
  have z3 : ¬ a.size + 1 + (symB op).size + 1 > 9223372036854775807 := by omega
  have z4 : ¬ a.size + 1 + (symB op).size + 1 + b.size > 9223372036854775807 := by omega
  clear h ha E HR H1 H2 hop e1
  clear hp0 hbk h0V hw0 HB0 hq hb hye hi
  go_enter Tryz.func23, Tryz.ntmps23
  go_upto_region 1 with fail
  rw [← hV0]
  clear hV0
  simp only [HAA.out]
  go_upto_region 2 with fail
  rw [← hV]
  clear hV d0 d1 d2
  go_wp2_with fail
  refine (HN1.out _ H0.out).mono ?_
  rintro e w' ⟨rfl, rfl⟩
  go_upto_region 23 with fail
  clear b0 b1 b2 hps
  go_region_held3 (fun w' => Below V.heap.size V w') (first | exact H0.out | exact below_drew H0.out | (exact below_step (by assumption) (by assumption)) | assumption)
    (first
    | (go_at_call 46; refine (HC.out _ (by assumption)).mono ?_; clear HC; rintro r w4 ⟨rfl, hb4⟩)
    | (go_at_call 46; refine (HC2.out _ (by assumption)).mono ?_; rintro r w6 ⟨rfl, hb6⟩)
    | (go_at_call 48; refine (rsymbol_any _ _).mono ?_; rintro r w5 ⟨rfl, rfl⟩))
  all_goals
    have HB5 : Hid (Below V.heap.size V _) := Lib.hid (by assumption)
    go_wp2
    go_ret
    exact ⟨rfl, below_step HwV.out HB5.out⟩
set_option maxRecDepth 100000 in
set_option maxHeartbeats 8000000 in
theorem rtext_tri {W : World} {x : L NodeD} {p : ProgD} {ps : L FieldD} {i j1 j2 : Nat} {y0 : NodeD} {a b c : ByteArray} (E : WEnv W x p ps) (h : x.l[i]? = some y0) (ha : arityM y0.op = 3) (hs : a.size ≤ 1000000) (hs2 : b.size ≤ 1000000) (hs3 : c.size ≤ 1000000)
    (hi1 : i + 1 < x.l.length) (hj : i + 1 ≤ j1) (e1 : endM (x.l.drop (i + 1)) 1 = some (j1 - (i + 1))) (hi2 : j1 < x.l.length) (hj2 : j1 ≤ j2) (e2 : endM (x.l.drop j1) 1 = some (j2 - j1))
    (H1 : ROpdC W x p ps (i + 1) a) (H2 : ROpdC W x p ps j1 b) (H3 : ROpdC W x p ps j2 c) : TxtC W x p ps i (triB a b c) := by
  intro w hb
  have hi : i < x.l.length := (List.getElem?_eq_some_iff.1 h).1
  obtain ⟨g, of, hA, hq⟩ := NodeD.atA E.nodes hi
  have hye : x.l[i] = y0 := by rw [List.getElem?_eq_getElem hi] at h; injection h
  rw [hye] at hq
  obtain ⟨op, n, wd⟩ := y0
  simp only at hq ha
  obtain ⟨V0, hV0, hw0, HB0, hp0⟩ := box1 w (scopeCells p ps) 44
  obtain ⟨d0, d1, d2⟩ := hq V0 (below_step hb hw0)
  obtain ⟨V, hV⟩ : ∃ V, V = V0.alloc (.cells #[.int .i64 op, .int .i64 n, .int .i64 wd] 65) := ⟨_, rfl⟩
  have HV : Hid (Blk V V0.heap.size 65 #[.int .i64 op, .int .i64 n, .int .i64 wd]) := Lib.hid (by rw [hV]; exact Blk.new _ _ _)
  have h0V : Below V0.heap.size V0 V := by rw [hV]; exact below1 _ _
  have HwV : Hid (Below w.heap.size w V) := Lib.hid (below_step hw0 h0V)
  have HBV : Hid (Below W.heap.size W V) := Lib.hid (below_step hb HwV.out)
  have hps := hp0 V h0V
  have hps2 : ∀ u, Below V.heap.size V u → _ := fun u hu => hp0 u (below_step h0V hu)
  have hbk : ∀ u, Below V.heap.size V u → Blk u V0.heap.size 65 #[.int .i64 op, .int .i64 n, .int .i64 wd] := fun u hu => HV.out.below hu HV.out.lt
  have hb0 : ∀ u, Below V.heap.size V u → u.cell? ⟨V0.heap.size, 0, none⟩ = some (.int .i64 op) := fun u hu => (hbk u hu).cell 0
  have hb1 : ∀ u, Below V.heap.size V u → u.cell? ⟨V0.heap.size, 1, none⟩ = some (.int .i64 n) := fun u hu => (hbk u hu).cell 1
  have hb2 : ∀ u, Below V.heap.size V u → u.cell? ⟨V0.heap.size, 2, none⟩ = some (.int .i64 wd) := fun u hu => (hbk u hu).cell 2
  have b0 := hb0 V (Below.refl _ _)
  have b1 := hb1 V (Below.refl _ _)
  have b2 := hb2 V (Below.refl _ _)
  have hii : (i : Int) < (x.l.length : Int) := by omega
  have hmi := E.nodes.1
  unfold maxLen at hmi
  have H0 := Lib.hid (Below.refl V.heap.size V)
  have hwr : IntKind.i64.wrap ((i : Int) + 1) = ((i + 1 : Nat) : Int) := by rw [IntWalk.i64_in _ (by omega)]; rfl
  have HC := Lib.hid (fun u (hb : Below V.heap.size V u) => show Calls Tryz.prog 46 #[.slice x.A x.l.length x.c, .int .i64 (IntKind.i64.wrap ((i : Int) + 1)), .agg (scopeCells p ps)] u fun e w' => e = .returned (.string a) ∧ Below u.heap.size u w' from by rw [hwr]; exact H1 u (below_step HBV.out hb))
  have HC2 := Lib.hid (fun u (hb : Below V.heap.size V u) => show Calls Tryz.prog 46 #[.slice x.A x.l.length x.c, .int .i64 j1, .agg (scopeCells p ps)] u fun e w' => e = .returned (.string b) ∧ Below u.heap.size u w' from by exact H2 u (below_step HBV.out hb))
  have HC3 := Lib.hid (fun u (hb : Below V.heap.size V u) => show Calls Tryz.prog 46 #[.slice x.A x.l.length x.c, .int .i64 j2, .agg (scopeCells p ps)] u fun e w' => e = .returned (.string c) ∧ Below u.heap.size u w' from by exact H3 u (below_step HBV.out hb))
  have HN1 := Lib.hid (fun u (hb : Below V.heap.size V u) => show Calls Tryz.prog 47 #[.slice x.A x.l.length x.c, .int .i64 ((i : Int) + 1)] u fun e w' => e = .returned (.int .i64 j1) ∧ u = w' from rend_any x (i + 1) j1 u (E.nodes.below (below_step HBV.out hb) (Nat.le_refl _)) (by omega) e1 (by omega))
  have HN2 := Lib.hid (fun u (hb : Below V.heap.size V u) => show Calls Tryz.prog 47 #[.slice x.A x.l.length x.c, .int .i64 j1] u fun e w' => e = .returned (.int .i64 j2) ∧ u = w' from rend_any x j1 j2 u (E.nodes.below (below_step HBV.out hb) (Nat.le_refl _)) (by omega) e2 (by omega))
  clear hwr
  have HAA := Lib.hid hA
  simp only [hA] at HC HC2 HC3 HN1 HN2
  clear hA
  obtain rfl := arity3 ha
  have HR : Hid (triB a b c = a ++ ⟨#[32, 63, 32]⟩ ++ b ++ ⟨#[32, 58, 32]⟩ ++ c) := Lib.hid rfl
  rw [HR.out]
  have z0 : (⟨#[32, 63, 32]⟩ : ByteArray).size = 3 := rfl
  have z00 : (⟨#[32, 58, 32]⟩ : ByteArray).size = 3 := rfl
  have z1 : ¬ a.size + 3 > 9223372036854775807 := by omega
  have z2 : ¬ a.size + 3 + b.size > 9223372036854775807 := by omega
  have z3 : ¬ a.size + 3 + b.size + 3 > 9223372036854775807 := by omega
  have z4 : ¬ a.size + 3 + b.size + 3 + c.size > 9223372036854775807 := by omega
  clear h ha E HR H1 H2 H3 e1 e2
  clear hp0 hbk h0V hw0 HB0 hq hb hye hi
  go_enter Tryz.func23, Tryz.ntmps23
  go_upto_region 1 with fail
  rw [← hV0]
  clear hV0
  simp only [HAA.out]
  go_upto_region 2 with fail
  rw [← hV]
  clear hV d0 d1 d2
  go_wp2_with fail
  refine (HN1.out _ H0.out).mono ?_
  rintro e w' ⟨rfl, rfl⟩
  go_wp2_with fail
  refine (HN2.out _ H0.out).mono ?_
  rintro e w' ⟨rfl, rfl⟩
  go_upto_region 22 with fail
  clear b0 b1 b2 hps
  go_region_held3 (fun w' => Below V.heap.size V w') (first | exact H0.out | exact below_drew H0.out | (exact below_step (by assumption) (by assumption)) | assumption)
    (first
    | (go_at_call 46; refine (HC.out _ (by assumption)).mono ?_; clear HC; rintro r w4 ⟨rfl, hb4⟩)
    | (go_at_call 46; refine (HC2.out _ (by assumption)).mono ?_; clear HC2; rintro r w5 ⟨rfl, hb5⟩)
    | (go_at_call 46; refine (HC3.out _ (by assumption)).mono ?_; rintro r w6 ⟨rfl, hb6⟩))
  all_goals
    have HB5 : Hid (Below V.heap.size V _) := Lib.hid (by assumption)
    go_wp2
    go_ret
    exact ⟨rfl, below_step HwV.out HB5.out⟩
theorem nodeok_op {p : ProgD} {ps : List FieldD} {l : List NodeD} {i j : Nat} {s : ByteArray} {y : NodeD} (h : Tx p ps l i j s) (hy : l[i]? = some y) : 1 ≤ y.op ∧ y.op ≤ 17 := by
  cases h with
  | leaf h ha _ => rw [h] at hy; injection hy with hy; subst hy; have := arity0 ha; omega
  | un h ha _ _ _ => rw [h] at hy; injection hy with hy; subst hy; have := arity1 ha; omega
  | bi h ha _ _ _ _ _ => rw [h] at hy; injection hy with hy; subst hy; have := arity2 ha; omega
  | tri h ha _ _ _ _ _ _ _ => rw [h] at hy; injection hy with hy; subst hy; have := arity3 ha; omega
theorem tx_end0 {p : ProgD} {ps : List FieldD} {l : List NodeD} {i j : Nat} {s : ByteArray} (h : Tx p ps l i j s) : endM (l.drop i) 1 = some (j - i) := by have := tx_end h 0; simpa using this
theorem tx_text {W : World} {x : L NodeD} {p : ProgD} {ps : L FieldD} (E : WEnv W x p ps) (hlen : x.l.length ≤ 24) {i j : Nat} {s : ByteArray} (h : Tx p ps.l x.l i j s) : TxtC W x p ps i s := by
  have hb : ∀ {i j : Nat} {s : ByteArray}, Tx p ps.l x.l i j s → s.size ≤ 72000 := fun h => by have := h.lt; have := h.size E.nm; omega
  induction h with
  | leaf h ha hk => exact rtext_leaf E h ha hk
  | @un i j x0 y s h ha hk hy t1 ih => exact rtext_un E h ha hk (by have := hb t1; have := opd_size y s; omega) (ropd_of_text E hy (nodeok_op t1 hy) (by have := hb t1; omega) ih)
  | @bi i m j x0 y z s t h ha hk hy t1 hz t2 ih1 ih2 =>
    have l1 := t1.lt
    have l2 := t2.lt
    exact rtext_bi E h ha (by have := hb t1; have := opd_size y s; omega) (by have := hb t2; have := opd_size z t; omega) (by omega) (by omega) (tx_end0 t1)
      (ropd_of_text E hy (nodeok_op t1 hy) (by have := hb t1; omega) ih1) (ropd_of_text E hz (nodeok_op t2 hz) (by have := hb t2; omega) ih2)
  | @tri i m n j x0 y z u s t r h ha hk hy t1 hz t2 hu t3 ih1 ih2 ih3 =>
    have l1 := t1.lt
    have l2 := t2.lt
    have l3 := t3.lt
    exact rtext_tri E h ha (by have := hb t1; have := opd_size y s; omega) (by have := hb t2; have := opd_size z t; omega) (by have := hb t3; have := opd_size u r; omega) (by omega) (by omega) (tx_end0 t1) (by omega) (by omega) (tx_end0 t2)
      (ropd_of_text E hy (nodeok_op t1 hy) (by have := hb t1; omega) ih1) (ropd_of_text E hz (nodeok_op t2 hz) (by have := hb t2; omega) ih2) (ropd_of_text E hu (nodeok_op t3 hu) (by have := hb t3; omega) ih3)
end Go.Proofs.YtpomjcndeanjgaaGreatDoor
namespace Go.Proofs.YtpomjcndeanjgaaGreatDoor
open Go.RowKit
theorem flipE {f : FuncId} {args : Array Value} {w : World} {r : Ending} (h : Calls Tryz.prog f args w fun e w' => e = r ∧ w = w') : Calls Tryz.prog f args w fun e w' => e = r ∧ w' = w := h.mono fun _ _ h => ⟨h.1, h.2.symm⟩
set_option maxRecDepth 100000 in
set_option maxHeartbeats 4000000 in
theorem rres_par (x : L NodeD) (p : ProgD) (ps : L FieldD) (k : Nat) (wd : Int) (W w : World) (E : WEnv W x p ps) (hb : Below W.heap.size W w) (hk : k < ps.l.length) :
    Calls Tryz.prog 22 #[.agg #[.int .i64 3, .int .i64 k, .int .i64 wd], .agg (scopeCells p ps)] w fun e w' => e = .returned (.bool (resM p ps.l ⟨3, k, wd⟩)) ∧ Below w.heap.size w w' := by
  obtain ⟨V, hV, hw, HB, hp⟩ := box2 w #[.int .i64 3, .int .i64 k, .int .i64 wd] 65 (scopeCells p ps) 44
  have HW := Lib.hid hw
  have hns := E.nm.par _ (List.getElem_mem hk)
  have HI := Lib.hid (fun u => risIdent_any ps.l[k].name u (by unfold maxLen; omega))
  have HF := Lib.hid (fun u (hu : Below V.heap.size V u) => rfindField_any ps ps.l[k].name u (E.pars.below (below_step hb (below_step hw hu)) (Nat.le_refl _)))
  have HR : Hid (resM p ps.l ⟨3, k, wd⟩ = (ident ps.l[k].name && (Lib.idxOfS (fNames ps.l) ps.l[k].name == (k : Int)))) := Lib.hid (by
    rw [show resM p ps.l ⟨3, k, wd⟩ = rightB (fNames ps.l) (fldB ps.l k) k from rfl, fld_at' hk]; rfl)
  have hki : (k : Int) < (ps.l.length : Int) := by omega
  obtain ⟨g, of, hA, hall⟩ := FieldD.atA E.pars hk
  have hd := (hall V (below_step hb hw)).1
  have hp1 := hp V HB
  have hdd := fun u (hu : Below V.heap.size V u) => (hall u (below_step hb (below_step hw hu))).1
  rw [HR.out]
  clear hall E hns HR
  simp only [hA] at HF
  generalize ps.l[k].name = nm at *
  generalize fNames ps.l = ns at *
  cases hi : ident nm
  · have HI2 := Lib.hid (fun u => show Calls Tryz.prog 42 #[.string nm] u fun e w' => e = .returned (.bool false) ∧ u = w' from by rw [← hi]; exact HI.out u)
    clear HI hi hp hdd
    go_enter Tryz.func22, Tryz.ntmps22
    go_upto_region 1 with fail
    rw [← hV]
    clear hV
    simp only [scopeCells, hA] at hp1 ⊢
    clear hA
    go_upto_region 6 with fail
    go_quiet (first | (go_at_call 42; exact Calls.quiet_of_same (flipE (HI2.out _))))
    go_wp2
    go_ret
    exact ⟨rfl, below_drewN HW.out _⟩
  · have HI2 := Lib.hid (fun u => show Calls Tryz.prog 42 #[.string nm] u fun e w' => e = .returned (.bool true) ∧ u = w' from by rw [← hi]; exact HI.out u)
    have hp2 := fun u (hu : Below V.heap.size V u) => hp u hu
    have hd2 := fun u (hu : Below V.heap.size V u) => hdd u hu
    have H0 := Lib.hid HB
    clear HI hi hp hdd hd hp1
    go_enter Tryz.func22, Tryz.ntmps22
    go_upto_region 1 with fail
    rw [← hV]
    clear hV
    simp only [scopeCells, hA] at hp2 ⊢
    clear hA
    have hp3 := hp2 V H0.out
    go_upto_region 6 with fail
    clear hp3
    go_region_held3 (fun w' => Below V.heap.size V w') (first | exact H0.out | exact below_drew H0.out | (exact below_step (by assumption) (by assumption)) | assumption)
      (first
      | (go_at_call 42; refine (HI2.out _).mono ?_; rintro r w5 ⟨rfl, rfl⟩)
      | (go_at_call 43; refine (HF.out _ (by assumption)).mono ?_; rintro r w5 ⟨rfl, rfl⟩))
    all_goals
      have HB5 : Hid (Below V.heap.size V _) := Lib.hid (by assumption)
      go_wp2
      go_ret
      exact ⟨rfl, below_step HW.out HB5.out⟩
set_option maxRecDepth 100000 in
set_option maxHeartbeats 2000000 in
theorem rres_valid (x : L NodeD) (p : ProgD) (ps : L FieldD) (n : Int) (wd : Int) (W w : World) (E : WEnv W x p ps) (hb : Below W.heap.size W w) (hn : 0 ≤ n ∧ n.toNat < p.headers.l.length) :
    Calls Tryz.prog 22 #[.agg #[.int .i64 4, .int .i64 n, .int .i64 wd], .agg (scopeCells p ps)] w fun e w' => e = .returned (.bool (resM p ps.l ⟨4, n, wd⟩)) ∧ Below w.heap.size w w' := by
  obtain ⟨V, hV, hw, HB, hp⟩ := box2 w #[.int .i64 4, .int .i64 n, .int .i64 wd] 65 (scopeCells p ps) 44
  have HW := Lib.hid hw
  have HC := Lib.hid (fun u (hu : Below V.heap.size V u) => rright_any p ps n u (E.prog.below (below_step hb (below_step hw hu))) E.nm (.inr hn))
  have HR : Hid (resM p ps.l ⟨4, n, wd⟩ = rightH p n) := Lib.hid rfl
  have hp1 := hp V HB
  rw [HR.out]
  generalize rightH p n = R at *
  clear E hw HR hp
  go_enter Tryz.func22, Tryz.ntmps22
  go_upto_region 1 with fail
  rw [← hV]
  clear hV
  go_wp2_with fail
  refine (HC.out _ (by first | exact HB | exact below_alloc HB _ | exact below_alloc (below_alloc HB _) _ | exact below_alloc (below_alloc (below_alloc HB _) _) _)).mono ?_
  rintro e w1 ⟨rfl, hbN⟩
  replace HB := below_step (by first | exact HB | exact below_alloc HB _ | exact below_alloc (below_alloc HB _) _ | exact below_alloc (below_alloc (below_alloc HB _) _) _) hbN
  clear hbN
  go_wp2
  go_ret
  exact ⟨rfl, below_step HW.out HB⟩
set_option maxRecDepth 100000 in
set_option maxHeartbeats 2000000 in
theorem rres_other (p : ProgD) (ps : L FieldD) (op n wd : Int) (w : World) (h2 : op ≠ 2) (h3 : op ≠ 3) (h4 : op ≠ 4) :
    Calls Tryz.prog 22 #[.agg #[.int .i64 op, .int .i64 n, .int .i64 wd], .agg (scopeCells p ps)] w fun e w' => e = .returned (.bool (resM p ps.l ⟨op, n, wd⟩)) ∧ Below w.heap.size w w' := by
  obtain ⟨V, hV, hw, HB, hp⟩ := box2 w #[.int .i64 op, .int .i64 n, .int .i64 wd] 65 (scopeCells p ps) 44
  have HW := Lib.hid hw
  have HR : Hid (resM p ps.l ⟨op, n, wd⟩ = true) := Lib.hid (by unfold resM; simp [h2, h3, h4])
  have hp1 := hp V HB
  rw [HR.out]
  have t2 : (op == 2) = false := beq_eq_false_iff_ne.2 h2
  have t3 : (op == 3) = false := beq_eq_false_iff_ne.2 h3
  have t4 : (op == 4) = false := beq_eq_false_iff_ne.2 h4
  clear hw HR hp h2 h3 h4
  go_enter Tryz.func22, Tryz.ntmps22
  go_upto_region 1 with fail
  rw [← hV]
  clear hV
  go_wp2
  go_ret
  exact ⟨rfl, HW.out⟩
end Go.Proofs.YtpomjcndeanjgaaGreatDoor
namespace Go.Proofs.YtpomjcndeanjgaaGreatDoor
open Go.RowKit
set_option maxRecDepth 100000 in
set_option maxHeartbeats 8000000 in
theorem rres_fld_yes (x : L NodeD) (p : ProgD) (ps : L FieldD) (n : Int) (f : Nat) (W w : World) (E : WEnv W x p ps) (hb : Below W.heap.size W w) (hn : n = -1 ∨ (0 ≤ n ∧ n.toNat < p.headers.l.length)) (F : L FieldD) (hFe : fldsL p n = F)
    (hF : LOk W 2 FieldD.cells F) (hf : f < F.l.length) (hs : F.l[f].name.size ≤ 1000) (h1 : rightH p n = true) (h2 : ident F.l[f].name = true) :
    Calls Tryz.prog 22 #[.agg #[.int .i64 2, .int .i64 n, .int .i64 f], .agg (scopeCells p ps)] w fun e w' => e = .returned (.bool (resM p ps.l ⟨2, n, f⟩)) ∧ Below w.heap.size w w' := by
  obtain ⟨V, hV, hw, HB, hp⟩ := box2 w #[.int .i64 2, .int .i64 n, .int .i64 f] 65 (scopeCells p ps) 44
  have HW := Lib.hid hw
  have HI := Lib.hid (fun u => show Calls Tryz.prog 42 #[.string F.l[f].name] u fun e w' => e = .returned (.bool true) ∧ u = w' from by
    have := risIdent_any F.l[f].name u (by unfold maxLen; omega)
    rw [show identM F.l[f].name.data.toList = true from h2] at this; exact this)
  have HG := Lib.hid (fun u (hu : Below V.heap.size V u) => rfields_any p ps n u (E.prog.below (below_step hb (below_step hw hu))) hn)
  have HC := Lib.hid (fun u (hu : Below V.heap.size V u) => show Calls Tryz.prog 41 #[.agg (scopeCells p ps), .int .i64 n] u fun e w' => e = .returned (.bool true) ∧ Below u.heap.size u w' from by
    have := rright_any p ps n u (E.prog.below (below_step hb (below_step hw hu))) E.nm hn
    rw [h1] at this; exact this)
  have HF := Lib.hid (fun u (hu : Below V.heap.size V u) => rfindField_any F F.l[f].name u (hF.below (below_step hb (below_step hw hu)) (Nat.le_refl _)))
  have HR : Hid (resM p ps.l ⟨2, n, f⟩ = (Lib.idxOfS (fNames F.l) F.l[f].name == (f : Int))) := Lib.hid (by
    rw [show resM p ps.l ⟨2, n, f⟩ = (rightH p n && rightB (fNames (fldsL p n).l) (fldB (fldsL p n).l f) f) from rfl, h1, hFe, fld_at' hf, rightB, h2]; rfl)
  have hfi : (f : Int) < (F.l.length : Int) := by omega
  obtain ⟨g, of, hA, hall⟩ := FieldD.atA hF hf
  have hdd := fun u (hu : Below V.heap.size V u) => (hall u (below_step hb (below_step hw hu))).1
  rw [HR.out]
  rw [hFe] at HG
  clear hall E hs HR h1 h2 hF hFe
  simp only [hA] at HF HG
  generalize F.l[f].name = nm at *
  generalize fNames F.l = ns at *
  generalize F.l.length = fl at *
  generalize F.c = fc at *
  clear hA
  have H0 := Lib.hid HB
  go_enter Tryz.func22, Tryz.ntmps22
  go_upto_region 1 with fail
  rw [← hV]
  clear hV
  have hp1 := hp V H0.out
  go_wp2_with fail
  refine (HG.out _ (by first | exact HB | exact below_alloc HB _ | exact below_alloc (below_alloc HB _) _ | exact below_alloc (below_alloc (below_alloc HB _) _) _)).mono ?_
  rintro e w1 ⟨rfl, hbN⟩
  replace HB := below_step (by first | exact HB | exact below_alloc HB _ | exact below_alloc (below_alloc HB _) _ | exact below_alloc (below_alloc (below_alloc HB _) _) _) hbN
  clear hbN
  have HV1 := Lib.hid HB
  have H1 := Lib.hid (Below.refl w1.heap.size w1)
  have hp2 := fun u (hu : Below w1.heap.size w1 u) => hp u (below_step HV1.out hu)
  have hd2 := fun u (hu : Below w1.heap.size w1 u) => hdd u (below_step HV1.out hu)
  clear hp hdd HB hp1
  have hp3 := hp2 w1 H1.out
  go_upto_region 4 with fail
  clear hp3
  go_region_held3 (fun w' => Below w1.heap.size w1 w') (first | exact H1.out | exact below_drew H1.out | (exact below_step (by assumption) (by assumption)) | assumption)
    (first
    | (go_at_call 41; refine (HC.out _ (below_step HV1.out (by assumption))).mono ?_; rintro r w5 ⟨rfl, hb5⟩)
    | (go_at_call 42; refine (HI.out _).mono ?_; rintro r w6 ⟨rfl, rfl⟩)
    | (go_at_call 43; refine (HF.out _ (below_step HV1.out (by assumption))).mono ?_; rintro r w7 ⟨rfl, rfl⟩))
  all_goals
    have HB5 : Hid (Below w1.heap.size w1 _) := Lib.hid (by assumption)
    go_wp2
    go_ret
    exact ⟨rfl, below_step HW.out (below_step HV1.out HB5.out)⟩
end Go.Proofs.YtpomjcndeanjgaaGreatDoor
namespace Go.Proofs.YtpomjcndeanjgaaGreatDoor
open Go.RowKit
set_option maxRecDepth 100000 in
set_option maxHeartbeats 8000000 in
theorem rres_fld_no1 (x : L NodeD) (p : ProgD) (ps : L FieldD) (n : Int) (f : Nat) (W w : World) (E : WEnv W x p ps) (hb : Below W.heap.size W w) (hn : n = -1 ∨ (0 ≤ n ∧ n.toNat < p.headers.l.length)) (F : L FieldD) (hFe : fldsL p n = F)
    (hF : LOk W 2 FieldD.cells F) (hf : f < F.l.length) (h1 : rightH p n = false) :
    Calls Tryz.prog 22 #[.agg #[.int .i64 2, .int .i64 n, .int .i64 f], .agg (scopeCells p ps)] w fun e w' => e = .returned (.bool (resM p ps.l ⟨2, n, f⟩)) ∧ Below w.heap.size w w' := by
  obtain ⟨V, hV, hw, HB, hp⟩ := box2 w #[.int .i64 2, .int .i64 n, .int .i64 f] 65 (scopeCells p ps) 44
  have HW := Lib.hid hw
  have HG := Lib.hid (fun u (hu : Below V.heap.size V u) => rfields_any p ps n u (E.prog.below (below_step hb (below_step hw hu))) hn)
  have HC := Lib.hid (fun u (hu : Below V.heap.size V u) => show Calls Tryz.prog 41 #[.agg (scopeCells p ps), .int .i64 n] u fun e w' => e = .returned (.bool false) ∧ Below u.heap.size u w' from by
    have := rright_any p ps n u (E.prog.below (below_step hb (below_step hw hu))) E.nm hn
    rw [h1] at this; exact this)
  have HR : Hid (resM p ps.l ⟨2, n, f⟩ = false) := Lib.hid (by
    rw [show resM p ps.l ⟨2, n, f⟩ = (rightH p n && rightB (fNames (fldsL p n).l) (fldB (fldsL p n).l f) f) from rfl, h1]; rfl)
  have hfi : (f : Int) < (F.l.length : Int) := by omega
  obtain ⟨g, of, hA, hall⟩ := FieldD.atA hF hf
  have hdd := fun u (hu : Below V.heap.size V u) => (hall u (below_step hb (below_step hw hu))).1
  rw [HR.out]
  rw [hFe] at HG
  clear hall E HR h1 hF hFe
  simp only [hA] at HG
  generalize F.l[f].name = nm at *
  generalize F.l.length = fl at *
  generalize F.c = fc at *
  clear hA
  have H0 := Lib.hid HB
  go_enter Tryz.func22, Tryz.ntmps22
  go_upto_region 1 with fail
  rw [← hV]
  clear hV
  have hp1 := hp V H0.out
  go_wp2_with fail
  refine (HG.out _ (by first | exact HB | exact below_alloc HB _ | exact below_alloc (below_alloc HB _) _ | exact below_alloc (below_alloc (below_alloc HB _) _) _)).mono ?_
  rintro e w1 ⟨rfl, hbN⟩
  replace HB := below_step (by first | exact HB | exact below_alloc HB _ | exact below_alloc (below_alloc HB _) _ | exact below_alloc (below_alloc (below_alloc HB _) _) _) hbN
  clear hbN
  have HV1 := Lib.hid HB
  have H1 := Lib.hid (Below.refl w1.heap.size w1)
  have hp2 := fun u (hu : Below w1.heap.size w1 u) => hp u (below_step HV1.out hu)
  have hd2 := fun u (hu : Below w1.heap.size w1 u) => hdd u (below_step HV1.out hu)
  clear hp hdd HB hp1
  have hp3 := hp2 w1 H1.out
  go_upto_region 4 with fail
  clear hp3
  refine wp_region_held_drew (S := fun w' => Below w1.heap.size w1 w') (by kernel_rfl) (below_drew H1.out) (fun hHeld => ?_)
  refine wpAnyH_take (i := 0) (oi := { dst := some 14, op := Op.load 44 (Operand.tmp 3), type := 44, pos := "ref.go:86", after := #[], guard := none }) (v := ?av0) rfl (by kernel_rfl) (by kernel_rfl) (by kernel_rfl) (fun _ _ _ h => h) (Or.inl ⟨by rfl, ?ay0⟩) (by assumption) ?ar0
  case ay0 => (intro w hSw; (try dsimp only at hSw); go_simp; try (with_reducible rfl))
  try simp only [Act.put, List.setIfInBounds_toArray, List.set_cons_zero, List.set_cons_succ]
  refine wpAnyH_take (i := 1) (oi := { dst := some 15, op := Op.fieldAddr 65 (Operand.tmp 2) 1, type := 0, pos := "ref.go:86", after := #[], guard := none }) (v := ?av1) rfl (by kernel_rfl) (by kernel_rfl) (by kernel_rfl) (fun _ _ _ h => h) (Or.inl ⟨by rfl, ?ay1⟩) (by assumption) ?ar1
  case ay1 => (intro w hSw; (try dsimp only at hSw); go_simp; try (with_reducible rfl))
  try simp only [Act.put, List.setIfInBounds_toArray, List.set_cons_zero, List.set_cons_succ]
  refine wpAnyH_take (i := 2) (oi := { dst := some 16, op := Op.load 3 (Operand.tmp 15), type := 3, pos := "ref.go:86", after := #[{ on := 1, ground := Ground.data }], guard := none }) (v := ?av2) rfl (by kernel_rfl) (by kernel_rfl) (by kernel_rfl) (fun _ _ _ h => h) (Or.inl ⟨by rfl, ?ay2⟩) (by assumption) ?ar2
  case ay2 => (intro w hSw; (try dsimp only at hSw); go_simp; try (with_reducible rfl))
  try simp only [Act.put, List.setIfInBounds_toArray, List.set_cons_zero, List.set_cons_succ]
  refine wpAnyH_ready (rs := [3]) (by kernel_rfl) (by simp) ?_
  refine AllReadyH.cons (o := { dst := some 17, op := Op.call { callee := Callee.value (Operand.func 41), args := #[Operand.tmp 14, Operand.tmp 16], argTypes := #[44, 3] }, type := 4, pos := "ref.go:86", after := #[{ on := 0, ground := Ground.data }, { on := 2, ground := Ground.data }], guard := none }) rfl (fun K hK => ?_) AllReadyH.nil
  go_simp
  go_at_call 41
  refine (HC.out _ (below_step HV1.out (below_drew H1.out))).mono ?_
  rintro r w5 ⟨rfl, hb5⟩
  have hNEW : Below w1.heap.size w1 w5 := below_step (below_drew H1.out) hb5
  refine hK.out _ _ hNEW (fun hHeld2 => ?_)
  clear hK K
  try simp only [Act.put, List.setIfInBounds_toArray, List.set_cons_zero, List.set_cons_succ]
  refine wpAnyH_take (i := 4) (oi := { dst := some 18, op := Op.move (Operand.tmp 17), type := 4, pos := "ref.go:86", after := #[{ on := 3, ground := Ground.data }, { on := 3, ground := Ground.chain }], guard := none }) (v := ?av4) rfl (by kernel_rfl) (by kernel_rfl) (by kernel_rfl) (fun _ _ _ h => h) (Or.inl ⟨by rfl, ?ay4⟩) (by assumption) ?ar4
  case ay4 => (intro w hSw; (try dsimp only at hSw); go_simp; try (with_reducible rfl))
  try simp only [Act.put, List.setIfInBounds_toArray, List.set_cons_zero, List.set_cons_succ]
  refine wpAnyH_take (i := 5) (oi := { dst := some 19, op := Op.move (Operand.tmp 5), type := 23, pos := "ref.go:86", after := #[{ on := 4, ground := Ground.guard }], guard := some (4, true) }) (v := undef) rfl (by kernel_rfl) (by kernel_rfl) (by kernel_rfl) (fun _ _ _ h => h) (Or.inr ⟨by rfl, rfl⟩) (by assumption) ?_
  try simp only [Act.put, List.setIfInBounds_toArray, List.set_cons_zero, List.set_cons_succ]
  refine wpAnyH_take (i := 6) (oi := { dst := some 20, op := Op.fieldAddr 65 (Operand.tmp 2) 2, type := 0, pos := "ref.go:86", after := #[{ on := 4, ground := Ground.guard }], guard := some (4, true) }) (v := undef) rfl (by kernel_rfl) (by kernel_rfl) (by kernel_rfl) (fun _ _ _ h => h) (Or.inr ⟨by rfl, rfl⟩) (by assumption) ?_
  try simp only [Act.put, List.setIfInBounds_toArray, List.set_cons_zero, List.set_cons_succ]
  refine wpAnyH_take (i := 7) (oi := { dst := some 21, op := Op.load 3 (Operand.tmp 20), type := 3, pos := "ref.go:86", after := #[{ on := 6, ground := Ground.data }, { on := 4, ground := Ground.guard }], guard := some (4, true) }) (v := undef) rfl (by kernel_rfl) (by kernel_rfl) (by kernel_rfl) (fun _ _ _ h => h) (Or.inr ⟨by rfl, rfl⟩) (by assumption) ?_
  try simp only [Act.put, List.setIfInBounds_toArray, List.set_cons_zero, List.set_cons_succ]
  refine wpAnyH_take (i := 8) (oi := { dst := some 22, op := Op.indexAddr 23 (Operand.tmp 19) (Operand.tmp 21), type := 0, pos := "ref.go:86", after := #[{ on := 5, ground := Ground.data }, { on := 7, ground := Ground.data }, { on := 4, ground := Ground.guard }], guard := some (4, true) }) (v := undef) rfl (by kernel_rfl) (by kernel_rfl) (by kernel_rfl) (fun _ _ _ h => h) (Or.inr ⟨by rfl, rfl⟩) (by assumption) ?_
  try simp only [Act.put, List.setIfInBounds_toArray, List.set_cons_zero, List.set_cons_succ]
  refine wpAnyH_take (i := 9) (oi := { dst := some 23, op := Op.fieldAddr 63 (Operand.tmp 22) 0, type := 0, pos := "ref.go:86", after := #[{ on := 8, ground := Ground.data }, { on := 4, ground := Ground.guard }], guard := some (4, true) }) (v := undef) rfl (by kernel_rfl) (by kernel_rfl) (by kernel_rfl) (fun _ _ _ h => h) (Or.inr ⟨by rfl, rfl⟩) (by assumption) ?_
  try simp only [Act.put, List.setIfInBounds_toArray, List.set_cons_zero, List.set_cons_succ]
  refine wpAnyH_take (i := 10) (oi := { dst := some 24, op := Op.load 9 (Operand.tmp 23), type := 9, pos := "ref.go:86", after := #[{ on := 9, ground := Ground.data }, { on := 4, ground := Ground.guard }], guard := some (4, true) }) (v := undef) rfl (by kernel_rfl) (by kernel_rfl) (by kernel_rfl) (fun _ _ _ h => h) (Or.inr ⟨by rfl, rfl⟩) (by assumption) ?_
  try simp only [Act.put, List.setIfInBounds_toArray, List.set_cons_zero, List.set_cons_succ]
  refine wpAnyH_take (i := 11) (oi := { dst := some 25, op := Op.call { callee := Callee.value (Operand.func 42), args := #[Operand.tmp 24], argTypes := #[9] }, type := 4, pos := "ref.go:86", after := #[{ on := 10, ground := Ground.data }, { on := 4, ground := Ground.chain }, { on := 4, ground := Ground.guard }], guard := some (4, true) }) (v := undef) rfl (by kernel_rfl) (by kernel_rfl) (by kernel_rfl) (fun _ _ _ h => h) (Or.inr ⟨by rfl, rfl⟩) (by assumption) ?_
  try simp only [Act.put, List.setIfInBounds_toArray, List.set_cons_zero, List.set_cons_succ]
  refine wpAnyH_take (i := 12) (oi := { dst := some 26, op := Op.pick (Operand.tmp 18) (Operand.tmp 25) (Operand.const (Value.bool false)), type := 4, pos := "ref.go:86", after := #[{ on := 4, ground := Ground.data }, { on := 11, ground := Ground.data }], guard := none }) (v := ?av12) rfl (by kernel_rfl) (by kernel_rfl) (by kernel_rfl) (fun _ _ _ h => h) (Or.inl ⟨by rfl, ?ay12⟩) (by assumption) ?ar12
  case ay12 => (intro w hSw; (try dsimp only at hSw); go_simp; try (with_reducible rfl))
  try simp only [Act.put, List.setIfInBounds_toArray, List.set_cons_zero, List.set_cons_succ]
  refine wpAnyH_take (i := 13) (oi := { dst := some 27, op := Op.move (Operand.tmp 26), type := 4, pos := "ref.go:86", after := #[{ on := 12, ground := Ground.data }, { on := 11, ground := Ground.chain }], guard := none }) (v := ?av13) rfl (by kernel_rfl) (by kernel_rfl) (by kernel_rfl) (fun _ _ _ h => h) (Or.inl ⟨by rfl, ?ay13⟩) (by assumption) ?ar13
  case ay13 => (intro w hSw; (try dsimp only at hSw); go_simp; try (with_reducible rfl))
  try simp only [Act.put, List.setIfInBounds_toArray, List.set_cons_zero, List.set_cons_succ]
  refine wpAnyH_take (i := 14) (oi := { dst := some 28, op := Op.move (Operand.tmp 5), type := 23, pos := "ref.go:86", after := #[{ on := 13, ground := Ground.guard }], guard := some (13, true) }) (v := undef) rfl (by kernel_rfl) (by kernel_rfl) (by kernel_rfl) (fun _ _ _ h => h) (Or.inr ⟨by rfl, rfl⟩) (by assumption) ?_
  try simp only [Act.put, List.setIfInBounds_toArray, List.set_cons_zero, List.set_cons_succ]
  refine wpAnyH_take (i := 15) (oi := { dst := some 29, op := Op.move (Operand.tmp 5), type := 23, pos := "ref.go:86", after := #[{ on := 13, ground := Ground.guard }], guard := some (13, true) }) (v := undef) rfl (by kernel_rfl) (by kernel_rfl) (by kernel_rfl) (fun _ _ _ h => h) (Or.inr ⟨by rfl, rfl⟩) (by assumption) ?_
  try simp only [Act.put, List.setIfInBounds_toArray, List.set_cons_zero, List.set_cons_succ]
  refine wpAnyH_take (i := 16) (oi := { dst := some 30, op := Op.fieldAddr 65 (Operand.tmp 2) 2, type := 0, pos := "ref.go:86", after := #[{ on := 13, ground := Ground.guard }], guard := some (13, true) }) (v := undef) rfl (by kernel_rfl) (by kernel_rfl) (by kernel_rfl) (fun _ _ _ h => h) (Or.inr ⟨by rfl, rfl⟩) (by assumption) ?_
  try simp only [Act.put, List.setIfInBounds_toArray, List.set_cons_zero, List.set_cons_succ]
  refine wpAnyH_take (i := 17) (oi := { dst := some 31, op := Op.load 3 (Operand.tmp 30), type := 3, pos := "ref.go:86", after := #[{ on := 16, ground := Ground.data }, { on := 13, ground := Ground.guard }], guard := some (13, true) }) (v := undef) rfl (by kernel_rfl) (by kernel_rfl) (by kernel_rfl) (fun _ _ _ h => h) (Or.inr ⟨by rfl, rfl⟩) (by assumption) ?_
  try simp only [Act.put, List.setIfInBounds_toArray, List.set_cons_zero, List.set_cons_succ]
  refine wpAnyH_take (i := 18) (oi := { dst := some 32, op := Op.indexAddr 23 (Operand.tmp 29) (Operand.tmp 31), type := 0, pos := "ref.go:86", after := #[{ on := 15, ground := Ground.data }, { on := 17, ground := Ground.data }, { on := 13, ground := Ground.guard }], guard := some (13, true) }) (v := undef) rfl (by kernel_rfl) (by kernel_rfl) (by kernel_rfl) (fun _ _ _ h => h) (Or.inr ⟨by rfl, rfl⟩) (by assumption) ?_
  try simp only [Act.put, List.setIfInBounds_toArray, List.set_cons_zero, List.set_cons_succ]
  refine wpAnyH_take (i := 19) (oi := { dst := some 33, op := Op.fieldAddr 63 (Operand.tmp 32) 0, type := 0, pos := "ref.go:86", after := #[{ on := 18, ground := Ground.data }, { on := 13, ground := Ground.guard }], guard := some (13, true) }) (v := undef) rfl (by kernel_rfl) (by kernel_rfl) (by kernel_rfl) (fun _ _ _ h => h) (Or.inr ⟨by rfl, rfl⟩) (by assumption) ?_
  try simp only [Act.put, List.setIfInBounds_toArray, List.set_cons_zero, List.set_cons_succ]
  refine wpAnyH_take (i := 20) (oi := { dst := some 34, op := Op.load 9 (Operand.tmp 33), type := 9, pos := "ref.go:86", after := #[{ on := 19, ground := Ground.data }, { on := 13, ground := Ground.guard }], guard := some (13, true) }) (v := undef) rfl (by kernel_rfl) (by kernel_rfl) (by kernel_rfl) (fun _ _ _ h => h) (Or.inr ⟨by rfl, rfl⟩) (by assumption) ?_
  try simp only [Act.put, List.setIfInBounds_toArray, List.set_cons_zero, List.set_cons_succ]
  refine wpAnyH_take (i := 21) (oi := { dst := some 35, op := Op.call { callee := Callee.value (Operand.func 43), args := #[Operand.tmp 28, Operand.tmp 34], argTypes := #[23, 9] }, type := 3, pos := "ref.go:86", after := #[{ on := 14, ground := Ground.data }, { on := 20, ground := Ground.data }, { on := 13, ground := Ground.chain }, { on := 13, ground := Ground.guard }], guard := some (13, true) }) (v := undef) rfl (by kernel_rfl) (by kernel_rfl) (by kernel_rfl) (fun _ _ _ h => h) (Or.inr ⟨by rfl, rfl⟩) (by assumption) ?_
  try simp only [Act.put, List.setIfInBounds_toArray, List.set_cons_zero, List.set_cons_succ]
  refine wpAnyH_take (i := 22) (oi := { dst := some 36, op := Op.fieldAddr 65 (Operand.tmp 2) 2, type := 0, pos := "ref.go:86", after := #[{ on := 13, ground := Ground.guard }], guard := some (13, true) }) (v := undef) rfl (by kernel_rfl) (by kernel_rfl) (by kernel_rfl) (fun _ _ _ h => h) (Or.inr ⟨by rfl, rfl⟩) (by assumption) ?_
  try simp only [Act.put, List.setIfInBounds_toArray, List.set_cons_zero, List.set_cons_succ]
  refine wpAnyH_take (i := 23) (oi := { dst := some 37, op := Op.load 3 (Operand.tmp 36), type := 3, pos := "ref.go:86", after := #[{ on := 22, ground := Ground.data }, { on := 13, ground := Ground.guard }], guard := some (13, true) }) (v := undef) rfl (by kernel_rfl) (by kernel_rfl) (by kernel_rfl) (fun _ _ _ h => h) (Or.inr ⟨by rfl, rfl⟩) (by assumption) ?_
  try simp only [Act.put, List.setIfInBounds_toArray, List.set_cons_zero, List.set_cons_succ]
  refine wpAnyH_take (i := 24) (oi := { dst := some 38, op := Op.binOp BinOp.eql 3 (Operand.tmp 35) (Operand.tmp 37) 3, type := 4, pos := "ref.go:86", after := #[{ on := 21, ground := Ground.data }, { on := 23, ground := Ground.data }, { on := 13, ground := Ground.guard }], guard := some (13, true) }) (v := undef) rfl (by kernel_rfl) (by kernel_rfl) (by kernel_rfl) (fun _ _ _ h => h) (Or.inr ⟨by rfl, rfl⟩) (by assumption) ?_
  try simp only [Act.put, List.setIfInBounds_toArray, List.set_cons_zero, List.set_cons_succ]
  refine wpAnyH_take (i := 25) (oi := { dst := some 39, op := Op.pick (Operand.tmp 27) (Operand.tmp 38) (Operand.const (Value.bool false)), type := 4, pos := "ref.go:86", after := #[{ on := 13, ground := Ground.data }, { on := 24, ground := Ground.data }], guard := none }) (v := ?av25) rfl (by kernel_rfl) (by kernel_rfl) (by kernel_rfl) (fun _ _ _ h => h) (Or.inl ⟨by rfl, ?ay25⟩) (by assumption) ?ar25
  case ay25 => (intro w hSw; (try dsimp only at hSw); go_simp; try (with_reducible rfl))
  try simp only [Act.put, List.setIfInBounds_toArray, List.set_cons_zero, List.set_cons_succ]
  refine wpAnyH_take (i := 26) (oi := { dst := some 4, op := Op.assign (Operand.tmp 39), type := 4, pos := "ref.go:86", after := #[{ on := 25, ground := Ground.data }, { on := 21, ground := Ground.chain }, { on := 0, ground := Ground.phase }, { on := 1, ground := Ground.phase }, { on := 2, ground := Ground.phase }, { on := 3, ground := Ground.phase }, { on := 4, ground := Ground.phase }, { on := 5, ground := Ground.phase }, { on := 6, ground := Ground.phase }, { on := 7, ground := Ground.phase }, { on := 8, ground := Ground.phase }, { on := 9, ground := Ground.phase }, { on := 10, ground := Ground.phase }, { on := 11, ground := Ground.phase }, { on := 12, ground := Ground.phase }, { on := 13, ground := Ground.phase }, { on := 14, ground := Ground.phase }, { on := 15, ground := Ground.phase }, { on := 16, ground := Ground.phase }, { on := 17, ground := Ground.phase }, { on := 18, ground := Ground.phase }, { on := 19, ground := Ground.phase }, { on := 20, ground := Ground.phase }, { on := 21, ground := Ground.phase }, { on := 22, ground := Ground.phase }, { on := 23, ground := Ground.phase }, { on := 24, ground := Ground.phase }, { on := 25, ground := Ground.phase }], guard := none }) (v := ?av26) rfl (by kernel_rfl) (by kernel_rfl) (by kernel_rfl) (fun _ _ _ h => h) (Or.inl ⟨by rfl, ?ay26⟩) (by assumption) ?ar26
  case ay26 => (intro w hSw; (try dsimp only at hSw); go_simp; try (with_reducible rfl))
  try simp only [Act.put, List.setIfInBounds_toArray, List.set_cons_zero, List.set_cons_succ]
  refine wpAnyH_done (by kernel_rfl) ?_ _
  have HB5 : Hid (Below w1.heap.size w1 w5) := Lib.hid hNEW
  go_wp2
  go_ret
  exact ⟨rfl, below_step HW.out (below_step HV1.out HB5.out)⟩
set_option maxRecDepth 100000 in
set_option maxHeartbeats 8000000 in
theorem rres_fld_no2 (x : L NodeD) (p : ProgD) (ps : L FieldD) (n : Int) (f : Nat) (W w : World) (E : WEnv W x p ps) (hb : Below W.heap.size W w) (hn : n = -1 ∨ (0 ≤ n ∧ n.toNat < p.headers.l.length)) (F : L FieldD) (hFe : fldsL p n = F)
    (hF : LOk W 2 FieldD.cells F) (hf : f < F.l.length) (hs : F.l[f].name.size ≤ 1000) (h1 : rightH p n = true) (h2 : ident F.l[f].name = false) :
    Calls Tryz.prog 22 #[.agg #[.int .i64 2, .int .i64 n, .int .i64 f], .agg (scopeCells p ps)] w fun e w' => e = .returned (.bool (resM p ps.l ⟨2, n, f⟩)) ∧ Below w.heap.size w w' := by
  obtain ⟨V, hV, hw, HB, hp⟩ := box2 w #[.int .i64 2, .int .i64 n, .int .i64 f] 65 (scopeCells p ps) 44
  have HW := Lib.hid hw
  have HI := Lib.hid (fun u => show Calls Tryz.prog 42 #[.string F.l[f].name] u fun e w' => e = .returned (.bool false) ∧ u = w' from by
    have := risIdent_any F.l[f].name u (by unfold maxLen; omega)
    rw [show identM F.l[f].name.data.toList = false from h2] at this; exact this)
  have HG := Lib.hid (fun u (hu : Below V.heap.size V u) => rfields_any p ps n u (E.prog.below (below_step hb (below_step hw hu))) hn)
  have HC := Lib.hid (fun u (hu : Below V.heap.size V u) => show Calls Tryz.prog 41 #[.agg (scopeCells p ps), .int .i64 n] u fun e w' => e = .returned (.bool true) ∧ Below u.heap.size u w' from by
    have := rright_any p ps n u (E.prog.below (below_step hb (below_step hw hu))) E.nm hn
    rw [h1] at this; exact this)
  have HR : Hid (resM p ps.l ⟨2, n, f⟩ = false) := Lib.hid (by
    rw [show resM p ps.l ⟨2, n, f⟩ = (rightH p n && rightB (fNames (fldsL p n).l) (fldB (fldsL p n).l f) f) from rfl, h1, hFe, fld_at' hf, rightB, h2]; rfl)
  have hfi : (f : Int) < (F.l.length : Int) := by omega
  obtain ⟨g, of, hA, hall⟩ := FieldD.atA hF hf
  have hdd := fun u (hu : Below V.heap.size V u) => (hall u (below_step hb (below_step hw hu))).1
  rw [HR.out]
  rw [hFe] at HG
  clear hall E hs HR h1 h2 hF hFe
  simp only [hA] at HG
  generalize F.l[f].name = nm at *
  generalize F.l.length = fl at *
  generalize F.c = fc at *
  clear hA
  have H0 := Lib.hid HB
  go_enter Tryz.func22, Tryz.ntmps22
  go_upto_region 1 with fail
  rw [← hV]
  clear hV
  have hp1 := hp V H0.out
  go_wp2_with fail
  refine (HG.out _ (by first | exact HB | exact below_alloc HB _ | exact below_alloc (below_alloc HB _) _ | exact below_alloc (below_alloc (below_alloc HB _) _) _)).mono ?_
  rintro e w1 ⟨rfl, hbN⟩
  replace HB := below_step (by first | exact HB | exact below_alloc HB _ | exact below_alloc (below_alloc HB _) _ | exact below_alloc (below_alloc (below_alloc HB _) _) _) hbN
  clear hbN
  have HV1 := Lib.hid HB
  have H1 := Lib.hid (Below.refl w1.heap.size w1)
  have hp2 := fun u (hu : Below w1.heap.size w1 u) => hp u (below_step HV1.out hu)
  have hd2 := fun u (hu : Below w1.heap.size w1 u) => hdd u (below_step HV1.out hu)
  clear hp hdd HB hp1
  have hp3 := hp2 w1 H1.out
  go_upto_region 4 with fail
  clear hp3
  refine wp_region_held_drew (S := fun w' => Below w1.heap.size w1 w') (by kernel_rfl) (below_drew H1.out) (fun hHeld => ?_)
  refine wpAnyH_take (i := 0) (oi := { dst := some 14, op := Op.load 44 (Operand.tmp 3), type := 44, pos := "ref.go:86", after := #[], guard := none }) (v := ?bv0) rfl (by kernel_rfl) (by kernel_rfl) (by kernel_rfl) (fun _ _ _ h => h) (Or.inl ⟨by rfl, ?by0⟩) (by assumption) ?br0
  case by0 => (intro w hSw; (try dsimp only at hSw); go_simp; try (with_reducible rfl))
  try simp only [Act.put, List.setIfInBounds_toArray, List.set_cons_zero, List.set_cons_succ]
  refine wpAnyH_take (i := 1) (oi := { dst := some 15, op := Op.fieldAddr 65 (Operand.tmp 2) 1, type := 0, pos := "ref.go:86", after := #[], guard := none }) (v := ?bv1) rfl (by kernel_rfl) (by kernel_rfl) (by kernel_rfl) (fun _ _ _ h => h) (Or.inl ⟨by rfl, ?by1⟩) (by assumption) ?br1
  case by1 => (intro w hSw; (try dsimp only at hSw); go_simp; try (with_reducible rfl))
  try simp only [Act.put, List.setIfInBounds_toArray, List.set_cons_zero, List.set_cons_succ]
  refine wpAnyH_take (i := 2) (oi := { dst := some 16, op := Op.load 3 (Operand.tmp 15), type := 3, pos := "ref.go:86", after := #[{ on := 1, ground := Ground.data }], guard := none }) (v := ?bv2) rfl (by kernel_rfl) (by kernel_rfl) (by kernel_rfl) (fun _ _ _ h => h) (Or.inl ⟨by rfl, ?by2⟩) (by assumption) ?br2
  case by2 => (intro w hSw; (try dsimp only at hSw); go_simp; try (with_reducible rfl))
  try simp only [Act.put, List.setIfInBounds_toArray, List.set_cons_zero, List.set_cons_succ]
  refine wpAnyH_ready (rs := [3]) (by kernel_rfl) (by simp) ?_
  refine AllReadyH.cons (o := { dst := some 17, op := Op.call { callee := Callee.value (Operand.func 41), args := #[Operand.tmp 14, Operand.tmp 16], argTypes := #[44, 3] }, type := 4, pos := "ref.go:86", after := #[{ on := 0, ground := Ground.data }, { on := 2, ground := Ground.data }], guard := none }) rfl (fun K hK => ?_) AllReadyH.nil
  go_simp
  go_at_call 41
  refine (HC.out _ (below_step HV1.out (below_drew H1.out))).mono ?_
  rintro r w5 ⟨rfl, hb5⟩
  have hNEW : Below w1.heap.size w1 w5 := below_step (below_drew H1.out) hb5
  refine hK.out _ _ hNEW (fun hHeld2 => ?_)
  clear hK K
  try simp only [Act.put, List.setIfInBounds_toArray, List.set_cons_zero, List.set_cons_succ]
  refine wpAnyH_take (i := 4) (oi := { dst := some 18, op := Op.move (Operand.tmp 17), type := 4, pos := "ref.go:86", after := #[{ on := 3, ground := Ground.data }, { on := 3, ground := Ground.chain }], guard := none }) (v := ?bv4) rfl (by kernel_rfl) (by kernel_rfl) (by kernel_rfl) (fun _ _ _ h => h) (Or.inl ⟨by rfl, ?by4⟩) (by assumption) ?br4
  case by4 => (intro w hSw; (try dsimp only at hSw); go_simp; try (with_reducible rfl))
  try simp only [Act.put, List.setIfInBounds_toArray, List.set_cons_zero, List.set_cons_succ]
  refine wpAnyH_take (i := 5) (oi := { dst := some 19, op := Op.move (Operand.tmp 5), type := 23, pos := "ref.go:86", after := #[{ on := 4, ground := Ground.guard }], guard := some (4, true) }) (v := ?bv5) rfl (by kernel_rfl) (by kernel_rfl) (by kernel_rfl) (fun _ _ _ h => h) (Or.inl ⟨by rfl, ?by5⟩) (by assumption) ?br5
  case by5 => (intro w hSw; (try dsimp only at hSw); go_simp; try (with_reducible rfl))
  try simp only [Act.put, List.setIfInBounds_toArray, List.set_cons_zero, List.set_cons_succ]
  refine wpAnyH_take (i := 6) (oi := { dst := some 20, op := Op.fieldAddr 65 (Operand.tmp 2) 2, type := 0, pos := "ref.go:86", after := #[{ on := 4, ground := Ground.guard }], guard := some (4, true) }) (v := ?bv6) rfl (by kernel_rfl) (by kernel_rfl) (by kernel_rfl) (fun _ _ _ h => h) (Or.inl ⟨by rfl, ?by6⟩) (by assumption) ?br6
  case by6 => (intro w hSw; (try dsimp only at hSw); go_simp; try (with_reducible rfl))
  try simp only [Act.put, List.setIfInBounds_toArray, List.set_cons_zero, List.set_cons_succ]
  refine wpAnyH_take (i := 7) (oi := { dst := some 21, op := Op.load 3 (Operand.tmp 20), type := 3, pos := "ref.go:86", after := #[{ on := 6, ground := Ground.data }, { on := 4, ground := Ground.guard }], guard := some (4, true) }) (v := ?bv7) rfl (by kernel_rfl) (by kernel_rfl) (by kernel_rfl) (fun _ _ _ h => h) (Or.inl ⟨by rfl, ?by7⟩) (by assumption) ?br7
  case by7 => (intro w hSw; (try dsimp only at hSw); go_simp; try (with_reducible rfl))
  try simp only [Act.put, List.setIfInBounds_toArray, List.set_cons_zero, List.set_cons_succ]
  refine wpAnyH_take (i := 8) (oi := { dst := some 22, op := Op.indexAddr 23 (Operand.tmp 19) (Operand.tmp 21), type := 0, pos := "ref.go:86", after := #[{ on := 5, ground := Ground.data }, { on := 7, ground := Ground.data }, { on := 4, ground := Ground.guard }], guard := some (4, true) }) (v := ?bv8) rfl (by kernel_rfl) (by kernel_rfl) (by kernel_rfl) (fun _ _ _ h => h) (Or.inl ⟨by rfl, ?by8⟩) (by assumption) ?br8
  case by8 => (intro w hSw; (try dsimp only at hSw); go_simp; try (with_reducible rfl))
  try simp only [Act.put, List.setIfInBounds_toArray, List.set_cons_zero, List.set_cons_succ]
  refine wpAnyH_take (i := 9) (oi := { dst := some 23, op := Op.fieldAddr 63 (Operand.tmp 22) 0, type := 0, pos := "ref.go:86", after := #[{ on := 8, ground := Ground.data }, { on := 4, ground := Ground.guard }], guard := some (4, true) }) (v := ?bv9) rfl (by kernel_rfl) (by kernel_rfl) (by kernel_rfl) (fun _ _ _ h => h) (Or.inl ⟨by rfl, ?by9⟩) (by assumption) ?br9
  case by9 => (intro w hSw; (try dsimp only at hSw); go_simp; try (with_reducible rfl))
  try simp only [Act.put, List.setIfInBounds_toArray, List.set_cons_zero, List.set_cons_succ]
  refine wpAnyH_take (i := 10) (oi := { dst := some 24, op := Op.load 9 (Operand.tmp 23), type := 9, pos := "ref.go:86", after := #[{ on := 9, ground := Ground.data }, { on := 4, ground := Ground.guard }], guard := some (4, true) }) (v := ?bv10) rfl (by kernel_rfl) (by kernel_rfl) (by kernel_rfl) (fun _ _ _ h => h) (Or.inl ⟨by rfl, ?by10⟩) (by assumption) ?br10
  case by10 => (intro w hSw; (try dsimp only at hSw); go_simp; try (with_reducible rfl))
  try simp only [Act.put, List.setIfInBounds_toArray, List.set_cons_zero, List.set_cons_succ]
  refine wpAnyH_ready (rs := [11]) (by kernel_rfl) (by simp) ?_
  refine AllReadyH.cons (o := { dst := some 25, op := Op.call { callee := Callee.value (Operand.func 42), args := #[Operand.tmp 24], argTypes := #[9] }, type := 4, pos := "ref.go:86", after := #[{ on := 10, ground := Ground.data }, { on := 4, ground := Ground.chain }, { on := 4, ground := Ground.guard }], guard := some (4, true) }) rfl (fun K hK => ?_) AllReadyH.nil
  rw [if_pos (by rfl)]
  go_simp
  go_at_call 42
  refine (HI.out _).mono ?_
  rintro r w6 ⟨rfl, rfl⟩
  refine hK.out _ _ hNEW (fun hHeld2 => ?_)
  clear hK K
  try simp only [Act.put, List.setIfInBounds_toArray, List.set_cons_zero, List.set_cons_succ]
  refine wpAnyH_take (i := 12) (oi := { dst := some 26, op := Op.pick (Operand.tmp 18) (Operand.tmp 25) (Operand.const (Value.bool false)), type := 4, pos := "ref.go:86", after := #[{ on := 4, ground := Ground.data }, { on := 11, ground := Ground.data }], guard := none }) (v := ?bv12) rfl (by kernel_rfl) (by kernel_rfl) (by kernel_rfl) (fun _ _ _ h => h) (Or.inl ⟨by rfl, ?by12⟩) (by assumption) ?br12
  case by12 => (intro w hSw; (try dsimp only at hSw); go_simp; try (with_reducible rfl))
  try simp only [Act.put, List.setIfInBounds_toArray, List.set_cons_zero, List.set_cons_succ]
  refine wpAnyH_take (i := 13) (oi := { dst := some 27, op := Op.move (Operand.tmp 26), type := 4, pos := "ref.go:86", after := #[{ on := 12, ground := Ground.data }, { on := 11, ground := Ground.chain }], guard := none }) (v := ?bv13) rfl (by kernel_rfl) (by kernel_rfl) (by kernel_rfl) (fun _ _ _ h => h) (Or.inl ⟨by rfl, ?by13⟩) (by assumption) ?br13
  case by13 => (intro w hSw; (try dsimp only at hSw); go_simp; try (with_reducible rfl))
  try simp only [Act.put, List.setIfInBounds_toArray, List.set_cons_zero, List.set_cons_succ]
  refine wpAnyH_take (i := 14) (oi := { dst := some 28, op := Op.move (Operand.tmp 5), type := 23, pos := "ref.go:86", after := #[{ on := 13, ground := Ground.guard }], guard := some (13, true) }) (v := undef) rfl (by kernel_rfl) (by kernel_rfl) (by kernel_rfl) (fun _ _ _ h => h) (Or.inr ⟨by rfl, rfl⟩) (by assumption) ?_
  try simp only [Act.put, List.setIfInBounds_toArray, List.set_cons_zero, List.set_cons_succ]
  refine wpAnyH_take (i := 15) (oi := { dst := some 29, op := Op.move (Operand.tmp 5), type := 23, pos := "ref.go:86", after := #[{ on := 13, ground := Ground.guard }], guard := some (13, true) }) (v := undef) rfl (by kernel_rfl) (by kernel_rfl) (by kernel_rfl) (fun _ _ _ h => h) (Or.inr ⟨by rfl, rfl⟩) (by assumption) ?_
  try simp only [Act.put, List.setIfInBounds_toArray, List.set_cons_zero, List.set_cons_succ]
  refine wpAnyH_take (i := 16) (oi := { dst := some 30, op := Op.fieldAddr 65 (Operand.tmp 2) 2, type := 0, pos := "ref.go:86", after := #[{ on := 13, ground := Ground.guard }], guard := some (13, true) }) (v := undef) rfl (by kernel_rfl) (by kernel_rfl) (by kernel_rfl) (fun _ _ _ h => h) (Or.inr ⟨by rfl, rfl⟩) (by assumption) ?_
  try simp only [Act.put, List.setIfInBounds_toArray, List.set_cons_zero, List.set_cons_succ]
  refine wpAnyH_take (i := 17) (oi := { dst := some 31, op := Op.load 3 (Operand.tmp 30), type := 3, pos := "ref.go:86", after := #[{ on := 16, ground := Ground.data }, { on := 13, ground := Ground.guard }], guard := some (13, true) }) (v := undef) rfl (by kernel_rfl) (by kernel_rfl) (by kernel_rfl) (fun _ _ _ h => h) (Or.inr ⟨by rfl, rfl⟩) (by assumption) ?_
  try simp only [Act.put, List.setIfInBounds_toArray, List.set_cons_zero, List.set_cons_succ]
  refine wpAnyH_take (i := 18) (oi := { dst := some 32, op := Op.indexAddr 23 (Operand.tmp 29) (Operand.tmp 31), type := 0, pos := "ref.go:86", after := #[{ on := 15, ground := Ground.data }, { on := 17, ground := Ground.data }, { on := 13, ground := Ground.guard }], guard := some (13, true) }) (v := undef) rfl (by kernel_rfl) (by kernel_rfl) (by kernel_rfl) (fun _ _ _ h => h) (Or.inr ⟨by rfl, rfl⟩) (by assumption) ?_
  try simp only [Act.put, List.setIfInBounds_toArray, List.set_cons_zero, List.set_cons_succ]
  refine wpAnyH_take (i := 19) (oi := { dst := some 33, op := Op.fieldAddr 63 (Operand.tmp 32) 0, type := 0, pos := "ref.go:86", after := #[{ on := 18, ground := Ground.data }, { on := 13, ground := Ground.guard }], guard := some (13, true) }) (v := undef) rfl (by kernel_rfl) (by kernel_rfl) (by kernel_rfl) (fun _ _ _ h => h) (Or.inr ⟨by rfl, rfl⟩) (by assumption) ?_
  try simp only [Act.put, List.setIfInBounds_toArray, List.set_cons_zero, List.set_cons_succ]
  refine wpAnyH_take (i := 20) (oi := { dst := some 34, op := Op.load 9 (Operand.tmp 33), type := 9, pos := "ref.go:86", after := #[{ on := 19, ground := Ground.data }, { on := 13, ground := Ground.guard }], guard := some (13, true) }) (v := undef) rfl (by kernel_rfl) (by kernel_rfl) (by kernel_rfl) (fun _ _ _ h => h) (Or.inr ⟨by rfl, rfl⟩) (by assumption) ?_
  try simp only [Act.put, List.setIfInBounds_toArray, List.set_cons_zero, List.set_cons_succ]
  refine wpAnyH_take (i := 21) (oi := { dst := some 35, op := Op.call { callee := Callee.value (Operand.func 43), args := #[Operand.tmp 28, Operand.tmp 34], argTypes := #[23, 9] }, type := 3, pos := "ref.go:86", after := #[{ on := 14, ground := Ground.data }, { on := 20, ground := Ground.data }, { on := 13, ground := Ground.chain }, { on := 13, ground := Ground.guard }], guard := some (13, true) }) (v := undef) rfl (by kernel_rfl) (by kernel_rfl) (by kernel_rfl) (fun _ _ _ h => h) (Or.inr ⟨by rfl, rfl⟩) (by assumption) ?_
  try simp only [Act.put, List.setIfInBounds_toArray, List.set_cons_zero, List.set_cons_succ]
  refine wpAnyH_take (i := 22) (oi := { dst := some 36, op := Op.fieldAddr 65 (Operand.tmp 2) 2, type := 0, pos := "ref.go:86", after := #[{ on := 13, ground := Ground.guard }], guard := some (13, true) }) (v := undef) rfl (by kernel_rfl) (by kernel_rfl) (by kernel_rfl) (fun _ _ _ h => h) (Or.inr ⟨by rfl, rfl⟩) (by assumption) ?_
  try simp only [Act.put, List.setIfInBounds_toArray, List.set_cons_zero, List.set_cons_succ]
  refine wpAnyH_take (i := 23) (oi := { dst := some 37, op := Op.load 3 (Operand.tmp 36), type := 3, pos := "ref.go:86", after := #[{ on := 22, ground := Ground.data }, { on := 13, ground := Ground.guard }], guard := some (13, true) }) (v := undef) rfl (by kernel_rfl) (by kernel_rfl) (by kernel_rfl) (fun _ _ _ h => h) (Or.inr ⟨by rfl, rfl⟩) (by assumption) ?_
  try simp only [Act.put, List.setIfInBounds_toArray, List.set_cons_zero, List.set_cons_succ]
  refine wpAnyH_take (i := 24) (oi := { dst := some 38, op := Op.binOp BinOp.eql 3 (Operand.tmp 35) (Operand.tmp 37) 3, type := 4, pos := "ref.go:86", after := #[{ on := 21, ground := Ground.data }, { on := 23, ground := Ground.data }, { on := 13, ground := Ground.guard }], guard := some (13, true) }) (v := undef) rfl (by kernel_rfl) (by kernel_rfl) (by kernel_rfl) (fun _ _ _ h => h) (Or.inr ⟨by rfl, rfl⟩) (by assumption) ?_
  try simp only [Act.put, List.setIfInBounds_toArray, List.set_cons_zero, List.set_cons_succ]
  refine wpAnyH_take (i := 25) (oi := { dst := some 39, op := Op.pick (Operand.tmp 27) (Operand.tmp 38) (Operand.const (Value.bool false)), type := 4, pos := "ref.go:86", after := #[{ on := 13, ground := Ground.data }, { on := 24, ground := Ground.data }], guard := none }) (v := ?bv25) rfl (by kernel_rfl) (by kernel_rfl) (by kernel_rfl) (fun _ _ _ h => h) (Or.inl ⟨by rfl, ?by25⟩) (by assumption) ?br25
  case by25 => (intro w hSw; (try dsimp only at hSw); go_simp; try (with_reducible rfl))
  try simp only [Act.put, List.setIfInBounds_toArray, List.set_cons_zero, List.set_cons_succ]
  refine wpAnyH_take (i := 26) (oi := { dst := some 4, op := Op.assign (Operand.tmp 39), type := 4, pos := "ref.go:86", after := #[{ on := 25, ground := Ground.data }, { on := 21, ground := Ground.chain }, { on := 0, ground := Ground.phase }, { on := 1, ground := Ground.phase }, { on := 2, ground := Ground.phase }, { on := 3, ground := Ground.phase }, { on := 4, ground := Ground.phase }, { on := 5, ground := Ground.phase }, { on := 6, ground := Ground.phase }, { on := 7, ground := Ground.phase }, { on := 8, ground := Ground.phase }, { on := 9, ground := Ground.phase }, { on := 10, ground := Ground.phase }, { on := 11, ground := Ground.phase }, { on := 12, ground := Ground.phase }, { on := 13, ground := Ground.phase }, { on := 14, ground := Ground.phase }, { on := 15, ground := Ground.phase }, { on := 16, ground := Ground.phase }, { on := 17, ground := Ground.phase }, { on := 18, ground := Ground.phase }, { on := 19, ground := Ground.phase }, { on := 20, ground := Ground.phase }, { on := 21, ground := Ground.phase }, { on := 22, ground := Ground.phase }, { on := 23, ground := Ground.phase }, { on := 24, ground := Ground.phase }, { on := 25, ground := Ground.phase }], guard := none }) (v := ?bv26) rfl (by kernel_rfl) (by kernel_rfl) (by kernel_rfl) (fun _ _ _ h => h) (Or.inl ⟨by rfl, ?by26⟩) (by assumption) ?br26
  case by26 => (intro w hSw; (try dsimp only at hSw); go_simp; try (with_reducible rfl))
  try simp only [Act.put, List.setIfInBounds_toArray, List.set_cons_zero, List.set_cons_succ]
  refine wpAnyH_done (by kernel_rfl) ?_ _
  have HB5 : Hid (Below w1.heap.size w1 w5) := Lib.hid hNEW
  go_wp2
  go_ret
  exact ⟨rfl, below_step HW.out (below_step HV1.out HB5.out)⟩
end Go.Proofs.YtpomjcndeanjgaaGreatDoor
namespace Go.Proofs.YtpomjcndeanjgaaGreatDoor
open Go.RowKit
theorem rres_any (x : L NodeD) (p : ProgD) (ps : L FieldD) (y : NodeD) (W w : World) (E : WEnv W x p ps) (hb : Below W.heap.size W w) (hk : NodeOk p ps.l y) :
    Calls Tryz.prog 22 #[.agg #[.int .i64 y.op, .int .i64 y.n, .int .i64 y.w], .agg (scopeCells p ps)] w fun e w' => e = .returned (.bool (resM p ps.l y)) ∧ Below w.heap.size w w' := by
  obtain ⟨op, n, wd⟩ := y
  by_cases h2 : op = 2
  · subst h2
    obtain ⟨hn, w0, w1⟩ : (n = -1 ∨ (0 ≤ n ∧ n.toNat < p.headers.l.length)) ∧ 0 ≤ wd ∧ wd.toNat < (fldsL p n).l.length := hk.c2 rfl
    obtain ⟨f, rfl⟩ : ∃ f : Nat, wd = f := ⟨wd.toNat, (Int.toNat_of_nonneg w0).symm⟩
    have hf : f < (fldsL p n).l.length := by simpa using w1
    have hF : LOk W 2 FieldD.cells (fldsL p n) ∧ ∀ z ∈ (fldsL p n).l, z.name.size ≤ 1000 := by
      rcases hn with rfl | ⟨h0, h1⟩
      · exact ⟨E.prog.metadata, E.nm.met⟩
      · obtain ⟨k, rfl⟩ : ∃ k : Nat, n = k := ⟨n.toNat, (Int.toNat_of_nonneg h0).symm⟩
        have hk1 : k < p.headers.l.length := by simpa using h1
        rw [(hdr_at' p hk1).2]
        exact ⟨(E.prog.hdr _ (List.getElem_mem hk1)).fields, E.nm.fld _ (List.getElem_mem hk1)⟩
    rcases h1 : rightH p n with _ | _
    · exact rres_fld_no1 x p ps n f W w E hb hn _ rfl hF.1 hf h1
    · rcases h2 : ident (fldsL p n).l[f].name with _ | _
      · exact rres_fld_no2 x p ps n f W w E hb hn _ rfl hF.1 hf (hF.2 _ (List.getElem_mem hf)) h1 h2
      · exact rres_fld_yes x p ps n f W w E hb hn _ rfl hF.1 hf (hF.2 _ (List.getElem_mem hf)) h1 h2
  by_cases h3 : op = 3
  · subst h3
    obtain ⟨n0, n1⟩ : 0 ≤ n ∧ n.toNat < ps.l.length := hk.c3 rfl
    obtain ⟨k, rfl⟩ : ∃ k : Nat, n = k := ⟨n.toNat, (Int.toNat_of_nonneg n0).symm⟩
    exact rres_par x p ps k wd W w E hb (by simpa using n1)
  by_cases h4 : op = 4
  · subst h4
    exact rres_valid x p ps n wd W w E hb (hk.c4 rfl)
  exact rres_other p ps op n wd w h2 h3 h4
theorem tx_ok {p : ProgD} {ps : List FieldD} {l : List NodeD} {i j : Nat} {s : ByteArray} (h : Tx p ps l i j s) : ∀ k (hk : k < l.length), i ≤ k → k < j → NodeOk p ps l[k] := by
  have hd : ∀ {i : Nat} {x : NodeD}, l[i]? = some x → ∀ k (hk : k < l.length), k = i → NodeOk p ps x → NodeOk p ps l[k] := fun {i x} h k hk e o => by
    subst e
    rw [List.getElem?_eq_getElem hk] at h
    injection h with h
    rw [h]; exact o
  induction h with
  | @leaf i x h ha ho => intro k hk h1 h2; exact hd h k hk (by omega) ho
  | @un i j x y s h ha ho hy t1 ih =>
    intro k hk h1 h2
    rcases Nat.lt_or_ge i k with h3 | h3
    · exact ih k hk (by omega) h2
    · exact hd h k hk (by omega) ho
  | @bi i m j x y z s t h ha ho hy t1 hz t2 ih1 ih2 =>
    intro k hk h1 h2
    rcases Nat.lt_or_ge i k with h3 | h3
    · rcases Nat.lt_or_ge k m with h4 | h4
      · exact ih1 k hk (by omega) h4
      · exact ih2 k hk h4 h2
    · exact hd h k hk (by omega) ho
  | @tri i m n j x y z u s t r h ha ho hy t1 hz t2 hu t3 ih1 ih2 ih3 =>
    intro k hk h1 h2
    rcases Nat.lt_or_ge i k with h3 | h3
    · rcases Nat.lt_or_ge k m with h4 | h4
      · exact ih1 k hk (by omega) h4
      · rcases Nat.lt_or_ge k n with h5 | h5
        · exact ih2 k hk h4 h5
        · exact ih3 k hk h5 h2
    · exact hd h k hk (by omega) ho
end Go.Proofs.YtpomjcndeanjgaaGreatDoor
namespace Go.Proofs.YtpomjcndeanjgaaGreatDoor
open Go.RowKit
set_option maxRecDepth 100000 in
set_option maxHeartbeats 4000000 in
theorem rleaf_any (p : ProgD) (ps : L FieldD) (op n wd : Int) (w : World) (o : ProgOk w p) (hps : LOk w 2 FieldD.cells ps) :
    Calls Tryz.prog 79 #[.agg #[.int .i64 op, .int .i64 n, .int .i64 wd], .agg (scopeCells p ps)] w fun e w' =>
      e = .returned (.tuple #[.int .i64 (primM p ps.l ⟨op, n, wd⟩).1, .int .i64 (primM p ps.l ⟨op, n, wd⟩).2]) ∧ Below w.heap.size w w' := by
  have HO := Lib.hid o
  have HP := Lib.hid hps
  clear o hps
  obtain ⟨W, hW, hw, HB, hp⟩ := box2 w #[.int .i64 op, .int .i64 n, .int .i64 wd] 65 (scopeCells p ps) 44
  have HW := Lib.hid hw
  clear hw
  have HR := Lib.hid (primM.eq_1 p ps.l ⟨op, n, wd⟩)
  by_cases k1 : op = 1
  · subst k1
    replace HR := Lib.hid (HR.out.trans (if_pos rfl))
    have hm := maskM_lt wd
    have hwr : IntKind.i64.wrap (maskM wd : Int) = (maskM wd : Int) := IntWalk.i64_in _ (by omega)
    go_enter Tryz.func79, Tryz.ntmps79
    go_upto_region 1 with fail
    rw [← hW]
    clear hW
    go_wp2_with fail
    refine (rwide_any wd _).mono ?_
    rintro e w' ⟨rfl, rfl⟩
    cases hv : okW wd
    · replace HR := Lib.hid (HR.out.trans (if_neg (show ¬ okW wd = true by rw [hv]; simp)))
      rw [wideM_bad hv]
      go_wp2
      go_quiet (fail)
      go_wp2
      go_ret2
      exact ⟨ret_pp HR.out, below_step HW.out (below_drewN HB _)⟩
    · replace HR := Lib.hid (HR.out.trans (if_pos hv))
      rw [wideM_ok hv]
      by_cases k2 : n < 0
      · replace HR := Lib.hid (HR.out.trans (if_pos (.inl k2)))
        have k2' : decide (n < 0) = true := decide_eq_true k2
        go_wp2
        go_quiet (fail)
        go_wp2
        go_ret2
        exact ⟨ret_pp HR.out, below_step HW.out (below_drewN HB _)⟩
      · have k2' : decide (n < 0) = false := decide_eq_false k2
        by_cases k3 : (maskM wd : Int) < n
        all_goals
          first
            | replace HR := Lib.hid (HR.out.trans (if_pos (Or.inr k3)))
            | replace HR := Lib.hid (HR.out.trans (if_neg (show ¬ (n < 0 ∨ (maskM wd : Int) < n) from fun h => h.elim k2 k3)))
          have H0 := Lib.hid HB
          clear HB
          go_wp2
          go_region_held3 (fun w' => Below W.heap.size W w') (first | exact H0.out | exact below_drew H0.out | (exact below_step (by assumption) (by assumption)) | assumption)
            (first | (go_at_call 106; refine (rmask_any wd _).mono ?_; rintro e w1 ⟨rfl, rfl⟩))
          have HB5 : Hid (Below W.heap.size W _) := Lib.hid (by assumption)
          have HB := HB5.out
          go_wp2
          go_ret2
          exact ⟨ret_pp HR.out, below_step HW.out HB⟩
  replace HR := Lib.hid (HR.out.trans (if_neg k1))
  have k1' : (op == 1) = false := beq_eq_false_iff_ne.2 k1
  by_cases k2 : op = 2
  · subst k2
    replace HR := Lib.hid (HR.out.trans (if_pos rfl))
    have hca := @World.cell?_alloc_some
    go_enter Tryz.func79, Tryz.ntmps79
    go_upto_region 1 with fail
    rw [← hW]
    clear hW
    go_wp2_with fail
    refine (rdeclared_any p n wd _ (HO.out.below (below_step HW.out (by first | exact HB | exact below_alloc HB _ | exact below_alloc (below_alloc HB _) _ | exact below_alloc (below_alloc (below_alloc HB _) _) _)))).mono ?_
    rintro e w1 ⟨rfl, hbN⟩
    replace HB := below_step (by first | exact HB | exact below_alloc HB _ | exact below_alloc (below_alloc HB _) _ | exact below_alloc (below_alloc (below_alloc HB _) _) _) hbN
    clear hbN
    rcases hd : declF p n wd with _ | y
    · simp only [declM, hd, Option.map_none] at HR
      simp only [declV, Option.getD_none, Option.isSome_none]
      go_wp2
      go_ret2
      exact ⟨ret_pp HR.out, below_step HW.out (by first | exact HB | exact below_alloc HB _ | exact below_alloc (below_alloc HB _) _ | exact below_alloc (below_alloc (below_alloc HB _) _) _)⟩
    · simp only [declM, hd, Option.map_some] at HR
      simp only [declV, Option.getD_some, Option.isSome_some]
      go_wp2_with fail
      refine (rwide_any y.width _).mono ?_
      rintro e w' ⟨rfl, rfl⟩
      go_wp2
      go_ret2
      exact ⟨ret_pp HR.out, below_step HW.out (by first | exact HB | exact below_alloc HB _ | exact below_alloc (below_alloc HB _) _ | exact below_alloc (below_alloc (below_alloc HB _) _) _)⟩
  replace HR := Lib.hid (HR.out.trans (if_neg k2))
  have k2' : (op == 2) = false := beq_eq_false_iff_ne.2 k2
  by_cases k3 : op = 3
  · subst k3
    replace HR := Lib.hid (HR.out.trans (if_pos rfl))
    by_cases k4 : n < 0
    · replace HR := Lib.hid (HR.out.trans (if_pos k4))
      go_enter Tryz.func79, Tryz.ntmps79
      go_upto_region 1 with fail
      rw [← hW]
      clear hW
      go_wp2
      go_ret2
      exact ⟨ret_pp HR.out, below_step HW.out HB⟩
    · replace HR := Lib.hid (HR.out.trans (if_neg k4))
      obtain ⟨k, rfl⟩ : ∃ k : Nat, n = k := ⟨n.toNat, by omega⟩
      by_cases k5 : k < ps.l.length
      · obtain ⟨g, of, hA, hq⟩ := FieldD.atA (HP.out.below HW.out (Nat.le_refl _)) k5
        have HR2 := Lib.hid (show primM p ps.l ⟨3, k, wd⟩ = wideM (ps.l[k]).width by rw [HR.out]; simp [k5])
        simp only [scopeCells, hA] at hW hp ⊢
        generalize ps.l[k] = y at *
        go_enter Tryz.func79, Tryz.ntmps79
        go_upto_region 1 with fail
        rw [← hW]
        clear hW
        go_wp2_with fail
        refine (rwide_any y.width _).mono ?_
        rintro e w' ⟨rfl, rfl⟩
        go_wp2
        go_ret2
        exact ⟨ret_pp HR2.out, below_step HW.out HB⟩
      · have HR2 := Lib.hid (show primM p ps.l ⟨3, k, wd⟩ = (0, 8) by rw [HR.out]; simp [List.getElem?_eq_none (Nat.le_of_not_lt k5)])
        go_enter Tryz.func79, Tryz.ntmps79
        go_upto_region 1 with fail
        rw [← hW]
        clear hW
        go_wp2
        go_ret2
        exact ⟨ret_pp HR2.out, below_step HW.out HB⟩
  replace HR := Lib.hid (HR.out.trans (if_neg k3))
  have k3' : (op == 3) = false := beq_eq_false_iff_ne.2 k3
  by_cases k4 : n < 0
  · replace HR := Lib.hid (HR.out.trans (if_pos (.inl k4)))
    go_enter Tryz.func79, Tryz.ntmps79
    go_upto_region 1 with fail
    rw [← hW]
    clear hW
    go_wp2
    go_ret2
    exact ⟨ret_pp HR.out, below_step HW.out HB⟩
  by_cases k5 : (p.headers.l.length : Int) ≤ n
  · replace HR := Lib.hid (HR.out.trans (if_pos (.inr k5)))
    go_enter Tryz.func79, Tryz.ntmps79
    go_upto_region 1 with fail
    rw [← hW]
    clear hW
    go_wp2
    go_ret2
    exact ⟨ret_pp HR.out, below_step HW.out HB⟩
  · replace HR := Lib.hid (HR.out.trans (if_neg (fun h => h.elim k4 k5)))
    go_enter Tryz.func79, Tryz.ntmps79
    go_upto_region 1 with fail
    rw [← hW]
    clear hW
    go_wp2
    go_ret2
    exact ⟨ret_pp HR.out, below_step HW.out HB⟩
end Go.Proofs.YtpomjcndeanjgaaGreatDoor
namespace Go.Proofs.YtpomjcndeanjgaaGreatDoor
open Go.RowKit
theorem ints1 {w : World} {A : Option Addr} {c : Nat} {a : Int} (h : LOk w 1 icell ⟨[a], A, c⟩) : ∃ g o, A = some ⟨g, o, none⟩ ∧ ∀ w', Below w.heap.size w w' → w'.cell? ⟨g, o, none⟩ = some (.int .i64 a) := by
  obtain ⟨g, o, e, hq⟩ := icell_allA h (by simp)
  exact ⟨g, o, e, fun w' hb => hq w' hb 0 (by simp)⟩
theorem ints2 {w : World} {A : Option Addr} {c : Nat} {a b : Int} (h : LOk w 1 icell ⟨[a, b], A, c⟩) : ∃ g o, A = some ⟨g, o, none⟩ ∧ ∀ w', Below w.heap.size w w' → w'.cell? ⟨g, o, none⟩ = some (.int .i64 a) ∧ w'.cell? ⟨g, o + 1, none⟩ = some (.int .i64 b) := by
  obtain ⟨g, o, e, hq⟩ := icell_allA h (by simp)
  exact ⟨g, o, e, fun w' hb => ⟨hq w' hb 0 (by simp), hq w' hb 1 (by simp)⟩⟩
theorem ints3 {w : World} {A : Option Addr} {c : Nat} {a b d : Int} (h : LOk w 1 icell ⟨[a, b, d], A, c⟩) : ∃ g o, A = some ⟨g, o, none⟩ ∧ ∀ w', Below w.heap.size w w' → w'.cell? ⟨g, o, none⟩ = some (.int .i64 a) ∧ w'.cell? ⟨g, o + 1, none⟩ = some (.int .i64 b) ∧ w'.cell? ⟨g, o + 2, none⟩ = some (.int .i64 d) := by
  obtain ⟨g, o, e, hq⟩ := icell_allA h (by simp)
  exact ⟨g, o, e, fun w' hb => ⟨hq w' hb 0 (by simp), hq w' hb 1 (by simp), hq w' hb 2 (by simp)⟩⟩
set_option maxRecDepth 100000 in
set_option maxHeartbeats 4000000 in
theorem roper1_any (op n wd a : Int) (A : Option Addr) (c : Nat) (w : World) (hop : 5 ≤ op ∧ op ≤ 8) (ha : 0 ≤ a ∧ a ≤ 32) (hok : LOk w 1 icell ⟨[a], A, c⟩) :
    Calls Tryz.prog 80 #[.agg #[.int .i64 op, .int .i64 n, .int .i64 wd], .slice A 1 c] w fun e w' =>
      e = .returned (.tuple #[.int .i64 (combM ⟨op, n, wd⟩ a 0 0).1, .int .i64 (combM ⟨op, n, wd⟩ a 0 0).2]) ∧ Below w.heap.size w w' := by
  obtain ⟨W, hW, hw, HB, hp⟩ := box1 w #[.int .i64 op, .int .i64 n, .int .i64 wd] 65
  have HW := Lib.hid hw
  obtain ⟨g, o, rfl, hq⟩ := ints1 (hok.below hw (Nat.le_refl _))
  clear hok hw
  have hq0 := hq _ HB
  have hp0 := hp _ HB
  obtain ⟨ha1, ha2⟩ := ha
  have hd : op = 5 ∨ (op = 6 ∨ op = 7) ∨ op = 8 := by omega
  clear hop
  rcases hd with rfl | h | rfl
  · have HR : Hid (combM ⟨5, n, wd⟩ a 0 0 = (a, 0)) := Lib.hid (by simp [combM, arityM])
    go_enter Tryz.func80, Tryz.ntmps80
    go_upto_region 1 with fail
    rw [← hW]
    clear hW
    go_wp2
    go_ret2
    exact ⟨ret_pp HR.out, below_step HW.out (by first | exact HB | exact below_drewN HB _)⟩
  · by_cases k : n < 0
    · have HR : Hid (combM ⟨op, n, wd⟩ a 0 0 = (0, 9)) := Lib.hid (by simp [combM, h, k])
      rcases h with rfl | rfl
      all_goals
        go_enter Tryz.func80, Tryz.ntmps80
        go_upto_region 1 with fail
        rw [← hW]
        clear hW
        go_wp2
        go_ret2
        exact ⟨ret_pp HR.out, below_step HW.out (by first | exact HB | exact below_drewN HB _)⟩
    by_cases k2 : 31 < n
    · have HR : Hid (combM ⟨op, n, wd⟩ a 0 0 = (0, 9)) := Lib.hid (by simp [combM, h, k2])
      rcases h with rfl | rfl
      all_goals
        go_enter Tryz.func80, Tryz.ntmps80
        go_upto_region 1 with fail
        rw [← hW]
        clear hW
        go_wp2
        go_ret2
        exact ⟨ret_pp HR.out, below_step HW.out (by first | exact HB | exact below_drewN HB _)⟩
    · have HR : Hid (combM ⟨op, n, wd⟩ a 0 0 = (a, 0)) := Lib.hid (by simp only [combM, if_pos h]; rw [if_neg (by omega)])
      rcases h with rfl | rfl
      all_goals
        go_enter Tryz.func80, Tryz.ntmps80
        go_upto_region 1 with fail
        rw [← hW]
        clear hW
        go_wp2
        go_ret2
        exact ⟨ret_pp HR.out, below_step HW.out (by first | exact HB | exact below_drewN HB _)⟩
  · by_cases k : n < 0
    · have HR : Hid (combM ⟨8, n, wd⟩ a 0 0 = (0, 9)) := Lib.hid (by simp [combM, k])
      go_enter Tryz.func80, Tryz.ntmps80
      go_upto_region 1 with fail
      rw [← hW]
      clear hW
      go_wp2
      go_ret2
      exact ⟨ret_pp HR.out, below_step HW.out (by first | exact HB | exact below_drewN HB _)⟩
    have k' : 0 ≤ n := by omega
    by_cases k1 : wd < 1
    · have k1' : decide (wd < 1) = true := decide_eq_true k1
      have HR : Hid (combM ⟨8, n, wd⟩ a 0 0 = (0, 10)) := Lib.hid (by simp [combM, k, okW_not.2 (.inl k1)])
      go_enter Tryz.func80, Tryz.ntmps80
      go_upto_region 1 with fail
      rw [← hW]
      clear hW
      go_wp2
      go_quiet (fail)
      go_wp2
      go_ret2
      exact ⟨ret_pp HR.out, below_step HW.out (by first | exact HB | exact below_drewN HB _)⟩
    have k1' : decide (wd < 1) = false := decide_eq_false k1
    by_cases k2 : 32 < wd
    · have k2' : decide (32 < wd) = true := decide_eq_true k2
      have HR : Hid (combM ⟨8, n, wd⟩ a 0 0 = (0, 10)) := Lib.hid (by simp [combM, k, okW_not.2 (.inr k2)])
      go_enter Tryz.func80, Tryz.ntmps80
      go_upto_region 1 with fail
      rw [← hW]
      clear hW
      go_wp2
      go_quiet (fail)
      go_wp2
      go_ret2
      exact ⟨ret_pp HR.out, below_step HW.out (by first | exact HB | exact below_drewN HB _)⟩
    have k2' : decide (32 < wd) = false := decide_eq_false k2
    have hv : okW wd = true := okW_iff.2 ⟨by omega, by omega⟩
    have hwr : IntKind.i64.wrap (a - wd) = a - wd := IntWalk.i64_in _ (by omega)
    by_cases k3 : a - wd < n
    · have HR : Hid (combM ⟨8, n, wd⟩ a 0 0 = (0, 10)) := Lib.hid (by simp [combM, k, k3])
      clear hv
      go_enter Tryz.func80, Tryz.ntmps80
      go_upto_region 1 with fail
      rw [← hW]
      clear hW
      go_wp2
      go_quiet (fail)
      go_wp2
      go_ret2
      exact ⟨ret_pp HR.out, below_step HW.out (by first | exact HB | exact below_drewN HB _)⟩
    · have HR : Hid (combM ⟨8, n, wd⟩ a 0 0 = (wd, 0)) := Lib.hid (by simp [combM, k, k3, hv])
      clear hv
      go_enter Tryz.func80, Tryz.ntmps80
      go_upto_region 1 with fail
      rw [← hW]
      clear hW
      go_wp2
      go_quiet (fail)
      go_wp2
      go_ret2
      exact ⟨ret_pp HR.out, below_step HW.out (by first | exact HB | exact below_drewN HB _)⟩
set_option maxRecDepth 100000 in
set_option maxHeartbeats 4000000 in
theorem roper2_any (op n wd a b : Int) (A : Option Addr) (c : Nat) (w : World) (hop : 9 ≤ op ∧ op ≤ 16) (ha : 0 ≤ a ∧ a ≤ 32) (hb : 0 ≤ b ∧ b ≤ 32) (hok : LOk w 1 icell ⟨[a, b], A, c⟩) :
    Calls Tryz.prog 80 #[.agg #[.int .i64 op, .int .i64 n, .int .i64 wd], .slice A 2 c] w fun e w' =>
      e = .returned (.tuple #[.int .i64 (combM ⟨op, n, wd⟩ a b 0).1, .int .i64 (combM ⟨op, n, wd⟩ a b 0).2]) ∧ Below w.heap.size w w' := by
  obtain ⟨W, hW, hw, HB, hp⟩ := box1 w #[.int .i64 op, .int .i64 n, .int .i64 wd] 65
  have HW := Lib.hid hw
  obtain ⟨g, o, rfl, hq⟩ := ints2 (hok.below hw (Nat.le_refl _))
  clear hok hw
  have hq0 := hq _ HB
  have hp0 := hp _ HB
  obtain ⟨ha1, ha2⟩ := ha
  obtain ⟨hb1, hb2⟩ := hb
  have hd : op = 14 ∨ (op = 9 ∨ op = 10 ∨ op = 11 ∨ op = 12 ∨ op = 13) ∨ op = 15 ∨ op = 16 := by omega
  clear hop
  rcases hd with rfl | h | h
  · have HR : Hid (combM ⟨14, n, wd⟩ a b 0 = wideM (a + b)) := Lib.hid (by simp [combM])
    have hwr : IntKind.i64.wrap (a + b) = a + b := IntWalk.i64_in _ (by omega)
    have H0 := Lib.hid HB
    clear HB hq0 hp0
    go_enter Tryz.func80, Tryz.ntmps80
    go_upto_region 1 with fail
    rw [← hW]
    clear hW
    have hp0 := hp _ H0.out
    go_upto_region 16 with fail
    clear hp0
    go_region_held3 (fun w' => Below W.heap.size W w') (first | exact H0.out | exact below_drew H0.out | (exact below_step (by assumption) (by assumption)) | assumption)
      (first | (go_at_call 105; refine (rwide_any (a + b) _).mono ?_; rintro e w1 ⟨rfl, rfl⟩))
    have HB5 : Hid (Below W.heap.size W _) := Lib.hid (by assumption)
    go_wp2
    go_ret2
    exact ⟨ret_pp HR.out, below_step HW.out HB5.out⟩
  · have ho : arityM op = 2 := by unfold arityM; repeat' split <;> omega
    have h' : op ≠ 6 ∧ op ≠ 7 ∧ op ≠ 8 ∧ op ≠ 14 ∧ op ≠ 17 ∧ op ≠ 15 ∧ op ≠ 16 := by omega
    obtain ⟨n6, n7, n8, n14, n17, n15, n16⟩ := h'
    by_cases k : a = b
    · have HR : Hid (combM ⟨op, n, wd⟩ a b 0 = (a, 0)) := Lib.hid (by simp [combM, n6, n7, n8, n14, n17, n15, n16, k])
      clear n6 n7 n8 n14 n17 n15 n16 ho
      subst k
      rcases h with rfl | rfl | rfl | rfl | rfl
      all_goals
        go_enter Tryz.func80, Tryz.ntmps80
        go_upto_region 1 with fail
        rw [← hW]
        clear hW
        go_wp2
        go_quiet (fail)
        go_wp2
        go_ret2
        exact ⟨ret_pp HR.out, below_step HW.out (by first | exact HB | exact below_drewN HB _)⟩
    · have HR : Hid (combM ⟨op, n, wd⟩ a b 0 = (0, 10)) := Lib.hid (by simp [combM, n6, n7, n8, n14, n17, ho, k])
      have k' : (a == b) = false := beq_eq_false_iff_ne.2 k
      clear n6 n7 n8 n14 n17 n15 n16 ho
      rcases h with rfl | rfl | rfl | rfl | rfl
      all_goals
        go_enter Tryz.func80, Tryz.ntmps80
        go_upto_region 1 with fail
        rw [← hW]
        clear hW
        go_wp2
        go_quiet (fail)
        go_wp2
        go_ret2
        exact ⟨ret_pp HR.out, below_step HW.out (by first | exact HB | exact below_drewN HB _)⟩
  · have ho : arityM op = 2 := by unfold arityM; repeat' split <;> omega
    have h' : op ≠ 6 ∧ op ≠ 7 ∧ op ≠ 8 ∧ op ≠ 14 ∧ op ≠ 17 := by omega
    obtain ⟨n6, n7, n8, n14, n17⟩ := h'
    by_cases k : a = b
    · have HR : Hid (combM ⟨op, n, wd⟩ a b 0 = (1, 0)) := Lib.hid (by simp [combM, n6, n7, n8, n14, n17, h, k])
      clear n6 n7 n8 n14 n17 ho
      subst k
      rcases h with rfl | rfl
      all_goals
        go_enter Tryz.func80, Tryz.ntmps80
        go_upto_region 1 with fail
        rw [← hW]
        clear hW
        go_wp2
        go_quiet (fail)
        go_wp2
        go_ret2
        exact ⟨ret_pp HR.out, below_step HW.out (by first | exact HB | exact below_drewN HB _)⟩
    · have HR : Hid (combM ⟨op, n, wd⟩ a b 0 = (0, 10)) := Lib.hid (by simp [combM, n6, n7, n8, n14, n17, ho, k])
      have k' : (a == b) = false := beq_eq_false_iff_ne.2 k
      clear n6 n7 n8 n14 n17 ho
      rcases h with rfl | rfl
      all_goals
        go_enter Tryz.func80, Tryz.ntmps80
        go_upto_region 1 with fail
        rw [← hW]
        clear hW
        go_wp2
        go_quiet (fail)
        go_wp2
        go_ret2
        exact ⟨ret_pp HR.out, below_step HW.out (by first | exact HB | exact below_drewN HB _)⟩
set_option maxRecDepth 100000 in
set_option maxHeartbeats 4000000 in
theorem roper3_any (op n wd a b d : Int) (A : Option Addr) (c : Nat) (w : World) (hop : op = 17) (ha : 0 ≤ a ∧ a ≤ 32) (hb : 0 ≤ b ∧ b ≤ 32) (hd : 0 ≤ d ∧ d ≤ 32) (hok : LOk w 1 icell ⟨[a, b, d], A, c⟩) :
    Calls Tryz.prog 80 #[.agg #[.int .i64 op, .int .i64 n, .int .i64 wd], .slice A 3 c] w fun e w' =>
      e = .returned (.tuple #[.int .i64 (combM ⟨op, n, wd⟩ a b d).1, .int .i64 (combM ⟨op, n, wd⟩ a b d).2]) ∧ Below w.heap.size w w' := by
  obtain ⟨W, hW, hw, HB, hp⟩ := box1 w #[.int .i64 op, .int .i64 n, .int .i64 wd] 65
  have HW := Lib.hid hw
  obtain ⟨g, o, rfl, hq⟩ := ints3 (hok.below hw (Nat.le_refl _))
  clear hok hw
  have hq0 := hq _ HB
  have hp0 := hp _ HB
  obtain ⟨ha1, ha2⟩ := ha
  obtain ⟨hb1, hb2⟩ := hb
  obtain ⟨hd1, hd2⟩ := hd
  subst hop
  by_cases k : a = 1
  · by_cases k2 : b = d
    · have HR : Hid (combM ⟨17, n, wd⟩ a b d = (b, 0)) := Lib.hid (by simp [combM, k, k2])
      subst k k2
      go_enter Tryz.func80, Tryz.ntmps80
      go_upto_region 1 with fail
      rw [← hW]
      clear hW
      go_wp2
      go_quiet (fail)
      go_wp2
      go_ret2
      exact ⟨ret_pp HR.out, below_step HW.out (by first | exact HB | exact below_drewN HB _)⟩
    · have HR : Hid (combM ⟨17, n, wd⟩ a b d = (0, 10)) := Lib.hid (by simp [combM, k, k2])
      have k2' : (b == d) = false := beq_eq_false_iff_ne.2 k2
      subst k
      go_enter Tryz.func80, Tryz.ntmps80
      go_upto_region 1 with fail
      rw [← hW]
      clear hW
      go_wp2
      go_quiet (fail)
      go_wp2
      go_ret2
      exact ⟨ret_pp HR.out, below_step HW.out (by first | exact HB | exact below_drewN HB _)⟩
  · have HR : Hid (combM ⟨17, n, wd⟩ a b d = (0, 10)) := Lib.hid (by simp [combM, k])
    have k' : (a == 1) = false := beq_eq_false_iff_ne.2 k
    go_enter Tryz.func80, Tryz.ntmps80
    go_upto_region 1 with fail
    rw [← hW]
    clear hW
    go_wp2
    go_quiet (fail)
    go_wp2
    go_ret2
    exact ⟨ret_pp HR.out, below_step HW.out (by first | exact HB | exact below_drewN HB _)⟩
end Go.Proofs.YtpomjcndeanjgaaGreatDoor
