/- Walks of exprtext's reader: expression and operand. No condition but that program and tokens lie in memory. Walks of exprtext's writer: ref. No condition but that program and texts lie in memory, the names short. Walks of exprtext's writer: expression and operand, by induction on the text of a checked expression. No condition but that program and texts lie in memory, the names short. Walks of exprtext's writer: the nodes with one, two and three parts. No condition but that program and texts lie in memory, the names short. exprtext.Format on any program, parameters and nodes. No condition but that they lie in memory, the names short. The walk of the lexer's Tokenize. No condition. Walks of exprtext's ParseTokens and Parse. No condition but that program and tokens lie in memory, the names and the text short. The walk of exprtext's Parse. No condition but that the program lies in memory, the names and the text short. Walks of the law's helpers of chapter 14: own, scope, short, small; of the reference's Equal. No condition but that the case lies in memory. The cases of chapter 14's laws, read from memory. Walks of the law's helpers of chapter 14: Equal of equal nodes, tokens, small. No condition but that the case lies in memory. The walk of chapter 14's small. No condition but that the case lies in memory. The walk of chapter 14's works. No condition but that the table of powers of ten is laid. What the reference reads of an expression is bounded by its tokens. No code in sight. No condition. Walks of exprtext's reference: isSymbol, expect, expectAll, single. No condition but that the tokens lie in memory. Walks of exprtext's reference: expectAll, single. No condition but that the tokens lie in memory. The walk of the reference's IsIdentifier. No condition but the length of the text. Walks of exprtext's reference: names of headers and fields, numbers, the end of a subexpression. No condition but that program and nodes lie in memory, the names short. Walks of exprtext's reference: readValid, readField. No condition but that program and tokens lie in memory. -/
import Derived.Laws.StructEq
import Derived.BigQuiet
import Derived.Test.YtpomjcndeanjgaaGreatDoorHPb
namespace Go.Proofs.YtpomjcndeanjgaaGreatDoor
open Go.RowKit
def OpdOk (W : World) (ga : Nat) (x : L Tk) (p : ProgD) (ps : L FieldD) (opd : Nat → Int → Pd) (i : Nat) : Prop := ∀ (w0 w : World) (j : Nat) (e : Int), i ≤ j → RSt W w0 w ga x j p ps e →
  Calls Tryz.prog 61 #[.pointer (some ⟨ga, 0, none⟩)] w (Gives W w0 ga x p ps (opd j e))
theorem PreOk.named {u : World} {l : List NodeD} {r : Ending} {w' : World} (h : PreOk u l r w') : ∃ A c n, Hid (PreOk u l (.returned (.slice A n c)) w') ∧ r = .returned (.slice A n c) := by
  obtain ⟨A, c, rfl, hf, hb⟩ := h
  exact ⟨A, c, l.length, Lib.hid ⟨A, c, rfl, hf, hb⟩, rfl⟩
theorem RSt.of {W w0 w1 w' : World} {ga i j : Nat} {x : L Tk} {p : ProgD} {ps : L FieldD} {e e' : Int} (h : RSt W w0 w1 ga x i p ps e) (h' : RSt W w1 w' ga x j p ps e') : RSt W w0 w' ga x j p ps e' := h.step h'.blk h'.gr
set_option maxRecDepth 100000 in
set_option maxHeartbeats 8000000 in
theorem exprTilde {W w0 w : World} {ga i : Nat} {x : L Tk} {p : ProgD} {ps : L FieldD} {e : Int} {opd : Nat → Int → Pd} (E : REnv W x p ps) (h : RSt W w0 w ga x i p ps e) (hO : OpdOk W ga x p ps opd i) (hB : ∀ j e, j ≤ x.l.length → Bd x.l j (opd j e)) (_hi : i ≤ x.l.length) (hp : peekR x.l [126] i e = true) :
    Calls Tryz.prog 29 #[.pointer (some ⟨ga, 0, none⟩)] w (Gives W w0 ga x p ps ⟨⟨5, 0, 0⟩ :: (opd (i + 1) e).n, (opd (i + 1) e).at_, (opd (i + 1) e).e⟩) := by
  have hm := E.few
  have H := Lib.hid h
  have HO := Lib.hid (fun (u v : World) (h : RSt W u v ga x (i + 1) p ps e) => hO u v (i + 1) e (by omega) h)
  have hil : i < x.l.length := by
    rcases Nat.lt_or_ge i x.l.length with h | h
    · exact h
    · rw [peekR, sym_none h] at hp; simp at hp
  have hbd := hB (i + 1) e (by omega)
  have hbl : (opd (i + 1) e).n.length ≤ 30000 := by have := hbd.er; have := hbd.le; omega
  generalize opd (i + 1) e = b at *
  obtain ⟨bn, bj, be⟩ := b
  simp only at hbl ⊢
  have HPK := Lib.hid (show Calls Tryz.prog 59 #[.pointer (some ⟨ga, 0, none⟩), .string ⟨#[126]⟩] w fun r w' => r = .returned (.bool true) ∧ RSt W w w' ga x i p ps e from by
    have := peekS E h.refl ⟨#[126]⟩
    rw [show peekR x.l (⟨#[126]⟩ : ByteArray).data.toList i e = true from hp] at this
    exact this)
  clear hp E h hO hB hbd
  go_enter Tryz.func29, Tryz.ntmps29
  go_wp2_with fail
  refine (HPK.out).mono ?_
  rintro r w1 ⟨rfl, hN⟩
  have H1 := Lib.hid (RSt.of H.out hN)
  clear hN
  have c1 : w1.cell? ⟨ga, 1, none⟩ = some (.int .i64 i) := H1.out.blk.cell 1
  have f1 : w1.frozen? ⟨ga, 1, none⟩ = false := H1.out.blk.frozen 1
  go_wp2_with fail
  refine (HO.out _ _ H1.out.next.refl).mono ?_
  rintro r w2 ⟨AHL2, cHL2, rfl, hL, hN⟩
  have H2 := Lib.hid (RSt.of H1.out.next hN)
  have HL2 := Lib.hid hL
  clear hN hL
  clear c1 f1
  go_wp2_with fail
  refine (pre1 ⟨5, 0, 0⟩ HL2.out hbl).mono ?_
  intro r w3 hP
  obtain ⟨A3, c3, n3, HP, rfl⟩ := hP.named
  clear hP
  go_wp2
  go_ret
  exact Gives.pre H2.out HP.out
set_option maxRecDepth 100000 in
set_option maxHeartbeats 8000000 in
theorem exprErr {W w0 w : World} {ga i : Nat} {x : L Tk} {p : ProgD} {ps : L FieldD} {e : Int} {opd : Nat → Int → Pd} (E : REnv W x p ps) (h : RSt W w0 w ga x i p ps e) (hO : OpdOk W ga x p ps opd i) (hB : ∀ j e, j ≤ x.l.length → Bd x.l j (opd j e)) (hi : i ≤ x.l.length) (hp : peekR x.l [126] i e = false) (hz : (opd i e).e ≠ 0) :
    Calls Tryz.prog 29 #[.pointer (some ⟨ga, 0, none⟩)] w (Gives W w0 ga x p ps (opd i e)) := by
  have hm := E.few
  have HE := Lib.hid E
  have H := Lib.hid h
  have HA := Lib.hid (fun (u v : World) (h : RSt W u v ga x i p ps e) => hO u v i e (Nat.le_refl _) h)
  have hbd := hB i e hi
  have ha1 := hbd.le
  have ha2 := hbd.er
  have ha3 := hbd.ge
  clear hbd
  generalize opd i e = a at *
  obtain ⟨an, aj, ae⟩ := a
  simp only at ha1 ha2 ha3 hz ⊢
  have HPK := Lib.hid (show Calls Tryz.prog 59 #[.pointer (some ⟨ga, 0, none⟩), .string ⟨#[126]⟩] w fun r w' => r = .returned (.bool false) ∧ RSt W w w' ga x i p ps e from by
    have := peekS E h.refl ⟨#[126]⟩
    rw [show peekR x.l (⟨#[126]⟩ : ByteArray).data.toList i e = false from hp] at this
    exact this)
  clear hp E h hO hB
  go_enter Tryz.func29, Tryz.ntmps29
  go_wp2_with fail
  refine (HPK.out).mono ?_
  rintro r w1 ⟨rfl, hN⟩
  have H1 := Lib.hid (RSt.of H.out hN)
  clear hN
  go_wp2_with fail
  refine (HA.out _ _ H1.out.refl).mono ?_
  rintro r w2 ⟨AHL2, cHL2, rfl, hL, hN⟩
  have H2 := Lib.hid (RSt.of H1.out hN)
  have HL2 := Lib.hid hL
  clear hN hL
  have hz' : (ae != 0) = true := bne_iff_ne.2 hz
  have c0 : w2.cell? ⟨ga, 0, none⟩ = some (.slice x.A x.l.length x.c) := H2.out.blk.cell 0
  have c1 : w2.cell? ⟨ga, 1, none⟩ = some (.int .i64 aj) := H2.out.blk.cell 1
  have c12 : w2.cell? ⟨ga, 12, none⟩ = some (.int .i64 ae) := H2.out.blk.cell 12
  go_upto_region 5 with fail
  go_quiet (fail)
  go_wp2
  go_ret
  exact ⟨_, _, rfl, ⟨(HL2.out.lok.below (below_drewN (Below.refl w2.heap.size w2) _) (Nat.le_refl _)), HL2.out.nil, HL2.out.far⟩, H2.out.below (below_drewN (Below.refl w2.heap.size w2) _)⟩
set_option maxRecDepth 100000 in
set_option maxHeartbeats 8000000 in
theorem exprOut {W w0 w : World} {ga i : Nat} {x : L Tk} {p : ProgD} {ps : L FieldD} {e : Int} {opd : Nat → Int → Pd} (E : REnv W x p ps) (h : RSt W w0 w ga x i p ps e) (hO : OpdOk W ga x p ps opd i) (hB : ∀ j e, j ≤ x.l.length → Bd x.l j (opd j e)) (hi : i ≤ x.l.length) (hp : peekR x.l [126] i e = false) (hz : (opd i e).e = 0) (hl : ¬ (opd i e).at_ < x.l.length) :
    Calls Tryz.prog 29 #[.pointer (some ⟨ga, 0, none⟩)] w (Gives W w0 ga x p ps (opd i e)) := by
  have hm := E.few
  have HE := Lib.hid E
  have H := Lib.hid h
  have HA := Lib.hid (fun (u v : World) (h : RSt W u v ga x i p ps e) => hO u v i e (Nat.le_refl _) h)
  have hbd := hB i e hi
  have ha1 := hbd.le
  have ha2 := hbd.er
  have ha3 := hbd.ge
  clear hbd
  generalize opd i e = a at *
  obtain ⟨an, aj, ae⟩ := a
  simp only at ha1 ha2 ha3 hz hl ⊢
  have HPK := Lib.hid (show Calls Tryz.prog 59 #[.pointer (some ⟨ga, 0, none⟩), .string ⟨#[126]⟩] w fun r w' => r = .returned (.bool false) ∧ RSt W w w' ga x i p ps e from by
    have := peekS E h.refl ⟨#[126]⟩
    rw [show peekR x.l (⟨#[126]⟩ : ByteArray).data.toList i e = false from hp] at this
    exact this)
  clear hp E h hO hB
  go_enter Tryz.func29, Tryz.ntmps29
  go_wp2_with fail
  refine (HPK.out).mono ?_
  rintro r w1 ⟨rfl, hN⟩
  have H1 := Lib.hid (RSt.of H.out hN)
  clear hN
  go_wp2_with fail
  refine (HA.out _ _ H1.out.refl).mono ?_
  rintro r w2 ⟨AHL2, cHL2, rfl, hL, hN⟩
  have H2 := Lib.hid (RSt.of H1.out hN)
  have HL2 := Lib.hid hL
  clear hN hL
  subst hz
  have hl' : decide (x.l.length ≤ aj) = true := decide_eq_true (by omega)
  have c0 : w2.cell? ⟨ga, 0, none⟩ = some (.slice x.A x.l.length x.c) := H2.out.blk.cell 0
  have c1 : w2.cell? ⟨ga, 1, none⟩ = some (.int .i64 aj) := H2.out.blk.cell 1
  have c12 : w2.cell? ⟨ga, 12, none⟩ = some (.int .i64 0) := H2.out.blk.cell 12
  go_upto_region 5 with fail
  go_quiet (fail)
  go_wp2
  go_ret
  exact ⟨_, _, rfl, ⟨(HL2.out.lok.below (below_drewN (Below.refl w2.heap.size w2) _) (Nat.le_refl _)), HL2.out.nil, HL2.out.far⟩, H2.out.below (below_drewN (Below.refl w2.heap.size w2) _)⟩
set_option maxRecDepth 100000 in
set_option maxHeartbeats 8000000 in
theorem exprWord {W w0 w : World} {ga i : Nat} {x : L Tk} {p : ProgD} {ps : L FieldD} {e : Int} {opd : Nat → Int → Pd} (E : REnv W x p ps) (h : RSt W w0 w ga x i p ps e) (hO : OpdOk W ga x p ps opd i) (hB : ∀ j e, j ≤ x.l.length → Bd x.l j (opd j e)) (hi : i ≤ x.l.length) (hp : peekR x.l [126] i e = false) (hz : (opd i e).e = 0) (hl : (opd i e).at_ < x.l.length) (hk : x.l[(opd i e).at_].kind ≠ 3) :
    Calls Tryz.prog 29 #[.pointer (some ⟨ga, 0, none⟩)] w (Gives W w0 ga x p ps (opd i e)) := by
  have hm := E.few
  have HE := Lib.hid E
  have H := Lib.hid h
  have HA := Lib.hid (fun (u v : World) (h : RSt W u v ga x i p ps e) => hO u v i e (Nat.le_refl _) h)
  have hbd := hB i e hi
  have ha1 := hbd.le
  have ha2 := hbd.er
  have ha3 := hbd.ge
  clear hbd
  generalize opd i e = a at *
  obtain ⟨an, aj, ae⟩ := a
  simp only at ha1 ha2 ha3 hz hl hk ⊢
  have HPK := Lib.hid (show Calls Tryz.prog 59 #[.pointer (some ⟨ga, 0, none⟩), .string ⟨#[126]⟩] w fun r w' => r = .returned (.bool false) ∧ RSt W w w' ga x i p ps e from by
    have := peekS E h.refl ⟨#[126]⟩
    rw [show peekR x.l (⟨#[126]⟩ : ByteArray).data.toList i e = false from hp] at this
    exact this)
  clear hp E h hO hB
  go_enter Tryz.func29, Tryz.ntmps29
  go_wp2_with fail
  refine (HPK.out).mono ?_
  rintro r w1 ⟨rfl, hN⟩
  have H1 := Lib.hid (RSt.of H.out hN)
  clear hN
  go_wp2_with fail
  refine (HA.out _ _ H1.out.refl).mono ?_
  rintro r w2 ⟨AHL2, cHL2, rfl, hL, hN⟩
  have H2 := Lib.hid (RSt.of H1.out hN)
  have HL2 := Lib.hid hL
  clear hN hL
  subst hz
  obtain ⟨g, of, hA, hq⟩ := TkD.atA HE.out.toks hl
  have hl' : decide (x.l.length ≤ aj) = false := decide_eq_false (by omega)
  have hll : (aj : Int) < (x.l.length : Int) := by omega
  have HQ := Lib.hid hq
  have HAA := Lib.hid hA
  clear hq hA
  have hk' : ((x.l[aj].kind : Int) != 3) = true := bne_iff_ne.2 (by omega)
  have d0 := (HQ.out w2 H2.out.base).1
  generalize x.l[aj].kind = tk at d0 hk'
  have c0 : w2.cell? ⟨ga, 0, none⟩ = some (.slice x.A x.l.length x.c) := H2.out.blk.cell 0
  have c1 : w2.cell? ⟨ga, 1, none⟩ = some (.int .i64 aj) := H2.out.blk.cell 1
  have c12 : w2.cell? ⟨ga, 12, none⟩ = some (.int .i64 0) := H2.out.blk.cell 12
  rw [HAA.out] at c0
  go_upto_region 5 with fail
  go_quiet (fail)
  go_wp2
  go_ret
  exact ⟨_, _, rfl, ⟨(HL2.out.lok.below (below_drewN (Below.refl w2.heap.size w2) _) (Nat.le_refl _)), HL2.out.nil, HL2.out.far⟩, H2.out.below (below_drewN (Below.refl w2.heap.size w2) _)⟩
set_option maxRecDepth 100000 in
set_option maxHeartbeats 8000000 in
theorem exprShl {W w0 w : World} {ga i : Nat} {x : L Tk} {p : ProgD} {ps : L FieldD} {e : Int} {opd : Nat → Int → Pd} (E : REnv W x p ps) (h : RSt W w0 w ga x i p ps e) (hO : OpdOk W ga x p ps opd i) (hB : ∀ j e, j ≤ x.l.length → Bd x.l j (opd j e)) (hi : i ≤ x.l.length) (hp : peekR x.l [126] i e = false) (hz : (opd i e).e = 0) (hl : (opd i e).at_ < x.l.length) (hk : x.l[(opd i e).at_].kind = 3) (ht : x.l[(opd i e).at_].text = [60, 60]) :
    Calls Tryz.prog 29 #[.pointer (some ⟨ga, 0, none⟩)] w (Gives W w0 ga x p ps (shiftR x.l 6 (opd i e).n ((opd i e).at_ + 1))) := by
  have hm := E.few
  have HE := Lib.hid E
  have H := Lib.hid h
  have HA := Lib.hid (fun (u v : World) (h : RSt W u v ga x i p ps e) => hO u v i e (Nat.le_refl _) h)
  have hbd := hB i e hi
  have ha1 := hbd.le
  have ha2 := hbd.er
  have ha3 := hbd.ge
  clear hbd
  generalize opd i e = a at *
  obtain ⟨an, aj, ae⟩ := a
  simp only at ha1 ha2 ha3 hz hl hk ht ⊢
  have HPK := Lib.hid (show Calls Tryz.prog 59 #[.pointer (some ⟨ga, 0, none⟩), .string ⟨#[126]⟩] w fun r w' => r = .returned (.bool false) ∧ RSt W w w' ga x i p ps e from by
    have := peekS E h.refl ⟨#[126]⟩
    rw [show peekR x.l (⟨#[126]⟩ : ByteArray).data.toList i e = false from hp] at this
    exact this)
  clear hp E h hO hB
  go_enter Tryz.func29, Tryz.ntmps29
  go_wp2_with fail
  refine (HPK.out).mono ?_
  rintro r w1 ⟨rfl, hN⟩
  have H1 := Lib.hid (RSt.of H.out hN)
  clear hN
  go_wp2_with fail
  refine (HA.out _ _ H1.out.refl).mono ?_
  rintro r w2 ⟨AHL2, cHL2, rfl, hL, hN⟩
  have H2 := Lib.hid (RSt.of H1.out hN)
  have HL2 := Lib.hid hL
  clear hN hL
  have hnl : an.length ≤ 30000 := by omega
  subst hz
  obtain ⟨g, of, hA, hq⟩ := TkD.atA HE.out.toks hl
  have hl' : decide (x.l.length ≤ aj) = false := decide_eq_false (by omega)
  have hll : (aj : Int) < (x.l.length : Int) := by omega
  have HQ := Lib.hid hq
  have HAA := Lib.hid hA
  clear hq hA
  have d0 := (HQ.out w2 H2.out.base).1
  rw [hk] at d0
  have c0 : w2.cell? ⟨ga, 0, none⟩ = some (.slice x.A x.l.length x.c) := H2.out.blk.cell 0
  have c1 : w2.cell? ⟨ga, 1, none⟩ = some (.int .i64 aj) := H2.out.blk.cell 1
  have c12 : w2.cell? ⟨ga, 12, none⟩ = some (.int .i64 0) := H2.out.blk.cell 12
  rw [HAA.out] at c0
  go_upto_region 5 with fail
  go_quiet (fail)
  obtain ⟨Y, hY⟩ : ∃ Y, Y = w2.drewN nq := ⟨_, rfl⟩
  have HY := Lib.hid (show RSt W w0 Y ga x aj p ps 0 from by rw [hY]; exact H2.out.below (below_drewN (Below.refl w2.heap.size w2) _))
  have HLY := Lib.hid (show NLies Y ga ⟨an, AHL2, cHL2⟩ from by rw [hY]; exact ⟨(HL2.out.lok.below (below_drewN (Below.refl w2.heap.size w2) _) (Nat.le_refl _)), HL2.out.nil, HL2.out.far⟩)
  rw [← hY]
  clear hY c0 c1 c12 d0 HL2 H2
  have c0 : Y.cell? ⟨ga, 0, none⟩ = some (.slice x.A x.l.length x.c) := HY.out.blk.cell 0
  have c1 : Y.cell? ⟨ga, 1, none⟩ = some (.int .i64 aj) := HY.out.blk.cell 1
  have c12 : Y.cell? ⟨ga, 12, none⟩ = some (.int .i64 0) := HY.out.blk.cell 12
  rw [HAA.out] at c0
  have d1 := (HQ.out Y HY.out.base).2.1
  rw [ht] at d1
  replace d1 : Y.cell? ⟨g, of + aj * 4 + 1, none⟩ = some (.string ⟨#[60, 60]⟩) := d1
  go_upto_region 7 with fail
  go_quiet (fail)
  obtain ⟨Z, hZ⟩ : ∃ Z, Z = Y.drewN nq := ⟨_, rfl⟩
  have HZ := Lib.hid (show RSt W w0 Z ga x aj p ps 0 from by rw [hZ]; exact HY.out.below (below_drewN (Below.refl Y.heap.size Y) _))
  have HLZ := Lib.hid (show NLies Z ga ⟨an, AHL2, cHL2⟩ from by rw [hZ]; exact ⟨(HLY.out.lok.below (below_drewN (Below.refl Y.heap.size Y) _) (Nat.le_refl _)), HLY.out.nil, HLY.out.far⟩)
  rw [← hZ]
  clear hZ c0 c1 c12 d1 HLY HY
  have c1 : Z.cell? ⟨ga, 1, none⟩ = some (.int .i64 aj) := HZ.out.blk.cell 1
  have f1 : Z.frozen? ⟨ga, 1, none⟩ = false := HZ.out.blk.frozen 1
  go_wp2_with fail
  refine (numberS HE.out HZ.out.next.refl).mono ?_
  rintro r w4 ⟨rfl, hN⟩
  have H4 := Lib.hid (RSt.of HZ.out.next hN)
  replace HLZ := Lib.hid (HLZ.out.gr (gr_trans (HZ.out.refl.next.gr) hN.gr))
  clear hN
  clear c1 f1
  go_wp2_with fail
  refine (pre1 ⟨6, (tokR x.l 2 [] (aj + 1) 0).1.value, 0⟩ HLZ.out hnl).mono ?_
  intro r w9 hP
  obtain ⟨A9, c9, n9, HP, rfl⟩ := hP.named
  clear hP
  go_wp2
  go_ret
  exact Gives.pre H4.out HP.out
set_option maxRecDepth 100000 in
set_option maxHeartbeats 8000000 in
theorem exprShr {W w0 w : World} {ga i : Nat} {x : L Tk} {p : ProgD} {ps : L FieldD} {e : Int} {opd : Nat → Int → Pd} (E : REnv W x p ps) (h : RSt W w0 w ga x i p ps e) (hO : OpdOk W ga x p ps opd i) (hB : ∀ j e, j ≤ x.l.length → Bd x.l j (opd j e)) (hi : i ≤ x.l.length) (hp : peekR x.l [126] i e = false) (hz : (opd i e).e = 0) (hl : (opd i e).at_ < x.l.length) (hk : x.l[(opd i e).at_].kind = 3) (ht : x.l[(opd i e).at_].text = [62, 62]) :
    Calls Tryz.prog 29 #[.pointer (some ⟨ga, 0, none⟩)] w (Gives W w0 ga x p ps (shiftR x.l 7 (opd i e).n ((opd i e).at_ + 1))) := by
  have hm := E.few
  have HE := Lib.hid E
  have H := Lib.hid h
  have HA := Lib.hid (fun (u v : World) (h : RSt W u v ga x i p ps e) => hO u v i e (Nat.le_refl _) h)
  have hbd := hB i e hi
  have ha1 := hbd.le
  have ha2 := hbd.er
  have ha3 := hbd.ge
  clear hbd
  generalize opd i e = a at *
  obtain ⟨an, aj, ae⟩ := a
  simp only at ha1 ha2 ha3 hz hl hk ht ⊢
  have HPK := Lib.hid (show Calls Tryz.prog 59 #[.pointer (some ⟨ga, 0, none⟩), .string ⟨#[126]⟩] w fun r w' => r = .returned (.bool false) ∧ RSt W w w' ga x i p ps e from by
    have := peekS E h.refl ⟨#[126]⟩
    rw [show peekR x.l (⟨#[126]⟩ : ByteArray).data.toList i e = false from hp] at this
    exact this)
  clear hp E h hO hB
  go_enter Tryz.func29, Tryz.ntmps29
  go_wp2_with fail
  refine (HPK.out).mono ?_
  rintro r w1 ⟨rfl, hN⟩
  have H1 := Lib.hid (RSt.of H.out hN)
  clear hN
  go_wp2_with fail
  refine (HA.out _ _ H1.out.refl).mono ?_
  rintro r w2 ⟨AHL2, cHL2, rfl, hL, hN⟩
  have H2 := Lib.hid (RSt.of H1.out hN)
  have HL2 := Lib.hid hL
  clear hN hL
  have hnl : an.length ≤ 30000 := by omega
  subst hz
  obtain ⟨g, of, hA, hq⟩ := TkD.atA HE.out.toks hl
  have hl' : decide (x.l.length ≤ aj) = false := decide_eq_false (by omega)
  have hll : (aj : Int) < (x.l.length : Int) := by omega
  have HQ := Lib.hid hq
  have HAA := Lib.hid hA
  clear hq hA
  have d0 := (HQ.out w2 H2.out.base).1
  rw [hk] at d0
  have c0 : w2.cell? ⟨ga, 0, none⟩ = some (.slice x.A x.l.length x.c) := H2.out.blk.cell 0
  have c1 : w2.cell? ⟨ga, 1, none⟩ = some (.int .i64 aj) := H2.out.blk.cell 1
  have c12 : w2.cell? ⟨ga, 12, none⟩ = some (.int .i64 0) := H2.out.blk.cell 12
  rw [HAA.out] at c0
  go_upto_region 5 with fail
  go_quiet (fail)
  obtain ⟨Y, hY⟩ : ∃ Y, Y = w2.drewN nq := ⟨_, rfl⟩
  have HY := Lib.hid (show RSt W w0 Y ga x aj p ps 0 from by rw [hY]; exact H2.out.below (below_drewN (Below.refl w2.heap.size w2) _))
  have HLY := Lib.hid (show NLies Y ga ⟨an, AHL2, cHL2⟩ from by rw [hY]; exact ⟨(HL2.out.lok.below (below_drewN (Below.refl w2.heap.size w2) _) (Nat.le_refl _)), HL2.out.nil, HL2.out.far⟩)
  rw [← hY]
  clear hY c0 c1 c12 d0 HL2 H2
  have c0 : Y.cell? ⟨ga, 0, none⟩ = some (.slice x.A x.l.length x.c) := HY.out.blk.cell 0
  have c1 : Y.cell? ⟨ga, 1, none⟩ = some (.int .i64 aj) := HY.out.blk.cell 1
  have c12 : Y.cell? ⟨ga, 12, none⟩ = some (.int .i64 0) := HY.out.blk.cell 12
  rw [HAA.out] at c0
  have d1 := (HQ.out Y HY.out.base).2.1
  rw [ht] at d1
  replace d1 : Y.cell? ⟨g, of + aj * 4 + 1, none⟩ = some (.string ⟨#[62, 62]⟩) := d1
  go_upto_region 7 with fail
  go_quiet (fail)
  obtain ⟨Z, hZ⟩ : ∃ Z, Z = Y.drewN nq := ⟨_, rfl⟩
  have HZ := Lib.hid (show RSt W w0 Z ga x aj p ps 0 from by rw [hZ]; exact HY.out.below (below_drewN (Below.refl Y.heap.size Y) _))
  have HLZ := Lib.hid (show NLies Z ga ⟨an, AHL2, cHL2⟩ from by rw [hZ]; exact ⟨(HLY.out.lok.below (below_drewN (Below.refl Y.heap.size Y) _) (Nat.le_refl _)), HLY.out.nil, HLY.out.far⟩)
  rw [← hZ]
  clear hZ c0 c1 c12 d1 HLY HY
  have c1 : Z.cell? ⟨ga, 1, none⟩ = some (.int .i64 aj) := HZ.out.blk.cell 1
  have f1 : Z.frozen? ⟨ga, 1, none⟩ = false := HZ.out.blk.frozen 1
  go_wp2_with fail
  refine (numberS HE.out HZ.out.next.refl).mono ?_
  rintro r w4 ⟨rfl, hN⟩
  have H4 := Lib.hid (RSt.of HZ.out.next hN)
  replace HLZ := Lib.hid (HLZ.out.gr (gr_trans (HZ.out.refl.next.gr) hN.gr))
  clear hN
  clear c1 f1
  go_wp2_with fail
  refine (pre1 ⟨7, (tokR x.l 2 [] (aj + 1) 0).1.value, 0⟩ HLZ.out hnl).mono ?_
  intro r w9 hP
  obtain ⟨A9, c9, n9, HP, rfl⟩ := hP.named
  clear hP
  go_wp2
  go_ret
  exact Gives.pre H4.out HP.out
set_option maxRecDepth 100000 in
set_option maxHeartbeats 8000000 in
theorem exprSlice {W w0 w : World} {ga i : Nat} {x : L Tk} {p : ProgD} {ps : L FieldD} {e : Int} {opd : Nat → Int → Pd} (E : REnv W x p ps) (h : RSt W w0 w ga x i p ps e) (hO : OpdOk W ga x p ps opd i) (hB : ∀ j e, j ≤ x.l.length → Bd x.l j (opd j e)) (hi : i ≤ x.l.length) (hp : peekR x.l [126] i e = false) (hz : (opd i e).e = 0) (hl : (opd i e).at_ < x.l.length) (hk : x.l[(opd i e).at_].kind = 3) (ht : x.l[(opd i e).at_].text = [91]) :
    Calls Tryz.prog 29 #[.pointer (some ⟨ga, 0, none⟩)] w (Gives W w0 ga x p ps (sliceR x.l (opd i e).n ((opd i e).at_ + 1))) := by
  have hm := E.few
  have HE := Lib.hid E
  have H := Lib.hid h
  have HA := Lib.hid (fun (u v : World) (h : RSt W u v ga x i p ps e) => hO u v i e (Nat.le_refl _) h)
  have hbd := hB i e hi
  have ha1 := hbd.le
  have ha2 := hbd.er
  have ha3 := hbd.ge
  clear hbd
  generalize opd i e = a at *
  obtain ⟨an, aj, ae⟩ := a
  simp only at ha1 ha2 ha3 hz hl hk ht ⊢
  have HPK := Lib.hid (show Calls Tryz.prog 59 #[.pointer (some ⟨ga, 0, none⟩), .string ⟨#[126]⟩] w fun r w' => r = .returned (.bool false) ∧ RSt W w w' ga x i p ps e from by
    have := peekS E h.refl ⟨#[126]⟩
    rw [show peekR x.l (⟨#[126]⟩ : ByteArray).data.toList i e = false from hp] at this
    exact this)
  clear hp E h hO hB
  go_enter Tryz.func29, Tryz.ntmps29
  go_wp2_with fail
  refine (HPK.out).mono ?_
  rintro r w1 ⟨rfl, hN⟩
  have H1 := Lib.hid (RSt.of H.out hN)
  clear hN
  go_wp2_with fail
  refine (HA.out _ _ H1.out.refl).mono ?_
  rintro r w2 ⟨AHL2, cHL2, rfl, hL, hN⟩
  have H2 := Lib.hid (RSt.of H1.out hN)
  have HL2 := Lib.hid hL
  clear hN hL
  have hnl : an.length ≤ 30000 := by omega
  subst hz
  obtain ⟨g, of, hA, hq⟩ := TkD.atA HE.out.toks hl
  have hl' : decide (x.l.length ≤ aj) = false := decide_eq_false (by omega)
  have hll : (aj : Int) < (x.l.length : Int) := by omega
  have HQ := Lib.hid hq
  have HAA := Lib.hid hA
  clear hq hA
  have d0 := (HQ.out w2 H2.out.base).1
  rw [hk] at d0
  have c0 : w2.cell? ⟨ga, 0, none⟩ = some (.slice x.A x.l.length x.c) := H2.out.blk.cell 0
  have c1 : w2.cell? ⟨ga, 1, none⟩ = some (.int .i64 aj) := H2.out.blk.cell 1
  have c12 : w2.cell? ⟨ga, 12, none⟩ = some (.int .i64 0) := H2.out.blk.cell 12
  rw [HAA.out] at c0
  go_upto_region 5 with fail
  go_quiet (fail)
  obtain ⟨Y, hY⟩ : ∃ Y, Y = w2.drewN nq := ⟨_, rfl⟩
  have HY := Lib.hid (show RSt W w0 Y ga x aj p ps 0 from by rw [hY]; exact H2.out.below (below_drewN (Below.refl w2.heap.size w2) _))
  have HLY := Lib.hid (show NLies Y ga ⟨an, AHL2, cHL2⟩ from by rw [hY]; exact ⟨(HL2.out.lok.below (below_drewN (Below.refl w2.heap.size w2) _) (Nat.le_refl _)), HL2.out.nil, HL2.out.far⟩)
  rw [← hY]
  clear hY c0 c1 c12 d0 HL2 H2
  have c0 : Y.cell? ⟨ga, 0, none⟩ = some (.slice x.A x.l.length x.c) := HY.out.blk.cell 0
  have c1 : Y.cell? ⟨ga, 1, none⟩ = some (.int .i64 aj) := HY.out.blk.cell 1
  have c12 : Y.cell? ⟨ga, 12, none⟩ = some (.int .i64 0) := HY.out.blk.cell 12
  rw [HAA.out] at c0
  have d1 := (HQ.out Y HY.out.base).2.1
  rw [ht] at d1
  replace d1 : Y.cell? ⟨g, of + aj * 4 + 1, none⟩ = some (.string ⟨#[91]⟩) := d1
  go_upto_region 7 with fail
  go_quiet (fail)
  obtain ⟨Z, hZ⟩ : ∃ Z, Z = Y.drewN nq := ⟨_, rfl⟩
  have HZ := Lib.hid (show RSt W w0 Z ga x aj p ps 0 from by rw [hZ]; exact HY.out.below (below_drewN (Below.refl Y.heap.size Y) _))
  have HLZ := Lib.hid (show NLies Z ga ⟨an, AHL2, cHL2⟩ from by rw [hZ]; exact ⟨(HLY.out.lok.below (below_drewN (Below.refl Y.heap.size Y) _) (Nat.le_refl _)), HLY.out.nil, HLY.out.far⟩)
  rw [← hZ]
  clear hZ c0 c1 c12 d1 HLY HY
  have c1 : Z.cell? ⟨ga, 1, none⟩ = some (.int .i64 aj) := HZ.out.blk.cell 1
  have f1 : Z.frozen? ⟨ga, 1, none⟩ = false := HZ.out.blk.frozen 1
  go_wp2_with fail
  refine (numberS HE.out HZ.out.next.refl).mono ?_
  rintro r w4 ⟨rfl, hN⟩
  have H4 := Lib.hid (RSt.of HZ.out.next hN)
  replace HLZ := Lib.hid (HLZ.out.gr (gr_trans (HZ.out.refl.next.gr) hN.gr))
  clear hN
  clear c1 f1
  go_wp2_with fail
  refine (symbolS HE.out H4.out.refl ⟨#[43]⟩).mono ?_
  rintro r w5 ⟨rfl, hN⟩
  have H5 := Lib.hid (RSt.of H4.out hN)
  replace HLZ := Lib.hid (HLZ.out.gr (gr_trans (gr_refl _ _) hN.gr))
  clear hN
  go_wp2_with fail
  refine (numberS HE.out H5.out.refl).mono ?_
  rintro r w6 ⟨rfl, hN⟩
  have H6 := Lib.hid (RSt.of H5.out hN)
  replace HLZ := Lib.hid (HLZ.out.gr (gr_trans (gr_refl _ _) hN.gr))
  clear hN
  go_wp2_with fail
  refine (symbolS HE.out H6.out.refl ⟨#[93]⟩).mono ?_
  rintro r w7 ⟨rfl, hN⟩
  have H7 := Lib.hid (RSt.of H6.out hN)
  replace HLZ := Lib.hid (HLZ.out.gr (gr_trans (gr_refl _ _) hN.gr))
  clear hN
  go_wp2_with fail
  refine (pre1 ⟨8, _, _⟩ HLZ.out hnl).mono ?_
  intro r w9 hP
  obtain ⟨A9, c9, n9, HP, rfl⟩ := hP.named
  clear hP
  go_wp2
  go_ret
  exact Gives.pre H7.out HP.out
set_option maxRecDepth 100000 in
set_option maxHeartbeats 8000000 in
theorem exprIf {W w0 w : World} {ga i : Nat} {x : L Tk} {p : ProgD} {ps : L FieldD} {e : Int} {opd : Nat → Int → Pd} (E : REnv W x p ps) (h : RSt W w0 w ga x i p ps e) (hO : OpdOk W ga x p ps opd i) (hB : ∀ j e, j ≤ x.l.length → Bd x.l j (opd j e)) (hi : i ≤ x.l.length) (hp : peekR x.l [126] i e = false) (hz : (opd i e).e = 0) (hl : (opd i e).at_ < x.l.length) (hk : x.l[(opd i e).at_].kind = 3) (ht : x.l[(opd i e).at_].text = [63]) :
    Calls Tryz.prog 29 #[.pointer (some ⟨ga, 0, none⟩)] w (Gives W w0 ga x p ps (ifR opd x.l (opd i e).n ((opd i e).at_ + 1))) := by
  have hm := E.few
  have HE := Lib.hid E
  have H := Lib.hid h
  have HA := Lib.hid (fun (u v : World) (h : RSt W u v ga x i p ps e) => hO u v i e (Nat.le_refl _) h)
  have hbd := hB i e hi
  have ha1 := hbd.le
  have ha2 := hbd.er
  have ha3 := hbd.ge
  clear hbd
  have HO := Lib.hid hO
  have HBB := Lib.hid hB
  have HR : Hid (ifR opd x.l (opd i e).n ((opd i e).at_ + 1) = ⟨⟨17, 0, 0⟩ :: ((opd i e).n ++ (opd ((opd i e).at_ + 1) 0).n ++ (opd (tokR x.l 3 [58] (opd ((opd i e).at_ + 1) 0).at_ (opd ((opd i e).at_ + 1) 0).e).2.1 (tokR x.l 3 [58] (opd ((opd i e).at_ + 1) 0).at_ (opd ((opd i e).at_ + 1) 0).e).2.2).n), (opd (tokR x.l 3 [58] (opd ((opd i e).at_ + 1) 0).at_ (opd ((opd i e).at_ + 1) 0).e).2.1 (tokR x.l 3 [58] (opd ((opd i e).at_ + 1) 0).at_ (opd ((opd i e).at_ + 1) 0).e).2.2).at_, (opd (tokR x.l 3 [58] (opd ((opd i e).at_ + 1) 0).at_ (opd ((opd i e).at_ + 1) 0).e).2.1 (tokR x.l 3 [58] (opd ((opd i e).at_ + 1) 0).at_ (opd ((opd i e).at_ + 1) 0).e).2.2).e⟩) := Lib.hid rfl
  rw [HR.out]
  clear HR
  generalize opd i e = a at *
  obtain ⟨an, aj, ae⟩ := a
  simp only at ha1 ha2 ha3 hz hl hk ht ⊢
  have hb1 := HBB.out (aj + 1) 0 (by omega)
  have hb2 := hb1.le
  have hb3 := hb1.er
  have hb4 := hb1.ge
  have HOb := Lib.hid (fun (u v : World) (h : RSt W u v ga x (aj + 1) p ps 0) => HO.out u v (aj + 1) 0 (by omega) h)
  clear hb1
  generalize opd (aj + 1) 0 = b at *
  obtain ⟨bn, bj, be⟩ := b
  simp only at hb2 hb3 hb4 ⊢
  have HSc := Lib.hid (fun (u v : World) (h1 : RSt W u v ga x bj p ps be) => show Calls Tryz.prog 63 #[.pointer (some ⟨ga, 0, none⟩), .string ⟨#[58]⟩] v fun r w' => r = .returned (.tuple #[]) ∧ RSt W u w' ga x (tokR x.l 3 [58] bj be).2.1 p ps (tokR x.l 3 [58] bj be).2.2 from symbolS HE.out h1 ⟨#[58]⟩)
  have hc1 : bj ≤ (tokR x.l 3 [58] bj be).2.1 ∧ (tokR x.l 3 [58] bj be).2.1 ≤ x.l.length := by
    rcases tok_cases x.l 3 [58] bj be with ⟨q1, _, q2⟩ | ⟨_, _, q2⟩
    · rw [q2]; exact ⟨by simp only; omega, by simp only; omega⟩
    · rw [q2]; exact ⟨Nat.le_refl _, hb2⟩
  generalize tokR x.l 3 [58] bj be = c at *
  obtain ⟨ct, cj, ce⟩ := c
  simp only at hc1 ⊢
  have hd1 := HBB.out cj ce hc1.2
  have hd2 := hd1.le
  have hd3 := hd1.er
  have HOd := Lib.hid (fun (u v : World) (h : RSt W u v ga x cj p ps ce) => HO.out u v cj ce (by omega) h)
  clear hd1
  generalize opd cj ce = d at *
  obtain ⟨dn, dj, de⟩ := d
  simp only at hd2 hd3 ⊢
  have hnl : an.length + bn.length + dn.length ≤ 30000 := by omega
  have HPK := Lib.hid (show Calls Tryz.prog 59 #[.pointer (some ⟨ga, 0, none⟩), .string ⟨#[126]⟩] w fun r w' => r = .returned (.bool false) ∧ RSt W w w' ga x i p ps e from by
    have := peekS E h.refl ⟨#[126]⟩
    rw [show peekR x.l (⟨#[126]⟩ : ByteArray).data.toList i e = false from hp] at this
    exact this)
  clear hp E h hO hB
  go_enter Tryz.func29, Tryz.ntmps29
  go_wp2_with fail
  refine (HPK.out).mono ?_
  rintro r w1 ⟨rfl, hN⟩
  have H1 := Lib.hid (RSt.of H.out hN)
  clear hN
  go_wp2_with fail
  refine (HA.out _ _ H1.out.refl).mono ?_
  rintro r w2 ⟨AHL2, cHL2, rfl, hL, hN⟩
  have H2 := Lib.hid (RSt.of H1.out hN)
  have HL2 := Lib.hid hL
  clear hN hL
  subst hz
  obtain ⟨g, of, hA, hq⟩ := TkD.atA HE.out.toks hl
  have hl' : decide (x.l.length ≤ aj) = false := decide_eq_false (by omega)
  have hll : (aj : Int) < (x.l.length : Int) := by omega
  have HQ := Lib.hid hq
  have HAA := Lib.hid hA
  clear hq hA
  have d0 := (HQ.out w2 H2.out.base).1
  rw [hk] at d0
  have c0 : w2.cell? ⟨ga, 0, none⟩ = some (.slice x.A x.l.length x.c) := H2.out.blk.cell 0
  have c1 : w2.cell? ⟨ga, 1, none⟩ = some (.int .i64 aj) := H2.out.blk.cell 1
  have c12 : w2.cell? ⟨ga, 12, none⟩ = some (.int .i64 0) := H2.out.blk.cell 12
  rw [HAA.out] at c0
  go_upto_region 5 with fail
  go_quiet (fail)
  obtain ⟨Y, hY⟩ : ∃ Y, Y = w2.drewN nq := ⟨_, rfl⟩
  have HY := Lib.hid (show RSt W w0 Y ga x aj p ps 0 from by rw [hY]; exact H2.out.below (below_drewN (Below.refl w2.heap.size w2) _))
  have HLY := Lib.hid (show NLies Y ga ⟨an, AHL2, cHL2⟩ from by rw [hY]; exact ⟨(HL2.out.lok.below (below_drewN (Below.refl w2.heap.size w2) _) (Nat.le_refl _)), HL2.out.nil, HL2.out.far⟩)
  rw [← hY]
  clear hY c0 c1 c12 d0 HL2 H2
  have c0 : Y.cell? ⟨ga, 0, none⟩ = some (.slice x.A x.l.length x.c) := HY.out.blk.cell 0
  have c1 : Y.cell? ⟨ga, 1, none⟩ = some (.int .i64 aj) := HY.out.blk.cell 1
  have c12 : Y.cell? ⟨ga, 12, none⟩ = some (.int .i64 0) := HY.out.blk.cell 12
  rw [HAA.out] at c0
  have d1 := (HQ.out Y HY.out.base).2.1
  rw [ht] at d1
  replace d1 : Y.cell? ⟨g, of + aj * 4 + 1, none⟩ = some (.string ⟨#[63]⟩) := d1
  go_upto_region 7 with fail
  go_quiet (fail)
  obtain ⟨Z, hZ⟩ : ∃ Z, Z = Y.drewN nq := ⟨_, rfl⟩
  have HZ := Lib.hid (show RSt W w0 Z ga x aj p ps 0 from by rw [hZ]; exact HY.out.below (below_drewN (Below.refl Y.heap.size Y) _))
  have HLZ := Lib.hid (show NLies Z ga ⟨an, AHL2, cHL2⟩ from by rw [hZ]; exact ⟨(HLY.out.lok.below (below_drewN (Below.refl Y.heap.size Y) _) (Nat.le_refl _)), HLY.out.nil, HLY.out.far⟩)
  rw [← hZ]
  clear hZ c0 c1 c12 d1 HLY HY
  have c1 : Z.cell? ⟨ga, 1, none⟩ = some (.int .i64 aj) := HZ.out.blk.cell 1
  have f1 : Z.frozen? ⟨ga, 1, none⟩ = false := HZ.out.blk.frozen 1
  go_wp2_with fail
  refine (HOb.out _ _ HZ.out.next.refl).mono ?_
  rintro r w4 ⟨AHL4, cHL4, rfl, hL, hN⟩
  have H4 := Lib.hid (RSt.of HZ.out.next hN)
  have HL4 := Lib.hid hL
  replace HLZ := Lib.hid (HLZ.out.gr (gr_trans (HZ.out.refl.next.gr) hN.gr))
  clear hN hL
  clear c1 f1
  go_wp2_with fail
  refine (HSc.out _ _ H4.out.refl).mono ?_
  rintro r w5 ⟨rfl, hN⟩
  have H5 := Lib.hid (RSt.of H4.out hN)
  replace HLZ := Lib.hid (HLZ.out.gr (gr_trans (gr_refl _ _) hN.gr))
  replace HL4 := Lib.hid (HL4.out.gr (gr_trans (gr_refl _ _) hN.gr))
  clear hN
  go_wp2_with fail
  refine (HOd.out _ _ H5.out.refl).mono ?_
  rintro r w6 ⟨AHL6, cHL6, rfl, hL, hN⟩
  have H6 := Lib.hid (RSt.of H5.out hN)
  have HL6 := Lib.hid hL
  replace HLZ := Lib.hid (HLZ.out.gr (gr_trans (gr_refl _ _) hN.gr))
  replace HL4 := Lib.hid (HL4.out.gr (gr_trans (gr_refl _ _) hN.gr))
  clear hN hL
  go_wp2_with fail
  refine (pre3 ⟨17, 0, 0⟩ HLZ.out HL4.out HL6.out hnl).mono ?_
  intro r w9 hP
  obtain ⟨A9, c9, n9, HP, rfl⟩ := hP.named
  clear hP
  go_wp2
  go_ret
  exact Gives.pre H6.out HP.out
set_option maxRecDepth 100000 in
set_option maxHeartbeats 8000000 in
theorem exprNone {W w0 w : World} {ga i : Nat} {x : L Tk} {p : ProgD} {ps : L FieldD} {e : Int} {opd : Nat → Int → Pd} (E : REnv W x p ps) (h : RSt W w0 w ga x i p ps e) (hO : OpdOk W ga x p ps opd i) (hB : ∀ j e, j ≤ x.l.length → Bd x.l j (opd j e)) (hi : i ≤ x.l.length) (hp : peekR x.l [126] i e = false) (hz : (opd i e).e = 0) (hl : (opd i e).at_ < x.l.length) (hk : x.l[(opd i e).at_].kind = 3) (hn : x.l[(opd i e).at_].text ≠ [60, 60] ∧ x.l[(opd i e).at_].text ≠ [62, 62] ∧ x.l[(opd i e).at_].text ≠ [91] ∧ x.l[(opd i e).at_].text ≠ [63]) (hop : operR x.l[(opd i e).at_].text = 0) :
    Calls Tryz.prog 29 #[.pointer (some ⟨ga, 0, none⟩)] w (Gives W w0 ga x p ps (opd i e)) := by
  have hm := E.few
  have HE := Lib.hid E
  have H := Lib.hid h
  have HA := Lib.hid (fun (u v : World) (h : RSt W u v ga x i p ps e) => hO u v i e (Nat.le_refl _) h)
  have hbd := hB i e hi
  have ha1 := hbd.le
  have ha2 := hbd.er
  have ha3 := hbd.ge
  clear hbd
  generalize opd i e = a at *
  obtain ⟨an, aj, ae⟩ := a
  simp only at ha1 ha2 ha3 hz hl hk hn hop ⊢
  have HPK := Lib.hid (show Calls Tryz.prog 59 #[.pointer (some ⟨ga, 0, none⟩), .string ⟨#[126]⟩] w fun r w' => r = .returned (.bool false) ∧ RSt W w w' ga x i p ps e from by
    have := peekS E h.refl ⟨#[126]⟩
    rw [show peekR x.l (⟨#[126]⟩ : ByteArray).data.toList i e = false from hp] at this
    exact this)
  clear hp E h hO hB
  go_enter Tryz.func29, Tryz.ntmps29
  go_wp2_with fail
  refine (HPK.out).mono ?_
  rintro r w1 ⟨rfl, hN⟩
  have H1 := Lib.hid (RSt.of H.out hN)
  clear hN
  go_wp2_with fail
  refine (HA.out _ _ H1.out.refl).mono ?_
  rintro r w2 ⟨AHL2, cHL2, rfl, hL, hN⟩
  have H2 := Lib.hid (RSt.of H1.out hN)
  have HL2 := Lib.hid hL
  clear hN hL
  subst hz
  obtain ⟨g, of, hA, hq⟩ := TkD.atA HE.out.toks hl
  have hl' : decide (x.l.length ≤ aj) = false := decide_eq_false (by omega)
  have hll : (aj : Int) < (x.l.length : Int) := by omega
  have HQ := Lib.hid hq
  have HAA := Lib.hid hA
  clear hq hA
  have d0 := (HQ.out w2 H2.out.base).1
  rw [hk] at d0
  have c0 : w2.cell? ⟨ga, 0, none⟩ = some (.slice x.A x.l.length x.c) := H2.out.blk.cell 0
  have c1 : w2.cell? ⟨ga, 1, none⟩ = some (.int .i64 aj) := H2.out.blk.cell 1
  have c12 : w2.cell? ⟨ga, 12, none⟩ = some (.int .i64 0) := H2.out.blk.cell 12
  rw [HAA.out] at c0
  go_upto_region 5 with fail
  go_quiet (fail)
  obtain ⟨Y, hY⟩ : ∃ Y, Y = w2.drewN nq := ⟨_, rfl⟩
  have HY := Lib.hid (show RSt W w0 Y ga x aj p ps 0 from by rw [hY]; exact H2.out.below (below_drewN (Below.refl w2.heap.size w2) _))
  have HLY := Lib.hid (show NLies Y ga ⟨an, AHL2, cHL2⟩ from by rw [hY]; exact ⟨(HL2.out.lok.below (below_drewN (Below.refl w2.heap.size w2) _) (Nat.le_refl _)), HL2.out.nil, HL2.out.far⟩)
  rw [← hY]
  clear hY c0 c1 c12 d0 HL2 H2
  have c0 : Y.cell? ⟨ga, 0, none⟩ = some (.slice x.A x.l.length x.c) := HY.out.blk.cell 0
  have c1 : Y.cell? ⟨ga, 1, none⟩ = some (.int .i64 aj) := HY.out.blk.cell 1
  have c12 : Y.cell? ⟨ga, 12, none⟩ = some (.int .i64 0) := HY.out.blk.cell 12
  rw [HAA.out] at c0
  have d1 := (HQ.out Y HY.out.base).2.1
  generalize x.l[aj].text = tx at *
  go_upto_region 7 with fail
  go_quiet (fail)
  obtain ⟨Z, hZ⟩ : ∃ Z, Z = Y.drewN nq := ⟨_, rfl⟩
  have HZ := Lib.hid (show RSt W w0 Z ga x aj p ps 0 from by rw [hZ]; exact HY.out.below (below_drewN (Below.refl Y.heap.size Y) _))
  have HLZ := Lib.hid (show NLies Z ga ⟨an, AHL2, cHL2⟩ from by rw [hZ]; exact ⟨(HLY.out.lok.below (below_drewN (Below.refl Y.heap.size Y) _) (Nat.le_refl _)), HLY.out.nil, HLY.out.far⟩)
  rw [← hZ]
  clear hZ c0 c1 c12 d1 HLY HY
  have n1 : (tx == [60, 60]) = false := by rw [tx_lit]; exact decide_eq_false hn.1
  have n2 : (tx == [62, 62]) = false := by rw [tx_lit]; exact decide_eq_false hn.2.1
  have n3 : (tx == [91]) = false := by rw [tx_lit]; exact decide_eq_false hn.2.2.1
  have n4 : (tx == [63]) = false := by rw [tx_lit]; exact decide_eq_false hn.2.2.2
  have HOP := Lib.hid (fun v => show Calls Tryz.prog 64 #[.string ⟨tx.toArray⟩] v fun e w' => e = .returned (.int .i64 (operR tx)) ∧ v = w' from eoper_any ⟨tx.toArray⟩ v)
  rw [hop] at HOP
  clear hn hop
  go_wp2_with fail
  refine (HOP.out _).mono ?_
  rintro r w3 ⟨rfl, rfl⟩
  go_wp2
  go_ret
  exact ⟨_, _, rfl, HLZ.out, HZ.out⟩
set_option maxRecDepth 100000 in
set_option maxHeartbeats 8000000 in
theorem exprBin {W w0 w : World} {ga i : Nat} {x : L Tk} {p : ProgD} {ps : L FieldD} {e : Int} {opd : Nat → Int → Pd} (E : REnv W x p ps) (h : RSt W w0 w ga x i p ps e) (hO : OpdOk W ga x p ps opd i) (hB : ∀ j e, j ≤ x.l.length → Bd x.l j (opd j e)) (hi : i ≤ x.l.length) (hp : peekR x.l [126] i e = false) (hz : (opd i e).e = 0) (hl : (opd i e).at_ < x.l.length) (hk : x.l[(opd i e).at_].kind = 3) (hn : x.l[(opd i e).at_].text ≠ [60, 60] ∧ x.l[(opd i e).at_].text ≠ [62, 62] ∧ x.l[(opd i e).at_].text ≠ [91] ∧ x.l[(opd i e).at_].text ≠ [63]) {o : Int} (hop : operR x.l[(opd i e).at_].text = o) (ho : o ≠ 0) :
    Calls Tryz.prog 29 #[.pointer (some ⟨ga, 0, none⟩)] w (Gives W w0 ga x p ps ⟨⟨o, 0, 0⟩ :: ((opd i e).n ++ (opd ((opd i e).at_ + 1) 0).n), (opd ((opd i e).at_ + 1) 0).at_, (opd ((opd i e).at_ + 1) 0).e⟩) := by
  have hm := E.few
  have HE := Lib.hid E
  have H := Lib.hid h
  have HA := Lib.hid (fun (u v : World) (h : RSt W u v ga x i p ps e) => hO u v i e (Nat.le_refl _) h)
  have hbd := hB i e hi
  have ha1 := hbd.le
  have ha2 := hbd.er
  have ha3 := hbd.ge
  clear hbd
  have HO := Lib.hid hO
  have HBB := Lib.hid hB
  generalize opd i e = a at *
  obtain ⟨an, aj, ae⟩ := a
  simp only at ha1 ha2 ha3 hz hl hk hn hop ⊢
  have hb1 := HBB.out (aj + 1) 0 (by omega)
  have hb2 := hb1.le
  have hb3 := hb1.er
  have hb4 := hb1.ge
  have HOb := Lib.hid (fun (u v : World) (h : RSt W u v ga x (aj + 1) p ps 0) => HO.out u v (aj + 1) 0 (by omega) h)
  clear hb1
  generalize opd (aj + 1) 0 = b at *
  obtain ⟨bn, bj, be⟩ := b
  simp only at hb2 hb3 hb4 ⊢
  have hnl : an.length + bn.length ≤ 30000 := by omega
  have HPK := Lib.hid (show Calls Tryz.prog 59 #[.pointer (some ⟨ga, 0, none⟩), .string ⟨#[126]⟩] w fun r w' => r = .returned (.bool false) ∧ RSt W w w' ga x i p ps e from by
    have := peekS E h.refl ⟨#[126]⟩
    rw [show peekR x.l (⟨#[126]⟩ : ByteArray).data.toList i e = false from hp] at this
    exact this)
  clear hp E h hO hB
  go_enter Tryz.func29, Tryz.ntmps29
  go_wp2_with fail
  refine (HPK.out).mono ?_
  rintro r w1 ⟨rfl, hN⟩
  have H1 := Lib.hid (RSt.of H.out hN)
  clear hN
  go_wp2_with fail
  refine (HA.out _ _ H1.out.refl).mono ?_
  rintro r w2 ⟨AHL2, cHL2, rfl, hL, hN⟩
  have H2 := Lib.hid (RSt.of H1.out hN)
  have HL2 := Lib.hid hL
  clear hN hL
  subst hz
  obtain ⟨g, of, hA, hq⟩ := TkD.atA HE.out.toks hl
  have hl' : decide (x.l.length ≤ aj) = false := decide_eq_false (by omega)
  have hll : (aj : Int) < (x.l.length : Int) := by omega
  have HQ := Lib.hid hq
  have HAA := Lib.hid hA
  clear hq hA
  have d0 := (HQ.out w2 H2.out.base).1
  rw [hk] at d0
  have c0 : w2.cell? ⟨ga, 0, none⟩ = some (.slice x.A x.l.length x.c) := H2.out.blk.cell 0
  have c1 : w2.cell? ⟨ga, 1, none⟩ = some (.int .i64 aj) := H2.out.blk.cell 1
  have c12 : w2.cell? ⟨ga, 12, none⟩ = some (.int .i64 0) := H2.out.blk.cell 12
  rw [HAA.out] at c0
  go_upto_region 5 with fail
  go_quiet (fail)
  obtain ⟨Y, hY⟩ : ∃ Y, Y = w2.drewN nq := ⟨_, rfl⟩
  have HY := Lib.hid (show RSt W w0 Y ga x aj p ps 0 from by rw [hY]; exact H2.out.below (below_drewN (Below.refl w2.heap.size w2) _))
  have HLY := Lib.hid (show NLies Y ga ⟨an, AHL2, cHL2⟩ from by rw [hY]; exact ⟨(HL2.out.lok.below (below_drewN (Below.refl w2.heap.size w2) _) (Nat.le_refl _)), HL2.out.nil, HL2.out.far⟩)
  rw [← hY]
  clear hY c0 c1 c12 d0 HL2 H2
  have c0 : Y.cell? ⟨ga, 0, none⟩ = some (.slice x.A x.l.length x.c) := HY.out.blk.cell 0
  have c1 : Y.cell? ⟨ga, 1, none⟩ = some (.int .i64 aj) := HY.out.blk.cell 1
  have c12 : Y.cell? ⟨ga, 12, none⟩ = some (.int .i64 0) := HY.out.blk.cell 12
  rw [HAA.out] at c0
  have d1 := (HQ.out Y HY.out.base).2.1
  generalize x.l[aj].text = tx at *
  go_upto_region 7 with fail
  go_quiet (fail)
  obtain ⟨Z, hZ⟩ : ∃ Z, Z = Y.drewN nq := ⟨_, rfl⟩
  have HZ := Lib.hid (show RSt W w0 Z ga x aj p ps 0 from by rw [hZ]; exact HY.out.below (below_drewN (Below.refl Y.heap.size Y) _))
  have HLZ := Lib.hid (show NLies Z ga ⟨an, AHL2, cHL2⟩ from by rw [hZ]; exact ⟨(HLY.out.lok.below (below_drewN (Below.refl Y.heap.size Y) _) (Nat.le_refl _)), HLY.out.nil, HLY.out.far⟩)
  rw [← hZ]
  clear hZ c0 c1 c12 d1 HLY HY
  have n1 : (tx == [60, 60]) = false := by rw [tx_lit]; exact decide_eq_false hn.1
  have n2 : (tx == [62, 62]) = false := by rw [tx_lit]; exact decide_eq_false hn.2.1
  have n3 : (tx == [91]) = false := by rw [tx_lit]; exact decide_eq_false hn.2.2.1
  have n4 : (tx == [63]) = false := by rw [tx_lit]; exact decide_eq_false hn.2.2.2
  have HOP := Lib.hid (fun v => show Calls Tryz.prog 64 #[.string ⟨tx.toArray⟩] v fun e w' => e = .returned (.int .i64 (operR tx)) ∧ v = w' from eoper_any ⟨tx.toArray⟩ v)
  rw [hop] at HOP
  have hop' : (o != 0) = true := bne_iff_ne.2 ho
  clear hn hop ho
  go_wp2_with fail
  refine (HOP.out _).mono ?_
  rintro r w3 ⟨rfl, rfl⟩
  have c1 : Z.cell? ⟨ga, 1, none⟩ = some (.int .i64 aj) := HZ.out.blk.cell 1
  have f1 : Z.frozen? ⟨ga, 1, none⟩ = false := HZ.out.blk.frozen 1
  go_wp2_with fail
  refine (HOb.out _ _ HZ.out.next.refl).mono ?_
  rintro r w4 ⟨AHL4, cHL4, rfl, hL, hN⟩
  have H4 := Lib.hid (RSt.of HZ.out.next hN)
  have HL4 := Lib.hid hL
  replace HLZ := Lib.hid (HLZ.out.gr (gr_trans (HZ.out.refl.next.gr) hN.gr))
  clear hN hL
  clear c1 f1
  go_wp2_with fail
  refine (pre2 ⟨o, 0, 0⟩ HLZ.out HL4.out hnl).mono ?_
  intro r w9 hP
  obtain ⟨A9, c9, n9, HP, rfl⟩ := hP.named
  clear hP
  go_wp2
  go_ret
  exact Gives.pre H4.out HP.out
theorem exprS {W w0 w : World} {ga i : Nat} {x : L Tk} {p : ProgD} {ps : L FieldD} {e : Int} {opd : Nat → Int → Pd} (E : REnv W x p ps) (h : RSt W w0 w ga x i p ps e) (hO : OpdOk W ga x p ps opd i) (hB : ∀ j e, j ≤ x.l.length → Bd x.l j (opd j e)) (hi : i ≤ x.l.length) :
    Calls Tryz.prog 29 #[.pointer (some ⟨ga, 0, none⟩)] w (Gives W w0 ga x p ps (exprOf opd x.l i e)) := by
  rcases Bool.eq_false_or_eq_true (peekR x.l [126] i e) with hp | hp
  · rw [exprOf, if_pos hp]; exact exprTilde E h hO hB hi hp
  rw [exprOf, if_neg (by rw [hp]; simp)]
  simp only
  by_cases hz : (opd i e).e = 0
  case neg => rw [if_pos hz]; exact exprErr E h hO hB hi hp hz
  rw [if_neg (by simpa using hz)]
  by_cases hl : (opd i e).at_ < x.l.length
  case neg => rw [List.getElem?_eq_none (by omega)]; exact exprOut E h hO hB hi hp hz hl
  rw [List.getElem?_eq_getElem hl]
  simp only
  by_cases hk : x.l[(opd i e).at_].kind = 3
  case neg => rw [if_pos hk]; exact exprWord E h hO hB hi hp hz hl hk
  rw [if_neg (by simpa using hk)]
  by_cases t1 : x.l[(opd i e).at_].text = [60, 60]
  · rw [if_pos t1]; exact exprShl E h hO hB hi hp hz hl hk t1
  rw [if_neg t1]
  by_cases t2 : x.l[(opd i e).at_].text = [62, 62]
  · rw [if_pos t2]; exact exprShr E h hO hB hi hp hz hl hk t2
  rw [if_neg t2]
  by_cases t3 : x.l[(opd i e).at_].text = [91]
  · rw [if_pos t3]; exact exprSlice E h hO hB hi hp hz hl hk t3
  rw [if_neg t3]
  by_cases t4 : x.l[(opd i e).at_].text = [63]
  · rw [if_pos t4]; exact exprIf E h hO hB hi hp hz hl hk t4
  rw [if_neg t4]
  by_cases t5 : operR x.l[(opd i e).at_].text = 0
  · rw [if_neg (by simpa using t5)]; exact exprNone E h hO hB hi hp hz hl hk ⟨t1, t2, t3, t4⟩ t5
  · rw [if_pos t5]; exact exprBin E h hO hB hi hp hz hl hk ⟨t1, t2, t3, t4⟩ rfl t5
set_option maxRecDepth 100000 in
set_option maxHeartbeats 8000000 in
theorem opdNo {W w0 w : World} {ga i : Nat} {x : L Tk} {p : ProgD} {ps : L FieldD} {e : Int} (E : REnv W x p ps) (h : RSt W w0 w ga x i p ps e) (hp : peekR x.l [40] i e = false) :
    Calls Tryz.prog 61 #[.pointer (some ⟨ga, 0, none⟩)] w (Gives W w0 ga x p ps (primR p ps.l x.l i e)) := by
  have HE := Lib.hid E
  have H := Lib.hid h
  have HPK := Lib.hid (show Calls Tryz.prog 59 #[.pointer (some ⟨ga, 0, none⟩), .string ⟨#[40]⟩] w fun r w' => r = .returned (.bool false) ∧ RSt W w w' ga x i p ps e from by
    have := peekS E h.refl ⟨#[40]⟩
    rw [show peekR x.l (⟨#[40]⟩ : ByteArray).data.toList i e = false from hp] at this
    exact this)
  clear hp E h
  have HPR := Lib.hid (fun (v : World) (h : RSt W w0 v ga x i p ps e) => primaryS HE.out h)
  generalize primR p ps.l x.l i e = R at *
  go_enter Tryz.func61, Tryz.ntmps61
  go_wp2_with fail
  refine (HPK.out).mono ?_
  rintro r w1 ⟨rfl, hN⟩
  have H1 := Lib.hid (RSt.of H.out hN)
  clear hN
  go_wp2_with fail
  refine (HPR.out _ H1.out).mono ?_
  rintro r w2 ⟨A, c, rfl, hL, hN⟩
  have H2 := Lib.hid hN
  have HL2 := Lib.hid hL
  clear hN hL
  go_wp2
  go_ret
  exact ⟨_, _, rfl, HL2.out, H2.out⟩
set_option maxRecDepth 100000 in
set_option maxHeartbeats 8000000 in
theorem opdYes {W w0 w : World} {ga i : Nat} {x : L Tk} {p : ProgD} {ps : L FieldD} {e : Int} {R : Pd} (E : REnv W x p ps) (h : RSt W w0 w ga x i p ps e) (hp : peekR x.l [40] i e = true)
    (hX : ∀ u v : World, RSt W u v ga x (i + 1) p ps e → Calls Tryz.prog 29 #[.pointer (some ⟨ga, 0, none⟩)] v (Gives W u ga x p ps R)) :
    Calls Tryz.prog 61 #[.pointer (some ⟨ga, 0, none⟩)] w (Gives W w0 ga x p ps ⟨R.n, (tokR x.l 3 [41] R.at_ R.e).2.1, (tokR x.l 3 [41] R.at_ R.e).2.2⟩) := by
  have HE := Lib.hid E
  have H := Lib.hid h
  have HX := Lib.hid hX
  have hm := E.few
  have hil : i < x.l.length := by
    rcases Nat.lt_or_ge i x.l.length with h | h
    · exact h
    · rw [peekR, sym_none h] at hp; simp at hp
  have HPK := Lib.hid (show Calls Tryz.prog 59 #[.pointer (some ⟨ga, 0, none⟩), .string ⟨#[40]⟩] w fun r w' => r = .returned (.bool true) ∧ RSt W w w' ga x i p ps e from by
    have := peekS E h.refl ⟨#[40]⟩
    rw [show peekR x.l (⟨#[40]⟩ : ByteArray).data.toList i e = true from hp] at this
    exact this)
  clear hp E h hX
  obtain ⟨rn, rj, re⟩ := R
  simp only at HX ⊢
  go_enter Tryz.func61, Tryz.ntmps61
  go_wp2_with fail
  refine (HPK.out).mono ?_
  rintro r w1 ⟨rfl, hN⟩
  have H1 := Lib.hid (RSt.of H.out hN)
  clear hN
  have c1 : w1.cell? ⟨ga, 1, none⟩ = some (.int .i64 i) := H1.out.blk.cell 1
  have f1 : w1.frozen? ⟨ga, 1, none⟩ = false := H1.out.blk.frozen 1
  go_wp2_with fail
  refine (HX.out _ _ H1.out.next.refl).mono ?_
  rintro r w2 ⟨AHL2, cHL2, rfl, hL, hN⟩
  have H2 := Lib.hid (RSt.of H1.out.next hN)
  have HL2 := Lib.hid hL
  clear hN hL
  clear c1 f1
  go_wp2_with fail
  refine (symbolS HE.out H2.out.refl ⟨#[41]⟩).mono ?_
  rintro r w3 ⟨rfl, hN⟩
  have H3 := Lib.hid (RSt.of H2.out hN)
  replace HL2 := Lib.hid (HL2.out.gr (gr_trans (gr_refl _ _) hN.gr))
  clear hN
  go_wp2
  go_ret
  exact ⟨_, _, rfl, HL2.out, H3.out⟩
theorem opdS {W : World} {ga : Nat} {x : L Tk} {p : ProgD} {ps : L FieldD} (E : REnv W x p ps) : ∀ (k i : Nat), x.l.length ≤ i + k → OpdOk W ga x p ps (opdR p ps.l x.l k) i
  | 0, i, hk => fun w0 w j e hj h => by
    rw [opdR]
    exact opdNo E h (by rw [peekR, sym_none (by omega)]; simp)
  | k + 1, i, hk => fun w0 w j e hj h => by
    rw [opdR]
    rcases Bool.eq_false_or_eq_true (peekR x.l [40] j e) with hp | hp
    · rw [if_pos hp]
      have hil : j < x.l.length := by
        rcases Nat.lt_or_ge j x.l.length with h | h
        · exact h
        · rw [peekR, sym_none h] at hp; simp at hp
      exact opdYes E h hp fun u v hv => exprS E hv (opdS E k (j + 1) (by omega)) (opd_bd p ps.l x.l k) (by omega)
    · rw [if_neg (by rw [hp]; simp)]
      exact opdNo E h hp
theorem expressionS {W w0 w : World} {ga i : Nat} {x : L Tk} {p : ProgD} {ps : L FieldD} {e : Int} (E : REnv W x p ps) (h : RSt W w0 w ga x i p ps e) (hi : i ≤ x.l.length) :
    Calls Tryz.prog 29 #[.pointer (some ⟨ga, 0, none⟩)] w (Gives W w0 ga x p ps (exprR p ps.l x.l i e)) :=
  exprS E h (opdS E x.l.length i (by omega)) (opd_bd p ps.l x.l x.l.length) hi
end Go.Proofs.YtpomjcndeanjgaaGreatDoor
namespace Go.Proofs.YtpomjcndeanjgaaGreatDoor
open Go.RowKit
theorem str_cat (a b : List UInt8) : (⟨a.toArray⟩ : ByteArray) ++ ⟨b.toArray⟩ = ⟨(a ++ b).toArray⟩ := by
  apply ByteArray.ext; simp
theorem meta_dot : (metaName ++ ⟨#[46]⟩ : ByteArray) = ⟨#[109, 101, 116, 97, 46]⟩ := str_cat [109, 101, 116, 97] [46]
theorem fl1_and (a b : Bool) (e : Int) : fl1 b (fl1 a e) = fl1 (a && b) e := by cases a <;> cases b <;> rfl
theorem fl1_flag {p : ProgD} {ps : List FieldD} {l : List NodeD} {e : Int} {i : Nat} {x : NodeD} (hx : l[i]? = some x) : flagM p ps l e i (i + 1) = fl1 (resM p ps x) e := by
  rw [flag_one hx, fl1]
  cases resM p ps x <;> rfl
set_option maxRecDepth 100000 in
set_option maxHeartbeats 4000000 in
theorem wref_meta (f : Nat) (W : World) (x : L NodeD) (p : ProgD) (ps : L FieldD) (e0 : Int) (ga : Nat) (w : World) (hf : f < p.metadata.l.length) (E : WEnv W x p ps) (hb : Below W.heap.size W w) (hl : W.heap.size ≤ ga)
    (hK : Blk w ga 69 (wrCells x p ps e0)) :
    Calls Tryz.prog 33 #[.pointer (some ⟨ga, 0, none⟩), .int .i64 (-1), .int .i64 f] w fun r w' =>
      r = .returned (.string (hdrB p (-1) ++ ⟨#[46]⟩ ++ fldB p.metadata.l f)) ∧ Blk w' ga 69 (wrCells x p ps (fl1 (rightB (fNames p.metadata.l) (fldB p.metadata.l f) f) e0)) ∧ w.grownBy w' (some ga) := by
  rw [fld_at' hf, show hdrB p (-1) = metaName from rfl, meta_dot]
  obtain ⟨g, of, hA, hall⟩ := FieldD.atA E.prog.metadata hf
  have HD := Lib.hid (fun u (h : Below W.heap.size W u) => (hall u h).1)
  have HN := Lib.hid (fun ok e u (h : Blk u ga 69 (wrCells x p ps e)) => wname_any p.metadata.l[f].name ok x p ps e ga u h (E.nm.met _ (List.getElem_mem hf)))
  have HI := Lib.hid (fun u (h : Below W.heap.size W u) => efield_any p.metadata p.metadata.l[f].name u (E.prog.metadata.below h (Nat.le_refl _)))
  have HS : Hid (p.metadata.l[f].name.size ≤ 1000) := Lib.hid (E.nm.met _ (List.getElem_mem hf))
  have HK := Lib.hid hK
  have HL := Lib.hid hl
  have H0 := Lib.hid hb
  have k3 : w.cell? ⟨ga, 3, none⟩ = some (.slice p.metadata.A p.metadata.l.length p.metadata.c) := hK.cell 3
  have hfi : (f : Int) < (p.metadata.l.length : Int) := by omega
  have HR : Hid (∀ n : Int, fl1 (rightB (fNames p.metadata.l) p.metadata.l[f].name f) e0 = fl1 ((Lib.idxOfS (fNames p.metadata.l) p.metadata.l[f].name == (f : Int)) && ident p.metadata.l[f].name) e0) := Lib.hid (fun _ => by
    unfold rightB; rw [Bool.and_comm]; congr 2; try exact (beq_eq_decide ..).symm)
  rw [HR.out 0]
  clear hall hK hb hl E HR
  simp only [hA] at k3 HI
  generalize p.metadata.l[f].name = nm at *
  generalize fNames p.metadata.l = ns at *
  clear hA
  have hsz := HS.out
  have z0 : (⟨#[109, 101, 116, 97, 46]⟩ : ByteArray).size = 5 := rfl
  have z1 : ¬ (⟨#[109, 101, 116, 97, 46]⟩ : ByteArray).size + nm.size > 9223372036854775807 := by omega
  have z2 : ¬ 5 + nm.size > 9223372036854775807 := by omega
  go_enter Tryz.func33, Tryz.ntmps33
  go_upto_region 3 with fail
  clear k3
  have hds := fun u (h : Below W.heap.size W u) => HD.out u h
  go_region_held3 (fun w' => Below W.heap.size W w') (first | exact H0.out | exact below_drew H0.out | (exact below_step (by assumption) (by assumption)) | (exact gr_base (by assumption) (by assumption) HL.out) | assumption)
    (first
    | (go_at_call 35; refine (HI.out _ (by assumption)).mono ?_; rintro r w5 ⟨rfl, hb5⟩)
    | (go_at_call 34; refine (HN.out _ e0 _ (HK.out.below (below_step (below_drew (Below.refl _ _)) hb5) HK.out.lt)).mono ?_; rintro r w6 ⟨rfl, hk6, hg6⟩))
  all_goals
    go_wp2
    go_ret
    exact ⟨rfl, hk6, gr_trans (gr_below (below_step (below_drew (Below.refl _ _)) hb5) _) hg6⟩
set_option maxRecDepth 100000 in
set_option maxHeartbeats 8000000 in
theorem wref_fld (k f : Nat) (W : World) (x : L NodeD) (p : ProgD) (ps : L FieldD) (e0 : Int) (ga : Nat) (w : World) (hk : k < p.headers.l.length) (hf : f < p.headers.l[k].fields.l.length) (E : WEnv W x p ps) (hb : Below W.heap.size W w) (hl : W.heap.size ≤ ga)
    (hK : Blk w ga 69 (wrCells x p ps e0)) :
    Calls Tryz.prog 33 #[.pointer (some ⟨ga, 0, none⟩), .int .i64 k, .int .i64 f] w fun r w' =>
      r = .returned (.string (hdrB p k ++ ⟨#[46]⟩ ++ fldB p.headers.l[k].fields.l f)) ∧
      Blk w' ga 69 (wrCells x p ps (fl1 (rightH p k && rightB (fNames p.headers.l[k].fields.l) (fldB p.headers.l[k].fields.l f) f) e0)) ∧ w.grownBy w' (some ga) := by
  rw [fld_at' hf]
  have ho := E.prog.hdr _ (List.getElem_mem hk)
  obtain ⟨g, of, hA, hall⟩ := FieldD.atA ho.fields hf
  obtain ⟨gh, oh, hAh, hallh⟩ := HeaderD.atA E.prog.headers hk
  have HD := Lib.hid (fun u (h : Below W.heap.size W u) => (hall u h).1)
  have HDh := Lib.hid (fun u (h : Below W.heap.size W u) => (hallh u h).2)
  have hns := E.nm.fld _ (List.getElem_mem hk) _ (List.getElem_mem hf)
  have hhs : (hdrB p k).size ≤ 1000 := by rw [(hdr_at' p hk).1]; exact E.nm.hdr _ (List.getElem_mem hk)
  have HH := Lib.hid (fun e u (hb : Below W.heap.size W u) (h : Blk u ga 69 (wrCells x p ps e)) => whead_any k W x p ps e ga u hk E hb h)
  have HN := Lib.hid (fun ok e u (h : Blk u ga 69 (wrCells x p ps e)) => wname_any p.headers.l[k].fields.l[f].name ok x p ps e ga u h hns)
  have HI := Lib.hid (fun u (h : Below W.heap.size W u) => efield_any p.headers.l[k].fields p.headers.l[k].fields.l[f].name u (ho.fields.below h (Nat.le_refl _)))
  have HR : Hid (fl1 (rightH p k && rightB (fNames p.headers.l[k].fields.l) p.headers.l[k].fields.l[f].name f) e0 = fl1 ((Lib.idxOfS (fNames p.headers.l[k].fields.l) p.headers.l[k].fields.l[f].name == (f : Int)) && ident p.headers.l[k].fields.l[f].name) (fl1 (rightH p k) e0)) := Lib.hid (by
    rw [fl1_and]
    unfold rightB; rw [Bool.and_comm (ident _)]; congr 3; try exact (beq_eq_decide ..).symm)
  rw [HR.out]
  have HK := Lib.hid hK
  have HL := Lib.hid hl
  have H0 := Lib.hid hb
  have k2 : w.cell? ⟨ga, 2, none⟩ = some (.slice p.headers.A p.headers.l.length p.headers.c) := hK.cell 2
  have hki : (k : Int) < (p.headers.l.length : Int) := by omega
  have hfi : (f : Int) < (p.headers.l[k].fields.l.length : Int) := by omega
  have dh := HDh.out w hb
  clear hall hallh hK hb hl E HR ho
  simp only [hAh] at k2
  simp only [hA] at HI dh
  generalize p.headers.l[k].fields.l[f].name = nm at *
  generalize fNames p.headers.l[k].fields.l = ns at *
  generalize p.headers.l[k].fields.l.length = fn at *
  generalize p.headers.l[k].fields.c = fcp at *
  generalize hdrB p k = hd at *
  clear hA hAh HDh
  have z1 : ¬ hd.size + (⟨#[46]⟩ : ByteArray).size > 9223372036854775807 := by have : (⟨#[46]⟩ : ByteArray).size = 1 := rfl; omega
  have z2 : ¬ hd.size + 1 > 9223372036854775807 := by omega
  have z3 : ¬ (hd ++ ⟨#[46]⟩).size + nm.size > 9223372036854775807 := by have : (⟨#[46]⟩ : ByteArray).size = 1 := rfl; simp only [ByteArray.size_append]; omega
  have z4 : ¬ hd.size + 1 + nm.size > 9223372036854775807 := by omega
  have hkm : ((k : Int) == -1) = false := beq_eq_false_iff_ne.2 (by omega)
  go_enter Tryz.func33, Tryz.ntmps33
  go_upto_region 5 with fail
  clear k2 dh
  have hds := fun u (h : Below W.heap.size W u) => HD.out u h
  go_region_held3 (fun w' => Below W.heap.size W w') (first | exact H0.out | exact below_drew H0.out | (exact below_step (by assumption) (by assumption)) | (exact gr_base (by assumption) (by assumption) HL.out) | assumption)
    (first
    | (go_at_call 36; refine (HH.out e0 _ (by assumption) (HK.out.below (below_drew (Below.refl _ _)) HK.out.lt)).mono ?_; rintro r w4 ⟨rfl, hk4, hg4⟩)
    | (go_at_call 35; refine (HI.out _ (by assumption)).mono ?_; rintro r w5 ⟨rfl, hb5⟩)
    | (go_at_call 34; refine (HN.out _ (fl1 (rightH p k) e0) _ (hk4.below hb5 hk4.lt)).mono ?_; rintro r w6 ⟨rfl, hk6, hg6⟩))
  all_goals
    go_wp2
    go_ret
    exact ⟨rfl, hk6, gr_trans (gr_trans (gr_trans (gr_below (below_drew (Below.refl _ _)) _) hg4) (gr_below hb5 _)) hg6⟩
end Go.Proofs.YtpomjcndeanjgaaGreatDoor
namespace Go.Proofs.YtpomjcndeanjgaaGreatDoor
open Go.RowKit
theorem ret_si {s t : ByteArray} {a b : Int} (h : s = t) (h' : a = b) : Ending.returned (.tuple #[.string s, .int .i64 a]) = .returned (.tuple #[.string t, .int .i64 b]) := by rw [h, h']
def ExprC (W : World) (x : L NodeD) (p : ProgD) (ps : L FieldD) (ga i j : Nat) (s : ByteArray) : Prop := ∀ (e0 : Int) (w : World), Below W.heap.size W w → Blk w ga 69 (wrCells x p ps e0) →
  Calls Tryz.prog 20 #[.pointer (some ⟨ga, 0, none⟩), .int .i64 i] w fun r w' =>
    r = .returned (.tuple #[.string s, .int .i64 j]) ∧ Blk w' ga 69 (wrCells x p ps (flagM p ps.l x.l e0 i j)) ∧ w.grownBy w' (some ga)
def OpdC (W : World) (x : L NodeD) (p : ProgD) (ps : L FieldD) (ga i j : Nat) (s : ByteArray) : Prop := ∀ (e0 : Int) (w : World), Below W.heap.size W w → Blk w ga 69 (wrCells x p ps e0) →
  Calls Tryz.prog 37 #[.pointer (some ⟨ga, 0, none⟩), .int .i64 i] w fun r w' =>
    r = .returned (.tuple #[.string s, .int .i64 j]) ∧ Blk w' ga 69 (wrCells x p ps (flagM p ps.l x.l e0 i j)) ∧ w.grownBy w' (some ga)
set_option maxRecDepth 100000 in
set_option maxHeartbeats 4000000 in
theorem opd_of_expr {W : World} {x : L NodeD} {p : ProgD} {ps : L FieldD} {ga i j : Nat} {s : ByteArray} {y : NodeD} (E : WEnv W x p ps) (hl : W.heap.size ≤ ga) (hy : x.l[i]? = some y) (hs : s.size ≤ 1000000) (H : ExprC W x p ps ga i j s) :
    OpdC W x p ps ga i j (opdB y s) := by
  intro e0 w hb hK
  have hi : i < x.l.length := (List.getElem?_eq_some_iff.1 hy).1
  obtain ⟨g, of, hA, hq⟩ := NodeD.atA E.nodes hi
  have hye : x.l[i] = y := by rw [List.getElem?_eq_getElem hi] at hy; injection hy
  rw [hye] at hq
  have HQ := Lib.hid hq
  have HC := Lib.hid (H e0 w hb hK)
  have HL := Lib.hid hl
  have H0 := Lib.hid hb
  have hii : (i : Int) < (x.l.length : Int) := by omega
  have HO : Hid (opdB y s = if y.op ≤ 4 then s else ⟨#[40]⟩ ++ s ++ ⟨#[41]⟩) := Lib.hid rfl
  generalize opdB y s = R at *
  generalize flagM p ps.l x.l e0 i j = e1 at *
  have HAA := Lib.hid hA
  clear hb hK hy H hl hq E hye hA
  go_enter Tryz.func37, Tryz.ntmps37
  go_wp2_with fail
  refine HC.out.mono ?_
  rintro r w1 ⟨rfl, hk1, hg1⟩
  have HK1 := Lib.hid hk1
  have HG1 := Lib.hid hg1
  have hb1 := gr_base H0.out hg1 HL.out
  have d0 := (HQ.out w1 hb1).1
  have k0 : w1.cell? ⟨ga, 0, none⟩ = some (.slice (some ⟨g, of, none⟩) x.l.length x.c) := by rw [← HAA.out]; exact hk1.cell 0
  clear hk1 hg1 hb1 HC
  by_cases h4 : y.op ≤ 4
  · have HR : Hid (R = s) := Lib.hid (by rw [HO.out, if_pos h4])
    go_wp2
    go_ret2
    exact ⟨ret_si HR.out.symm rfl, HK1.out, HG1.out⟩
  · have HR : Hid (R = ⟨#[40]⟩ ++ s ++ ⟨#[41]⟩) := Lib.hid (by rw [HO.out, if_neg h4])
    have z1 : ¬ (⟨#[40]⟩ : ByteArray).size + s.size > 9223372036854775807 := by have : (⟨#[40]⟩ : ByteArray).size = 1 := rfl; omega
    have z2 : ¬ 1 + s.size > 9223372036854775807 := by omega
    have z3 : ¬ 1 + s.size + 1 > 9223372036854775807 := by omega
    go_wp2
    go_ret2
    exact ⟨ret_si HR.out.symm rfl, HK1.out, HG1.out⟩
theorem dec_size (n : Int) : (decB n).size ≤ 20 := decD_len 20 n.toNat
theorem prim_size {p : ProgD} {ps : List FieldD} {x : NodeD} (hn : Names p ps) (_hk : NodeOk p ps x) (_ha : arityM x.op = 0) : (primB p ps x).size ≤ 2100 := by
  have hd1 := dec_size x.n
  have hd2 := dec_size x.w
  have hmn : metaName.size = 4 := rfl
  have hh : ∀ h : Int, (hdrB p h).size ≤ 1000 := fun h => by
    unfold hdrB
    split
    · omega
    · rcases hx : p.headers.l[h.toNat]? with _ | y
      · simp
      · simpa using hn.hdr y (List.mem_of_getElem? hx)
  have hf : ∀ (l : List FieldD) (i : Int), (∀ f ∈ l, f.name.size ≤ 1000) → (fldB l i).size ≤ 1000 := fun l i hl => by
    unfold fldB
    rcases hx : l[i.toNat]? with _ | y
    · simp
    · simpa using hl y (List.mem_of_getElem? hx)
  have hfl : ∀ f ∈ (fldsL p x.n).l, f.name.size ≤ 1000 := by
    unfold fldsL
    split
    · exact hn.met
    · rcases hx : p.headers.l[x.n.toNat]? with _ | y
      · simp
      · simpa using hn.fld y (List.mem_of_getElem? hx)
  have h1 := hh x.n
  have h2 := hf _ x.w hfl
  have h3 := hf ps x.n hn.par
  unfold primB
  have s1 : (⟨#[58]⟩ : ByteArray).size = 1 := rfl
  have s2 : (⟨#[46]⟩ : ByteArray).size = 1 := rfl
  have s3 : (⟨#[64]⟩ : ByteArray).size = 1 := rfl
  have s4 : (⟨#[118, 97, 108, 105, 100, 40]⟩ : ByteArray).size = 6 := rfl
  have s5 : (⟨#[41]⟩ : ByteArray).size = 1 := rfl
  split
  · simp only [ByteArray.size_append]; omega
  split
  · simp only [ByteArray.size_append]; omega
  split
  · simp only [ByteArray.size_append]; omega
  · simp only [ByteArray.size_append]; omega
theorem opd_size (x : NodeD) (s : ByteArray) : (opdB x s).size ≤ s.size + 2 := by
  unfold opdB
  have s5 : (⟨#[40]⟩ : ByteArray).size = 1 := rfl
  have s6 : (⟨#[41]⟩ : ByteArray).size = 1 := rfl
  split
  · omega
  · simp only [ByteArray.size_append]; omega
theorem sym_size (op : Int) : (symB op).size ≤ 2 := by
  unfold symB
  repeat' split
  all_goals decide
theorem un_size (x : NodeD) (s : ByteArray) : (unB x s).size ≤ s.size + 50 := by
  have hd1 := dec_size x.n
  have hd2 := dec_size x.w
  unfold unB
  have s1 : (⟨#[126]⟩ : ByteArray).size = 1 := rfl
  have s2 : (⟨#[32, 60, 60, 32]⟩ : ByteArray).size = 4 := rfl
  have s3 : (⟨#[32, 62, 62, 32]⟩ : ByteArray).size = 4 := rfl
  have s4 : (⟨#[91]⟩ : ByteArray).size = 1 := rfl
  have s5 : (⟨#[43]⟩ : ByteArray).size = 1 := rfl
  have s6 : (⟨#[93]⟩ : ByteArray).size = 1 := rfl
  split
  · simp only [ByteArray.size_append]; omega
  split
  · simp only [ByteArray.size_append]; omega
  split
  · simp only [ByteArray.size_append]; omega
  · simp only [ByteArray.size_append]; omega
theorem bi_size (x : NodeD) (s t : ByteArray) : (biB x s t).size ≤ s.size + t.size + 4 := by
  have hd1 := sym_size x.op
  unfold biB
  have s1 : (⟨#[32]⟩ : ByteArray).size = 1 := rfl
  simp only [ByteArray.size_append]; omega
theorem tri_size (s t u : ByteArray) : (triB s t u).size = s.size + t.size + u.size + 6 := by
  unfold triB
  have s1 : (⟨#[32, 63, 32]⟩ : ByteArray).size = 3 := rfl
  have s2 : (⟨#[32, 58, 32]⟩ : ByteArray).size = 3 := rfl
  simp only [ByteArray.size_append]; omega
theorem Tx.size {p : ProgD} {ps : List FieldD} {l : List NodeD} {i j : Nat} {s : ByteArray} (hn : Names p ps) (h : Tx p ps l i j s) : s.size ≤ 3000 * (j - i) := by
  induction h with
  | leaf h ha hk => have := prim_size hn hk ha; omega
  | @un i j x y s h _ _ _ t1 ih => have := t1.lt; have := un_size x (opdB y s); have := opd_size y s; omega
  | @bi i m j x y z s t h _ _ _ t1 _ t2 ih1 ih2 => have := t1.lt; have := t2.lt; have := bi_size x (opdB y s) (opdB z t); have := opd_size y s; have := opd_size z t; omega
  | @tri i m n j x y z u s t r h _ _ _ t1 _ t2 _ t3 ih1 ih2 ih3 => have := t1.lt; have := t2.lt; have := t3.lt; have := tri_size (opdB y s) (opdB z t) (opdB u r); have := opd_size y s; have := opd_size z t; have := opd_size u r; omega
set_option maxRecDepth 100000 in
set_option maxHeartbeats 8000000 in
theorem expr_leaf {W : World} {x : L NodeD} {p : ProgD} {ps : L FieldD} {ga i : Nat} {y0 : NodeD} (E : WEnv W x p ps) (hl : W.heap.size ≤ ga) (h : x.l[i]? = some y0) (ha : arityM y0.op = 0) (hk : NodeOk p ps.l y0) :
    ExprC W x p ps ga i (i + 1) (primB p ps.l y0) := by
  intro e0 w hb hK
  have hi : i < x.l.length := (List.getElem?_eq_some_iff.1 h).1
  obtain ⟨g, of, hA, hq⟩ := NodeD.atA E.nodes hi
  have hye : x.l[i] = y0 := by rw [List.getElem?_eq_getElem hi] at h; injection h
  rw [hye] at hq
  obtain ⟨op, n, wd⟩ := y0
  simp only at hq ha hk
  obtain ⟨d0, d1, d2⟩ := hq w hb
  have k0 : w.cell? ⟨ga, 0, none⟩ = some (.slice (some ⟨g, of, none⟩) x.l.length x.c) := by rw [← hA]; exact hK.cell 0
  have hii : (i : Int) < (x.l.length : Int) := by omega
  obtain ⟨V, hV⟩ : ∃ V, V = w.alloc (.cells #[.int .i64 op, .int .i64 n, .int .i64 wd] 65) := ⟨_, rfl⟩
  have HV : Hid (Blk V w.heap.size 65 #[.int .i64 op, .int .i64 n, .int .i64 wd]) := Lib.hid (by rw [hV]; exact Blk.new _ _ _)
  have HwV : Hid (Below w.heap.size w V) := Lib.hid (by rw [hV]; exact below1 _ _)
  have HBV : Hid (Below W.heap.size W V) := Lib.hid (below_step hb HwV.out)
  have HKV : Hid (Blk V ga 69 (wrCells x p ps e0)) := Lib.hid (hK.below HwV.out hK.lt)
  have HGa : Hid (ga < w.heap.size) := Lib.hid hK.lt
  have HL := Lib.hid hl
  have b0 : V.cell? ⟨w.heap.size, 0, none⟩ = some (.int .i64 op) := HV.out.cell 0
  have b1 : V.cell? ⟨w.heap.size, 1, none⟩ = some (.int .i64 n) := HV.out.cell 1
  have b2 : V.cell? ⟨w.heap.size, 2, none⟩ = some (.int .i64 wd) := HV.out.cell 2
  have HX := Lib.hid h
  have HT := Lib.hid (fun u (h : Below W.heap.size W u) => E.tab.base h)
  have HF := Lib.hid (fl1_flag (p := p) (ps := ps.l) (e := e0) h)
  have hmi := E.nodes.1
  unfold maxLen at hmi
  have HW : Hid (IntKind.i64.wrap ((i : Int) + 1) = ((i + 1 : Nat) : Int)) := Lib.hid (by rw [IntWalk.i64_in _ (by omega)]; rfl)
  rcases arity0 ha with rfl | rfl | rfl | rfl
  · obtain ⟨⟨n0, n1⟩, w0, w1⟩ := hk.c1 rfl
    have HR : Hid (primB p ps.l ⟨1, n, wd⟩ = decB n ++ ⟨#[58]⟩ ++ decB wd) := Lib.hid rfl
    have HE : Hid (flagM p ps.l x.l e0 i (i + 1) = e0) := Lib.hid (by rw [HF.out]; rfl)
    rw [HR.out, HE.out]
    have q1 := dec_size n
    have q2 := dec_size wd
    have z0 : (⟨#[58]⟩ : ByteArray).size = 1 := rfl
    have z1 : ¬ (decB n).size + 1 > 9223372036854775807 := by omega
    have z2 : ¬ (decB n).size + 1 + (decB wd).size > 9223372036854775807 := by omega
    have H0 := Lib.hid (Below.refl V.heap.size V)
    have HTV := Lib.hid (fun u (h : Below V.heap.size V u) => HT.out u (below_step HBV.out h))
    clear hq hk hA hye h ha E hl hb HF HR HE
    go_enter Tryz.func20, Tryz.ntmps20
    go_upto_region 2 with fail
    rw [← hV]
    clear hV k0 d0 d1 d2 hK
    go_upto_region 4 with fail
    clear b0 b1 b2
    have hbs := fun u (h : Below V.heap.size V u) => (HV.out.below h HV.out.lt)
    have hb1 := fun u (h : Below V.heap.size V u) => (show u.cell? ⟨w.heap.size, 1, none⟩ = some (.int .i64 n) from (hbs u h).cell 1)
    have hb2 := fun u (h : Below V.heap.size V u) => (show u.cell? ⟨w.heap.size, 2, none⟩ = some (.int .i64 wd) from (hbs u h).cell 2)
    clear hbs
    go_region_held3 (fun w' => Below V.heap.size V w') (first | exact H0.out | exact below_drew H0.out | (exact below_step (by assumption) (by assumption)) | (exact gr_base (by assumption) (by assumption) HL.out) | assumption)
      (first | (go_at_call 32; refine (decInt_any _ (by omega) (by omega) _ (HTV.out _ (by assumption))).mono ?_; rintro r w5 ⟨rfl, hb5⟩))
    all_goals
      have HB5 : Hid (Below V.heap.size V _) := Lib.hid (by assumption)
      go_wp2
      go_ret2
      exact ⟨ret_si rfl HW.out, HKV.out.below HB5.out HKV.out.lt, gr_below (below_step HwV.out HB5.out) _⟩
  · obtain ⟨hn, w0, w1⟩ := hk.c2 rfl
    obtain ⟨f, rfl⟩ : ∃ f : Nat, wd = f := ⟨wd.toNat, (Int.toNat_of_nonneg w0).symm⟩
    rcases hn with rfl | ⟨hn, hn1⟩
    · have HR : Hid (primB p ps.l ⟨2, -1, f⟩ = hdrB p (-1) ++ ⟨#[46]⟩ ++ fldB p.metadata.l f) := Lib.hid rfl
      have HE : Hid (flagM p ps.l x.l e0 i (i + 1) = fl1 (rightB (fNames p.metadata.l) (fldB p.metadata.l f) f) e0) := Lib.hid (by rw [HF.out]; rfl)
      have HC := Lib.hid (wref_meta f W x p ps e0 ga V (by simpa [fldsL] using w1) E HBV.out hl HKV.out)
      rw [HR.out, HE.out]
      clear hq hk hA hye h ha E hl hb HF HR HE
      go_enter Tryz.func20, Tryz.ntmps20
      go_upto_region 2 with fail
      rw [← hV]
      clear hV k0 d0 d1 d2 hK
      go_wp2_with fail
      refine HC.out.mono ?_
      rintro r w1 ⟨rfl, hk1, hg1⟩
      have HK1 := Lib.hid hk1
      have HG1 := Lib.hid hg1
      clear hk1 hg1 HC
      go_wp2
      go_ret2
      exact ⟨ret_si rfl rfl, HK1.out, gr_trans (gr_below HwV.out _) HG1.out⟩
    · obtain ⟨k, rfl⟩ : ∃ k : Nat, n = k := ⟨n.toNat, (Int.toNat_of_nonneg hn).symm⟩
      have hk1 : k < p.headers.l.length := by simpa using hn1
      have hfl := (hdr_at' p hk1).2
      have HR : Hid (primB p ps.l ⟨2, k, f⟩ = hdrB p k ++ ⟨#[46]⟩ ++ fldB p.headers.l[k].fields.l f) := Lib.hid (by rw [← hfl]; rfl)
      have HE : Hid (flagM p ps.l x.l e0 i (i + 1) = fl1 (rightH p k && rightB (fNames p.headers.l[k].fields.l) (fldB p.headers.l[k].fields.l f) f) e0) := Lib.hid (by rw [HF.out, ← hfl]; rfl)
      have HC := Lib.hid (wref_fld k f W x p ps e0 ga V hk1 (by rw [← hfl]; simpa using w1) E HBV.out hl HKV.out)
      rw [HR.out, HE.out]
      clear hq hk hA hye h ha E hl hb HF HR HE hfl
      go_enter Tryz.func20, Tryz.ntmps20
      go_upto_region 2 with fail
      rw [← hV]
      clear hV k0 d0 d1 d2 hK
      go_wp2_with fail
      refine HC.out.mono ?_
      rintro r w1 ⟨rfl, hk1, hg1⟩
      have HK1 := Lib.hid hk1
      have HG1 := Lib.hid hg1
      clear hk1 hg1 HC
      go_wp2
      go_ret2
      exact ⟨ret_si rfl rfl, HK1.out, gr_trans (gr_below HwV.out _) HG1.out⟩
  · obtain ⟨n0, n1⟩ := hk.c3 rfl
    obtain ⟨k, rfl⟩ : ∃ k : Nat, n = k := ⟨n.toNat, (Int.toNat_of_nonneg n0).symm⟩
    have hk1 : k < ps.l.length := by simpa using n1
    have hki : (k : Int) < (ps.l.length : Int) := by omega
    obtain ⟨gp, op, hAp, hallp⟩ := FieldD.atA E.pars hk1
    have HD := Lib.hid (fun u (h : Below W.heap.size W u) => (hallp u h).1)
    have hns := E.nm.par _ (List.getElem_mem hk1)
    have HN := Lib.hid (fun ok e u (h : Blk u ga 69 (wrCells x p ps e)) => wname_any ps.l[k].name ok x p ps e ga u h hns)
    have HI := Lib.hid (fun u (h : Below W.heap.size W u) => efield_any ps ps.l[k].name u (E.pars.below h (Nat.le_refl _)))
    have HR : Hid (primB p ps.l ⟨3, k, wd⟩ = ⟨#[64]⟩ ++ ps.l[k].name) := Lib.hid (by rw [← fld_at' hk1]; rfl)
    have HE : Hid (flagM p ps.l x.l e0 i (i + 1) = fl1 ((Lib.idxOfS (fNames ps.l) ps.l[k].name == (k : Int)) && ident ps.l[k].name) e0) := Lib.hid (by
      rw [HF.out, show resM p ps.l ⟨3, k, wd⟩ = rightB (fNames ps.l) (fldB ps.l k) k from rfl, fld_at' hk1]
      unfold rightB; rw [Bool.and_comm]; congr 2; try exact (beq_eq_decide ..).symm)
    rw [HR.out, HE.out]
    have k10 : V.cell? ⟨ga, 10, none⟩ = some (.slice ps.A ps.l.length ps.c) := HKV.out.cell 10
    have H0 := Lib.hid HBV.out
    have HL := Lib.hid hl
    clear hq hk hA hye h ha E hl hb HF HR HE hallp
    simp only [hAp] at k10 HI
    generalize ps.l[k].name = nm at *
    generalize fNames ps.l = ns at *
    clear hAp
    have z0 : (⟨#[64]⟩ : ByteArray).size = 1 := rfl
    have z1 : ¬ (⟨#[64]⟩ : ByteArray).size + nm.size > 9223372036854775807 := by omega
    have z2 : ¬ 1 + nm.size > 9223372036854775807 := by omega
    go_enter Tryz.func20, Tryz.ntmps20
    go_upto_region 2 with fail
    rw [← hV]
    clear hV k0 d0 d1 d2 hK
    go_upto_region 9 with fail
    clear b0 b1 b2 k10
    have hne : w.heap.size ≠ ga := by have := HGa.out; omega
    have hbs := fun u (h : V.grownBy u (some ga)) => (gr_blk HV.out h hne)
    have hbx := fun u (h : V.grownBy u (some ga)) => (show u.cell? ⟨w.heap.size, 1, none⟩ = some (.int .i64 k) from (hbs u h).cell 1)
    have hds := fun u (h : V.grownBy u (some ga)) => HD.out u (gr_base H0.out h HL.out)
    have HIV := Lib.hid (fun u (h : V.grownBy u (some ga)) => HI.out u (gr_base H0.out h HL.out))
    have HV0 := Lib.hid (Below.refl V.heap.size V)
    clear hbs HD hne
    go_region_held3 (fun w' => V.grownBy w' (some ga)) (first | exact gr_refl _ _ | exact gr_below (below_drew HV0.out) _ | exact gr_trans (by assumption) (gr_below (by assumption) _) | exact gr_trans (by assumption) (by assumption) | assumption)
      (first
      | (go_at_call 35; refine (HIV.out _ (by assumption)).mono ?_; rintro r w5 ⟨rfl, hb5⟩)
      | (go_at_call 34; refine (HN.out _ e0 _ (HKV.out.below (below_step (below_drew HV0.out) hb5) HKV.out.lt)).mono ?_; rintro r w6 ⟨rfl, hk6, hg6⟩))
    all_goals
      go_wp2
      go_ret2
      exact ⟨ret_si rfl HW.out, hk6, gr_trans (gr_below HwV.out _) (by assumption)⟩
  · obtain ⟨n0, n1⟩ := hk.c4 rfl
    obtain ⟨k, rfl⟩ : ∃ k : Nat, n = k := ⟨n.toNat, (Int.toNat_of_nonneg n0).symm⟩
    have hk1 : k < p.headers.l.length := by simpa using n1
    have HR : Hid (primB p ps.l ⟨4, k, wd⟩ = ⟨#[118, 97, 108, 105, 100, 40]⟩ ++ hdrB p k ++ ⟨#[41]⟩) := Lib.hid rfl
    have HE : Hid (flagM p ps.l x.l e0 i (i + 1) = fl1 (rightH p k) e0) := Lib.hid (by rw [HF.out]; rfl)
    have hhs : (hdrB p k).size ≤ 1000 := by rw [(hdr_at' p hk1).1]; exact E.nm.hdr _ (List.getElem_mem hk1)
    have HC := Lib.hid (whead_any k W x p ps e0 ga V hk1 E HBV.out HKV.out)
    rw [HR.out, HE.out]
    clear hq hk hA hye h ha E hl hb HF HR HE
    generalize hdrB p k = hd at *
    have z0 : (⟨#[118, 97, 108, 105, 100, 40]⟩ : ByteArray).size = 6 := rfl
    have z1 : ¬ (⟨#[118, 97, 108, 105, 100, 40]⟩ : ByteArray).size + hd.size > 9223372036854775807 := by omega
    have z2 : ¬ 6 + hd.size > 9223372036854775807 := by omega
    have z3 : ¬ 6 + hd.size + 1 > 9223372036854775807 := by omega
    go_enter Tryz.func20, Tryz.ntmps20
    go_upto_region 2 with fail
    rw [← hV]
    clear hV k0 d0 d1 d2 hK
    go_wp2_with fail
    refine HC.out.mono ?_
    rintro r w1 ⟨rfl, hk1, hg1⟩
    have HK1 := Lib.hid hk1
    have HG1 := Lib.hid hg1
    clear hk1 hg1 HC
    go_wp2
    go_ret2
    exact ⟨ret_si rfl rfl, HK1.out, gr_trans (gr_below HwV.out _) HG1.out⟩
end Go.Proofs.YtpomjcndeanjgaaGreatDoor
namespace Go.Proofs.YtpomjcndeanjgaaGreatDoor
open Go.RowKit
set_option maxRecDepth 100000 in
set_option maxHeartbeats 8000000 in
theorem expr_un {W : World} {x : L NodeD} {p : ProgD} {ps : L FieldD} {ga i j : Nat} {y0 : NodeD} {a : ByteArray} (E : WEnv W x p ps) (hl : W.heap.size ≤ ga) (h : x.l[i]? = some y0) (ha : arityM y0.op = 1) (hk : NodeOk p ps.l y0)
    (hj : i + 1 ≤ j) (hs : a.size ≤ 1000000) (H1 : OpdC W x p ps ga (i + 1) j a) : ExprC W x p ps ga i j (unB y0 a) := by
  intro e0 w hb hK
  have hi : i < x.l.length := (List.getElem?_eq_some_iff.1 h).1
  obtain ⟨g, of, hA, hq⟩ := NodeD.atA E.nodes hi
  have hye : x.l[i] = y0 := by rw [List.getElem?_eq_getElem hi] at h; injection h
  rw [hye] at hq
  have hsk := flag_skip (p := p) (ps := ps.l) (e := e0) h (show arityM y0.op ≠ 0 by omega) hj
  obtain ⟨op, n, wd⟩ := y0
  simp only at hq ha hk
  obtain ⟨d0, d1, d2⟩ := hq w hb
  have k0 : w.cell? ⟨ga, 0, none⟩ = some (.slice (some ⟨g, of, none⟩) x.l.length x.c) := by rw [← hA]; exact hK.cell 0
  have hii : (i : Int) < (x.l.length : Int) := by omega
  obtain ⟨V, hV⟩ : ∃ V, V = w.alloc (.cells #[.int .i64 op, .int .i64 n, .int .i64 wd] 65) := ⟨_, rfl⟩
  have HV : Hid (Blk V w.heap.size 65 #[.int .i64 op, .int .i64 n, .int .i64 wd]) := Lib.hid (by rw [hV]; exact Blk.new _ _ _)
  have HwV : Hid (Below w.heap.size w V) := Lib.hid (by rw [hV]; exact below1 _ _)
  have HBV : Hid (Below W.heap.size W V) := Lib.hid (below_step hb HwV.out)
  have HKV : Hid (Blk V ga 69 (wrCells x p ps e0)) := Lib.hid (hK.below HwV.out hK.lt)
  have hne : w.heap.size ≠ ga := by have := hK.lt; omega
  have HVg : Hid (∀ u, V.grownBy u (some ga) → Blk u w.heap.size 65 #[.int .i64 op, .int .i64 n, .int .i64 wd]) := Lib.hid (fun u hg => gr_blk HV.out hg hne)
  have HL := Lib.hid hl
  have HT := Lib.hid (fun u (h : V.grownBy u (some ga)) => E.tab.base (gr_base HBV.out h HL.out))
  have b0 : V.cell? ⟨w.heap.size, 0, none⟩ = some (.int .i64 op) := HV.out.cell 0
  have hmi := E.nodes.1
  unfold maxLen at hmi
  have HC := Lib.hid (show Calls Tryz.prog 37 #[.pointer (some ⟨ga, 0, none⟩), .int .i64 ((i : Int) + 1)] V fun r w' =>
    r = .returned (.tuple #[.string a, .int .i64 j]) ∧ Blk w' ga 69 (wrCells x p ps (flagM p ps.l x.l e0 (i + 1) j)) ∧ V.grownBy w' (some ga) from H1 e0 V HBV.out HKV.out)
  generalize flagM p ps.l x.l e0 (i + 1) j = ef at *
  rw [← hsk]
  have q1 := dec_size n
  have q2 := dec_size wd
  have z01 : (⟨#[126]⟩ : ByteArray).size = 1 := rfl
  have z02 : (⟨#[32, 60, 60, 32]⟩ : ByteArray).size = 4 := rfl
  have z03 : (⟨#[32, 62, 62, 32]⟩ : ByteArray).size = 4 := rfl
  have z04 : (⟨#[91]⟩ : ByteArray).size = 1 := rfl
  have z05 : (⟨#[43]⟩ : ByteArray).size = 1 := rfl
  have z06 : (⟨#[93]⟩ : ByteArray).size = 1 := rfl
  have z1 : ¬ (⟨#[126]⟩ : ByteArray).size + a.size > 9223372036854775807 := by omega
  have z2 : ¬ 1 + a.size > 9223372036854775807 := by omega
  have z3 : ¬ a.size + 4 > 9223372036854775807 := by omega
  have z4 : ¬ a.size + 4 + (decB n).size > 9223372036854775807 := by omega
  have z5 : ¬ a.size + 1 > 9223372036854775807 := by omega
  have z6 : ¬ a.size + 1 + (decB n).size > 9223372036854775807 := by omega
  have z7 : ¬ a.size + 1 + (decB n).size + 1 > 9223372036854775807 := by omega
  have z8 : ¬ a.size + 1 + (decB n).size + 1 + (decB wd).size > 9223372036854775807 := by omega
  have z9 : ¬ a.size + 1 + (decB n).size + 1 + (decB wd).size + 1 > 9223372036854775807 := by omega
  rcases arity1 ha with rfl | rfl | rfl | rfl
  · have HR : Hid (unB ⟨5, n, wd⟩ a = ⟨#[126]⟩ ++ a) := Lib.hid rfl
    rw [HR.out]
    clear hq hk hA hye h ha E hl hb hsk HR H1
    go_enter Tryz.func20, Tryz.ntmps20
    go_upto_region 2 with fail
    rw [← hV]
    clear hV k0 d0 d1 d2 hK
    go_wp2_with fail
    refine HC.out.mono ?_
    rintro r w1 ⟨rfl, hk1, hg1⟩
    have HK1 := Lib.hid hk1
    have HG1 := Lib.hid hg1
    have hB1 := HVg.out w1 hg1
    have c0 : w1.cell? ⟨w.heap.size, 0, none⟩ = some (.int .i64 5) := hB1.cell 0
    have c1 : w1.cell? ⟨w.heap.size, 1, none⟩ = some (.int .i64 n) := hB1.cell 1
    have c2 : w1.cell? ⟨w.heap.size, 2, none⟩ = some (.int .i64 wd) := hB1.cell 2
    clear hk1 hg1 HC hB1 b0
    go_wp2
    go_ret2
    exact ⟨ret_si rfl rfl, HK1.out, gr_trans (gr_below HwV.out _) HG1.out⟩
  · have HR : Hid (unB ⟨6, n, wd⟩ a = a ++ ⟨#[32, 60, 60, 32]⟩ ++ decB n) := Lib.hid rfl
    rw [HR.out]
    obtain ⟨n0, n1⟩ : 0 ≤ n ∧ n ≤ 31 := hk.c6 (.inl rfl)
    clear hq hk hA hye h ha E hl hb hsk HR H1
    go_enter Tryz.func20, Tryz.ntmps20
    go_upto_region 2 with fail
    rw [← hV]
    clear hV k0 d0 d1 d2 hK
    go_wp2_with fail
    refine HC.out.mono ?_
    rintro r w1 ⟨rfl, hk1, hg1⟩
    have HK1 := Lib.hid hk1
    have HG1 := Lib.hid hg1
    have hB1 := HVg.out w1 hg1
    have c0 : w1.cell? ⟨w.heap.size, 0, none⟩ = some (.int .i64 6) := hB1.cell 0
    have c1 : w1.cell? ⟨w.heap.size, 1, none⟩ = some (.int .i64 n) := hB1.cell 1
    have c2 : w1.cell? ⟨w.heap.size, 2, none⟩ = some (.int .i64 wd) := hB1.cell 2
    clear hk1 hg1 HC hB1 b0
    go_wp2_with fail
    refine (decInt_any n n0 (by omega) w1 (HT.out w1 HG1.out)).mono ?_
    rintro r w2 ⟨rfl, hb2⟩
    have HB2 := Lib.hid hb2
    clear hb2 c0 c1 c2
    go_wp2
    go_ret2
    exact ⟨ret_si rfl rfl, HK1.out.below HB2.out HK1.out.lt, gr_trans (gr_below HwV.out _) (gr_trans HG1.out (gr_below HB2.out _))⟩
  · have HR : Hid (unB ⟨7, n, wd⟩ a = a ++ ⟨#[32, 62, 62, 32]⟩ ++ decB n) := Lib.hid rfl
    rw [HR.out]
    obtain ⟨n0, n1⟩ : 0 ≤ n ∧ n ≤ 31 := hk.c6 (.inr rfl)
    clear hq hk hA hye h ha E hl hb hsk HR H1
    go_enter Tryz.func20, Tryz.ntmps20
    go_upto_region 2 with fail
    rw [← hV]
    clear hV k0 d0 d1 d2 hK
    go_wp2_with fail
    refine HC.out.mono ?_
    rintro r w1 ⟨rfl, hk1, hg1⟩
    have HK1 := Lib.hid hk1
    have HG1 := Lib.hid hg1
    have hB1 := HVg.out w1 hg1
    have c0 : w1.cell? ⟨w.heap.size, 0, none⟩ = some (.int .i64 7) := hB1.cell 0
    have c1 : w1.cell? ⟨w.heap.size, 1, none⟩ = some (.int .i64 n) := hB1.cell 1
    have c2 : w1.cell? ⟨w.heap.size, 2, none⟩ = some (.int .i64 wd) := hB1.cell 2
    clear hk1 hg1 HC hB1 b0
    go_wp2_with fail
    refine (decInt_any n n0 (by omega) w1 (HT.out w1 HG1.out)).mono ?_
    rintro r w2 ⟨rfl, hb2⟩
    have HB2 := Lib.hid hb2
    clear hb2 c0 c1 c2
    go_wp2
    go_ret2
    exact ⟨ret_si rfl rfl, HK1.out.below HB2.out HK1.out.lt, gr_trans (gr_below HwV.out _) (gr_trans HG1.out (gr_below HB2.out _))⟩
  · have HR : Hid (unB ⟨8, n, wd⟩ a = a ++ ⟨#[91]⟩ ++ decB n ++ ⟨#[43]⟩ ++ decB wd ++ ⟨#[93]⟩) := Lib.hid rfl
    rw [HR.out]
    obtain ⟨⟨n0, n1⟩, w0, w1⟩ : (0 ≤ n ∧ n ≤ 32) ∧ 1 ≤ wd ∧ wd ≤ 32 := hk.c8 rfl
    clear hq hk hA hye h ha E hl hb hsk HR H1
    go_enter Tryz.func20, Tryz.ntmps20
    go_upto_region 2 with fail
    rw [← hV]
    clear hV k0 d0 d1 d2 hK
    go_wp2_with fail
    refine HC.out.mono ?_
    rintro r w1 ⟨rfl, hk1, hg1⟩
    have HK1 := Lib.hid hk1
    have HG1 := Lib.hid hg1
    have hB1 := HVg.out w1 hg1
    have c0 : w1.cell? ⟨w.heap.size, 0, none⟩ = some (.int .i64 8) := hB1.cell 0
    have c1 : w1.cell? ⟨w.heap.size, 1, none⟩ = some (.int .i64 n) := hB1.cell 1
    have c2 : w1.cell? ⟨w.heap.size, 2, none⟩ = some (.int .i64 wd) := hB1.cell 2
    clear hk1 hg1 HC hB1 b0
    go_upto_region 21 with fail
    clear c0 c1 c2
    have hbs := fun u (h : Below w1.heap.size w1 u) => ((HVg.out w1 HG1.out).below h (HVg.out w1 HG1.out).lt)
    have hb1 := fun u (h : Below w1.heap.size w1 u) => (show u.cell? ⟨w.heap.size, 1, none⟩ = some (.int .i64 n) from (hbs u h).cell 1)
    have hb2 := fun u (h : Below w1.heap.size w1 u) => (show u.cell? ⟨w.heap.size, 2, none⟩ = some (.int .i64 wd) from (hbs u h).cell 2)
    clear hbs
    have H0 := Lib.hid (Below.refl w1.heap.size w1)
    have HTV := Lib.hid (fun u (h : Below w1.heap.size w1 u) => HT.out u (gr_trans HG1.out (gr_below h _)))
    go_region_held3 (fun w' => Below w1.heap.size w1 w') (first | exact H0.out | exact below_drew H0.out | (exact below_step (by assumption) (by assumption)) | assumption)
      (first | (go_at_call 32; refine (decInt_any _ (by omega) (by omega) _ (HTV.out _ (by assumption))).mono ?_; rintro r w5 ⟨rfl, hb5⟩))
    all_goals
      have HB5 : Hid (Below w1.heap.size w1 _) := Lib.hid (by assumption)
      go_wp2
      go_ret2
      exact ⟨ret_si rfl rfl, HK1.out.below HB5.out HK1.out.lt, gr_trans (gr_below HwV.out _) (gr_trans HG1.out (gr_below HB5.out _))⟩
set_option maxRecDepth 100000 in
set_option maxHeartbeats 8000000 in
theorem expr_bi {W : World} {x : L NodeD} {p : ProgD} {ps : L FieldD} {ga i j1 j : Nat} {y0 : NodeD} {a b : ByteArray} (E : WEnv W x p ps) (hl : W.heap.size ≤ ga) (h : x.l[i]? = some y0) (ha : arityM y0.op = 2)
    (hj : i + 1 ≤ j1) (hj2 : j1 ≤ j) (hs : a.size ≤ 1000000) (hs2 : b.size ≤ 1000000) (H1 : OpdC W x p ps ga (i + 1) j1 a) (H2 : OpdC W x p ps ga j1 j b) : ExprC W x p ps ga i j (biB y0 a b) := by
  intro e0 w hb hK
  have hi : i < x.l.length := (List.getElem?_eq_some_iff.1 h).1
  obtain ⟨g, of, hA, hq⟩ := NodeD.atA E.nodes hi
  have hye : x.l[i] = y0 := by rw [List.getElem?_eq_getElem hi] at h; injection h
  rw [hye] at hq
  have hjn := flag_join (p := p) (ps := ps.l) (l := x.l) (e := e0) hj hj2
  have hsk := flag_skip (p := p) (ps := ps.l) (e := e0) h (show arityM y0.op ≠ 0 by omega) (show i + 1 ≤ j by omega)
  obtain ⟨op, n, wd⟩ := y0
  simp only at hq ha
  obtain ⟨d0, d1, d2⟩ := hq w hb
  have k0 : w.cell? ⟨ga, 0, none⟩ = some (.slice (some ⟨g, of, none⟩) x.l.length x.c) := by rw [← hA]; exact hK.cell 0
  have hii : (i : Int) < (x.l.length : Int) := by omega
  obtain ⟨V, hV⟩ : ∃ V, V = w.alloc (.cells #[.int .i64 op, .int .i64 n, .int .i64 wd] 65) := ⟨_, rfl⟩
  have HV : Hid (Blk V w.heap.size 65 #[.int .i64 op, .int .i64 n, .int .i64 wd]) := Lib.hid (by rw [hV]; exact Blk.new _ _ _)
  have HwV : Hid (Below w.heap.size w V) := Lib.hid (by rw [hV]; exact below1 _ _)
  have HBV : Hid (Below W.heap.size W V) := Lib.hid (below_step hb HwV.out)
  have HKV : Hid (Blk V ga 69 (wrCells x p ps e0)) := Lib.hid (hK.below HwV.out hK.lt)
  have hne : w.heap.size ≠ ga := by have := hK.lt; omega
  have HVg : Hid (∀ u, V.grownBy u (some ga) → Blk u w.heap.size 65 #[.int .i64 op, .int .i64 n, .int .i64 wd]) := Lib.hid (fun u hg => gr_blk HV.out hg hne)
  have HL := Lib.hid hl
  have HT := Lib.hid (fun u (h : V.grownBy u (some ga)) => E.tab.base (gr_base HBV.out h HL.out))
  have b0 : V.cell? ⟨w.heap.size, 0, none⟩ = some (.int .i64 op) := HV.out.cell 0
  have hmi := E.nodes.1
  unfold maxLen at hmi
  have HC := Lib.hid (show Calls Tryz.prog 37 #[.pointer (some ⟨ga, 0, none⟩), .int .i64 ((i : Int) + 1)] V fun r w' =>
    r = .returned (.tuple #[.string a, .int .i64 j1]) ∧ Blk w' ga 69 (wrCells x p ps (flagM p ps.l x.l e0 (i + 1) j1)) ∧ V.grownBy w' (some ga) from H1 e0 V HBV.out HKV.out)
  generalize flagM p ps.l x.l e0 (i + 1) j1 = ef at *
  rw [← hsk, ← hjn]
  have hop := arity2 ha
  have t1 : (op == 1) = false := beq_eq_false_iff_ne.2 (by omega)
  have t2 : (op == 2) = false := beq_eq_false_iff_ne.2 (by omega)
  have t3 : (op == 3) = false := beq_eq_false_iff_ne.2 (by omega)
  have t4 : (op == 4) = false := beq_eq_false_iff_ne.2 (by omega)
  have t5 : (op == 5) = false := beq_eq_false_iff_ne.2 (by omega)
  have t6 : (op == 6) = false := beq_eq_false_iff_ne.2 (by omega)
  have t7 : (op == 7) = false := beq_eq_false_iff_ne.2 (by omega)
  have t8 : (op == 8) = false := beq_eq_false_iff_ne.2 (by omega)
  have t17 : (op != 17) = true := bne_iff_ne.2 (by omega)
  have q1 := sym_size op
  have z0 : (⟨#[32]⟩ : ByteArray).size = 1 := rfl
  have HR : Hid (biB ⟨op, n, wd⟩ a b = a ++ ⟨#[32]⟩ ++ symB op ++ ⟨#[32]⟩ ++ b) := Lib.hid rfl
  rw [HR.out]
  have z1 : ¬ a.size + 1 > 9223372036854775807 := by omega
  have z2 : ¬ a.size + 1 + (symB op).size > 9223372036854775807 := by omega
  have z3 : ¬ a.size + 1 + (symB op).size + 1 > 9223372036854775807 := by omega
  have z4 : ¬ a.size + 1 + (symB op).size + 1 + b.size > 9223372036854775807 := by omega
  clear hq hA hye h ha E hl hb hsk hjn HR H1 hop
  go_enter Tryz.func20, Tryz.ntmps20
  go_upto_region 2 with fail
  rw [← hV]
  clear hV k0 d0 d1 d2 hK
  go_wp2_with fail
  refine HC.out.mono ?_
  rintro r w1 ⟨rfl, hk1, hg1⟩
  have HC1 := Lib.hid (H2 ef w1 (gr_base HBV.out hg1 HL.out) hk1)
  have HG1 := Lib.hid hg1
  have c0 : w1.cell? ⟨w.heap.size, 0, none⟩ = some (.int .i64 op) := (HVg.out w1 hg1).cell 0
  clear hk1 hg1 HC b0
  go_wp2_with fail
  refine HC1.out.mono ?_
  rintro r w2 ⟨rfl, hk2, hg2⟩
  have HG2 := Lib.hid (gr_trans HG1.out hg2)
  have e0' : w2.cell? ⟨w.heap.size, 0, none⟩ = some (.int .i64 op) := (HVg.out w2 HG2.out).cell 0
  have HK2 := Lib.hid hk2
  clear hk2 hg2 HC1 c0
  go_wp2_with fail
  refine (esymbol_any op w2).mono ?_
  rintro r w3 ⟨rfl, rfl⟩
  go_wp2
  go_ret2
  exact ⟨ret_si rfl rfl, HK2.out, gr_trans (gr_below HwV.out _) HG2.out⟩
set_option maxRecDepth 100000 in
set_option maxHeartbeats 8000000 in
theorem expr_tri {W : World} {x : L NodeD} {p : ProgD} {ps : L FieldD} {ga i j1 j2 j : Nat} {y0 : NodeD} {a b c : ByteArray} (E : WEnv W x p ps) (hl : W.heap.size ≤ ga) (h : x.l[i]? = some y0) (ha : arityM y0.op = 3)
    (hj : i + 1 ≤ j1) (hj2 : j1 ≤ j2) (hj3 : j2 ≤ j) (hs : a.size ≤ 1000000) (hs2 : b.size ≤ 1000000) (hs3 : c.size ≤ 1000000) (H1 : OpdC W x p ps ga (i + 1) j1 a) (H2 : OpdC W x p ps ga j1 j2 b) (H3 : OpdC W x p ps ga j2 j c) :
    ExprC W x p ps ga i j (triB a b c) := by
  intro e0 w hb hK
  have hi : i < x.l.length := (List.getElem?_eq_some_iff.1 h).1
  obtain ⟨g, of, hA, hq⟩ := NodeD.atA E.nodes hi
  have hye : x.l[i] = y0 := by rw [List.getElem?_eq_getElem hi] at h; injection h
  rw [hye] at hq
  have hjn := flag_join (p := p) (ps := ps.l) (l := x.l) (e := e0) hj hj2
  have hjn2 := flag_join (p := p) (ps := ps.l) (l := x.l) (e := e0) (show i + 1 ≤ j2 by omega) hj3
  have hsk := flag_skip (p := p) (ps := ps.l) (e := e0) h (show arityM y0.op ≠ 0 by omega) (show i + 1 ≤ j by omega)
  obtain ⟨op, n, wd⟩ := y0
  simp only at hq ha
  obtain ⟨d0, d1, d2⟩ := hq w hb
  have k0 : w.cell? ⟨ga, 0, none⟩ = some (.slice (some ⟨g, of, none⟩) x.l.length x.c) := by rw [← hA]; exact hK.cell 0
  have hii : (i : Int) < (x.l.length : Int) := by omega
  obtain ⟨V, hV⟩ : ∃ V, V = w.alloc (.cells #[.int .i64 op, .int .i64 n, .int .i64 wd] 65) := ⟨_, rfl⟩
  have HV : Hid (Blk V w.heap.size 65 #[.int .i64 op, .int .i64 n, .int .i64 wd]) := Lib.hid (by rw [hV]; exact Blk.new _ _ _)
  have HwV : Hid (Below w.heap.size w V) := Lib.hid (by rw [hV]; exact below1 _ _)
  have HBV : Hid (Below W.heap.size W V) := Lib.hid (below_step hb HwV.out)
  have HKV : Hid (Blk V ga 69 (wrCells x p ps e0)) := Lib.hid (hK.below HwV.out hK.lt)
  have hne : w.heap.size ≠ ga := by have := hK.lt; omega
  have HVg : Hid (∀ u, V.grownBy u (some ga) → Blk u w.heap.size 65 #[.int .i64 op, .int .i64 n, .int .i64 wd]) := Lib.hid (fun u hg => gr_blk HV.out hg hne)
  have HL := Lib.hid hl
  have HT := Lib.hid (fun u (h : V.grownBy u (some ga)) => E.tab.base (gr_base HBV.out h HL.out))
  have b0 : V.cell? ⟨w.heap.size, 0, none⟩ = some (.int .i64 op) := HV.out.cell 0
  have hmi := E.nodes.1
  unfold maxLen at hmi
  have HC := Lib.hid (show Calls Tryz.prog 37 #[.pointer (some ⟨ga, 0, none⟩), .int .i64 ((i : Int) + 1)] V fun r w' =>
    r = .returned (.tuple #[.string a, .int .i64 j1]) ∧ Blk w' ga 69 (wrCells x p ps (flagM p ps.l x.l e0 (i + 1) j1)) ∧ V.grownBy w' (some ga) from H1 e0 V HBV.out HKV.out)
  rw [← hsk, ← hjn2, ← hjn]
  generalize flagM p ps.l x.l e0 (i + 1) j1 = ef at *
  obtain rfl := arity3 ha
  have HR : Hid (triB a b c = a ++ ⟨#[32, 63, 32]⟩ ++ b ++ ⟨#[32, 58, 32]⟩ ++ c) := Lib.hid rfl
  rw [HR.out]
  have z0 : (⟨#[32, 63, 32]⟩ : ByteArray).size = 3 := rfl
  have z00 : (⟨#[32, 58, 32]⟩ : ByteArray).size = 3 := rfl
  have z1 : ¬ a.size + 3 > 9223372036854775807 := by omega
  have z2 : ¬ a.size + 3 + b.size > 9223372036854775807 := by omega
  have z3 : ¬ a.size + 3 + b.size + 3 > 9223372036854775807 := by omega
  have z4 : ¬ a.size + 3 + b.size + 3 + c.size > 9223372036854775807 := by omega
  clear hq hA hye h ha E hl hb hsk hjn hjn2 HR H1
  go_enter Tryz.func20, Tryz.ntmps20
  go_upto_region 2 with fail
  rw [← hV]
  clear hV k0 d0 d1 d2 hK
  go_wp2_with fail
  refine HC.out.mono ?_
  rintro r w1 ⟨rfl, hk1, hg1⟩
  have HC1 := Lib.hid (H2 _ w1 (gr_base HBV.out hg1 HL.out) hk1)
  have HG1 := Lib.hid hg1
  have c0 : w1.cell? ⟨w.heap.size, 0, none⟩ = some (.int .i64 17) := (HVg.out w1 hg1).cell 0
  clear hk1 hg1 HC b0
  go_wp2_with fail
  refine HC1.out.mono ?_
  rintro r w2 ⟨rfl, hk2, hg2⟩
  have HG2 := Lib.hid (gr_trans HG1.out hg2)
  have e0' : w2.cell? ⟨w.heap.size, 0, none⟩ = some (.int .i64 17) := (HVg.out w2 HG2.out).cell 0
  have HC2 := Lib.hid (H3 _ w2 (gr_base HBV.out HG2.out HL.out) hk2)
  clear hk2 hg2 HC1 c0
  go_wp2_with fail
  refine HC2.out.mono ?_
  rintro r w3 ⟨rfl, hk3, hg3⟩
  have HK3 := Lib.hid hk3
  have HG3 := Lib.hid (gr_trans HG2.out hg3)
  clear hk3 hg3 HC2 e0'
  go_wp2
  go_ret2
  exact ⟨ret_si rfl rfl, HK3.out, gr_trans (gr_below HwV.out _) HG3.out⟩
theorem tx_expr {W : World} {x : L NodeD} {p : ProgD} {ps : L FieldD} {ga : Nat} (E : WEnv W x p ps) (hl : W.heap.size ≤ ga) (hlen : x.l.length ≤ 24) {i j : Nat} {s : ByteArray} (h : Tx p ps.l x.l i j s) : ExprC W x p ps ga i j s := by
  have hb : ∀ {i j : Nat} {s : ByteArray}, Tx p ps.l x.l i j s → s.size ≤ 72000 := fun h => by have := h.lt; have := h.size E.nm; omega
  induction h with
  | leaf h ha hk => exact expr_leaf E hl h ha hk
  | @un i j x0 y s h ha hk hy t1 ih => exact expr_un E hl h ha hk (by have := t1.lt; omega) (by have := hb t1; have := opd_size y s; omega) (opd_of_expr E hl hy (by have := hb t1; omega) ih)
  | @bi i m j x0 y z s t h ha hk hy t1 hz t2 ih1 ih2 =>
    exact expr_bi E hl h ha (by have := t1.lt; omega) (by have := t2.lt; omega) (by have := hb t1; have := opd_size y s; omega) (by have := hb t2; have := opd_size z t; omega)
      (opd_of_expr E hl hy (by have := hb t1; omega) ih1) (opd_of_expr E hl hz (by have := hb t2; omega) ih2)
  | @tri i m n j x0 y z u s t r h ha hk hy t1 hz t2 hu t3 ih1 ih2 ih3 =>
    exact expr_tri E hl h ha (by have := t1.lt; omega) (by have := t2.lt; omega) (by have := t3.lt; omega) (by have := hb t1; have := opd_size y s; omega) (by have := hb t2; have := opd_size z t; omega)
      (by have := hb t3; have := opd_size u r; omega) (opd_of_expr E hl hy (by have := hb t1; omega) ih1) (opd_of_expr E hl hz (by have := hb t2; omega) ih2) (opd_of_expr E hl hu (by have := hb t3; omega) ih3)
end Go.Proofs.YtpomjcndeanjgaaGreatDoor
namespace Go.Proofs.YtpomjcndeanjgaaGreatDoor
open Go.RowKit
theorem ret_se {s t : ByteArray} {a b : Int} (h : (s, a) = (t, b)) : Ending.returned (.tuple #[.string t, .int .i64 b]) = .returned (.tuple #[.string s, .int .i64 a]) := by
  injection h with h1 h2; rw [h1, h2]
set_option maxRecDepth 100000 in
set_option maxHeartbeats 4000000 in
theorem eformat_any (p : ProgD) (ps : L FieldD) (x : L NodeD) (w : World) (o : ProgOk w p) (hps : LOk w 2 FieldD.cells ps) (hx : LOk w 3 NodeD.cells x) (ht : Tab w) (nm : Names p ps.l) :
    Calls Tryz.prog 7 #[.slice x.A x.l.length x.c, .agg (scopeCells p ps)] w fun e w' => e = .returned (.tuple #[.string (fmtM p ps.l x.l).1, .int .i64 (fmtM p ps.l x.l).2]) ∧ Below w.heap.size w w' := by
  have HO := Lib.hid o
  have HP := Lib.hid hps
  have HX := Lib.hid hx
  have HT := Lib.hid ht
  have HN := Lib.hid nm
  clear o hps hx ht nm
  obtain ⟨W, hW, hw, HB, hp⟩ := box1 w (scopeCells p ps) 41
  have HW := Lib.hid hw
  clear hw
  have HR : Hid (fmtM p ps.l x.l = _) := Lib.hid (by rw [fmtM])
  generalize fmtM p ps.l x.l = R at *
  go_enter Tryz.func7, Tryz.ntmps7
  go_upto_region 1 with fail
  rw [← hW]
  clear hW
  go_wp2_with fail
  refine (exprCheck_any p ps x _ (HO.out.below (below_step HW.out (by first | exact HB | exact below_alloc HB _ | exact below_alloc (below_alloc HB _) _ | exact below_alloc (below_alloc (below_alloc HB _) _) _))) (HP.out.below (below_step HW.out (by first | exact HB | exact below_alloc HB _ | exact below_alloc (below_alloc HB _) _ | exact below_alloc (below_alloc (below_alloc HB _) _) _)) (Nat.le_refl _)) (HX.out.below (below_step HW.out (by first | exact HB | exact below_alloc HB _ | exact below_alloc (below_alloc HB _) _ | exact below_alloc (below_alloc (below_alloc HB _) _) _)) (Nat.le_refl _))).mono ?_
  rintro e w1 ⟨rfl, hbN⟩
  replace HB := below_step (by first | exact HB | exact below_alloc HB _ | exact below_alloc (below_alloc HB _) _ | exact below_alloc (below_alloc (below_alloc HB _) _) _) hbN
  clear hbN
  generalize hr : exprM p ps.l x.l = r at *
  obtain ⟨a, c⟩ := r
  simp only at HR
  by_cases k5 : c = 0
  case neg =>
    have k5' : (c != 0) = true := bne_iff_ne.2 k5
    replace HR : Hid (R = (⟨#[]⟩, c)) := Lib.hid (by rw [HR.out]; simp [k5])
    go_wp2
    go_ret2
    exact ⟨ret_se HR.out, below_step HW.out HB⟩
  subst k5
  obtain ⟨htx, hlen⟩ := expr_tx (by rw [hr])
  generalize (txtM p ps.l x.l (x.l.length + 1) 0).1 = s at *
  clear hr
  obtain ⟨V, hV⟩ : ∃ V, V = w1.alloc (.cells (wrCells x p ps 0) 69) := ⟨_, rfl⟩
  have HV : Hid (Blk V w1.heap.size 69 (wrCells x p ps 0)) := Lib.hid (by rw [hV]; exact Blk.new _ _ _)
  have HwV : Hid (Below w1.heap.size w1 V) := Lib.hid (by rw [hV]; exact below1 _ _)
  have h1 := below_step HW.out HB
  have E : WEnv w1 x p ps := ⟨HT.out.base h1, HX.out.below h1 (Nat.le_refl _), HO.out.below h1, HP.out.below h1 (Nat.le_refl _), HN.out⟩
  have HC := Lib.hid (show Calls Tryz.prog 20 #[.pointer (some ⟨w1.heap.size, 0, none⟩), .int .i64 0] V fun r w' =>
    r = .returned (.tuple #[.string s, .int .i64 x.l.length]) ∧ Blk w' w1.heap.size 69 (wrCells x p ps (flagM p ps.l x.l 0 0 x.l.length)) ∧ V.grownBy w' (some w1.heap.size) from tx_expr E (Nat.le_refl _) hlen htx 0 V HwV.out HV.out)
  have HBB := Lib.hid h1
  have hp2 := hp w1 HB
  clear hp h1 E htx
  go_upto_region 5 with fail
  rw [← hV]
  clear hV hp2
  go_wp2_with fail
  refine HC.out.mono ?_
  rintro r w2 ⟨rfl, hk2, hg2⟩
  have HB2 := Lib.hid (below_step HBB.out (gr_base HwV.out hg2 (Nat.le_refl _)))
  have c11 : w2.cell? ⟨w1.heap.size, 11, none⟩ = some (.int .i64 (flagM p ps.l x.l 0 0 x.l.length)) := hk2.cell 11
  have HK2 := Lib.hid hk2
  clear hk2 hg2 HC
  have hfl : flagM p ps.l x.l 0 0 x.l.length = if badB p ps.l x.l 0 x.l.length = true then 6 else 0 := rfl
  rw [hfl] at c11
  clear hfl
  by_cases hbad : badB p ps.l x.l 0 x.l.length = true
  · rw [if_pos hbad] at c11
    replace HK2 : Hid (Blk w2 w1.heap.size 69 (wrCells x p ps 6)) := Lib.hid (by have := HK2.out; rw [flagM, if_pos hbad] at this; exact this)
    replace HR : Hid (R = (⟨#[]⟩, 6)) := Lib.hid (by rw [HR.out]; simp [hbad])
    clear hbad
    go_wp2
    have H0 := Lib.hid (Below.refl w2.heap.size w2)
    clear c11
    have hb6 := fun u (h : Below w2.heap.size w2 u) => (show u.cell? ⟨w1.heap.size, 11, none⟩ = some (.int .i64 6) from (HK2.out.below h HK2.out.lt).cell 11)
    go_region_held3 (fun w' => Below w2.heap.size w2 w') (first | exact H0.out | exact below_drew H0.out | (exact below_step (by assumption) (by assumption)) | assumption) (fail)
    all_goals
      have HB5 : Hid (Below w2.heap.size w2 _) := Lib.hid (by assumption)
      go_wp2
      go_ret2
      exact ⟨ret_se HR.out, below_step HB2.out HB5.out⟩
  · rw [if_neg hbad] at c11
    replace HR : Hid (R = (s, 0)) := Lib.hid (by rw [HR.out]; simp [hbad])
    clear hbad
    go_wp2
    go_ret2
    exact ⟨ret_se HR.out, HB2.out⟩
end Go.Proofs.YtpomjcndeanjgaaGreatDoor
namespace Go.Proofs.YtpomjcndeanjgaaGreatDoor
open Go.RowKit
theorem Tryz.infoTok : (Tryz.prog.info? 81).map (fun i => (i.zero, i.size, i.bytes)) = some (some (.agg #[.int .i64 0, .string ⟨#[]⟩, .int .u32 0, .int .i64 0]), 4, 40) := by kernel_rfl
set_option maxRecDepth 100000 in
set_option maxHeartbeats 400000 in
theorem nl_any (c : Int) (w : World) :
    Calls Tryz.prog 27 #[.int .u8 c] w fun e w' => e = .returned (.bool (notNl c)) ∧ w = w' := by
  go_enter Tryz.func27, Tryz.ntmps27
  go_wp2
  go_ret
  exact ⟨rfl, rfl⟩
theorem ext_nl (s : ByteArray) (w : World) (hs : s.size ≤ maxLen) :
    Calls Tryz.prog 26 #[.string s, .func (.func 27) #[] #[]] w fun e w' => e = .returned (.int .i64 (ext notNl s.data.toList)) ∧ w = w' :=
  extent_any _ notNl s w hs (fun _ _ => by kernel_rfl) (Lib.hid nl_any)
def TokRel (s : ByteArray) (w : World) (sv lv av : Value) (wr : World) : Prop :=
  ∃ (t : ByteArray) (at_ : Nat) (out : List Tk) (A : Option Addr) (c : Nat), sv = .string t ∧ t.size ≤ s.size ∧ av = .int .i64 at_ ∧ at_ + t.size ≤ s.size + 1 ∧ out.length + t.size ≤ s.size ∧
    lv = .slice A out.length c ∧ out.length ≤ c ∧ wr.ownsRow w.heap.size 81 4 (.slice A out.length c) out.length (tkCells out) ∧ Below w.heap.size w wr ∧
    tokM s.data.toList.length s.data.toList 1 [] = tokM s.data.toList.length t.data.toList at_ out
def TokEnd (s : ByteArray) (w : World) (e : Ending) (w' : World) : Prop :=
  ∃ (A : Option Addr) (c : Nat), e = .returned (.tuple #[.slice A (tokenize s.data.toList).1.length c, .int .i64 (tokenize s.data.toList).2.1, .int .i64 (tokenize s.data.toList).2.2]) ∧ (tokenize s.data.toList).1.length ≤ c ∧
    w'.ownsRow w.heap.size 81 4 (.slice A (tokenize s.data.toList).1.length c) (tokenize s.data.toList).1.length (tkCells (tokenize s.data.toList).1) ∧ Below w.heap.size w w'
def strSize : Value → Nat
  | .string t => t.size
  | _ => 0
theorem size_rest (t : ByteArray) (k : Nat) : (t.extract k t.size).size = t.size - k := by simp
theorem tok_step {s t : ByteArray} {at_ : Nat} {out : List Tk} (h : tokM s.data.toList.length s.data.toList 1 [] = tokM s.data.toList.length t.data.toList at_ out) (ht : t.size ≤ s.size) (h0 : 0 < t.size)
    {k : Nat} (hk : 0 < k) {b : Nat} {out' : List Tk} (hs : ∀ n, tokM (n + 1) t.data.toList at_ out = tokM n (t.data.toList.drop k) b out') :
    tokM s.data.toList.length s.data.toList 1 [] = tokM s.data.toList.length (t.extract k t.size).data.toList b out' := by
  rw [h, Lib.extract_to_end]
  obtain ⟨n, hn⟩ : ∃ n, s.data.toList.length = n + 1 := ⟨s.data.toList.length - 1, by have : s.data.toList.length = s.size := rfl; omega⟩
  rw [hn, hs n]
  have e : (t.data.toList.drop k).length = t.size - k := by rw [List.length_drop]; rfl
  have e2 : s.data.toList.length = s.size := rfl
  exact tokM_fuel _ _ _ _ _ (by omega) (by omega)
set_option maxRecDepth 100000 in
set_option maxHeartbeats 2000000 in
theorem tokenize_any (s : ByteArray) (w : World) (hs0 : s.size ≤ maxLen) :
    Calls Tryz.prog 14 #[.string s] w fun e w' => TokEnd s w e w' := by
  unfold maxLen at hs0
  by_cases hlong : 16384 < s.size
  · go_enter Tryz.func14, Tryz.ntmps14
    go_wp2
    go_step3
    go_wp2
    rw [Exit.noGoto_ret]
    go_ret3
    have e : tokenize s.data.toList = ([], 0, 4) := by rw [tokenize, if_pos (show 16384 < s.data.toList.length from hlong)]
    refine ⟨none, 0, ?_⟩
    rw [e]
    exact ⟨rfl, Nat.le_refl _, World.ownsRow_nil _ _ _ _, Below.refl _ _⟩
  · obtain ⟨i0, hi, hz0, hz1, hz2⟩ := info_parts Tryz.infoTok
    have hs : s.size ≤ 16384 := by omega
    have HT : Hid (tokenize s.data.toList = tokM s.data.toList.length s.data.toList 1 []) := by
      refine Lib.hid ?_
      rw [tokenize, if_neg (show ¬ 16384 < s.data.toList.length from hlong)]
    clear hs0
    go_enter Tryz.func14, Tryz.ntmps14
    go_wp2
    go_step3
    go_wp2
    go_step3
    go_wp2
    go_loopw [0, 2, 5] (fun sv lv av wr => TokRel s w sv lv av wr) (fun sv _ _ _ => strSize sv)
    case atStart => exact ⟨s, 1, [], none, 0, rfl, Nat.le_refl _, rfl, by omega, by simp, rfl, Nat.le_refl _, World.ownsRow_nil _ _ _ _, Below.refl _ _, rfl⟩
    case round =>
      obtain ⟨t, at_, out, A, c, rfl, htl, rfl, hat, hout, rfl, hc, hown, hbel, hrun⟩ := hrel
      have HR := Lib.hid hrun
      clear hrun
      by_cases h0 : 0 < t.size
      · have HL := Lib.hid (list_one t h0)
        have hin : ∀ k : UInt8, t[0] ≠ k → ((t[0].toNat : Int) == (k.toNat : Int)) = false := fun k h => byte_ne h
        have HIN := Lib.hid hin
        clear hin
        by_cases h1 : t[0] = 10
        · have h1' : ((t[0].toNat : Int) == 10) = true := by rw [h1]; rfl
          have H1 := Lib.hid h1
          clear h1
          go_wp2
          go_roundw
          case rel =>
            refine ⟨t.extract 1 t.size, at_ + 1, out, A, c, rfl, by rw [size_rest]; omega, by go_num, by rw [size_rest]; omega, by rw [size_rest]; omega, rfl, hc, hown, hbel, ?_⟩
            refine tok_step HR.out htl h0 (k := 1) (by omega) fun n => ?_
            rw [HL.out, tokM]
            simp only [H1.out, if_true, List.drop_succ_cons, List.drop_zero]
          case measure => show (t.extract 1 t.size).size < t.size; rw [size_rest]; omega
        · have h1' : ((t[0].toNat : Int) == 10) = false := HIN.out 10 h1
          have H1 := Lib.hid h1
          clear h1
          by_cases h2 : t[0] = 32 ∨ t[0] = 9
          · have H2 := Lib.hid h2
            have h2' : ((t[0].toNat : Int) == 32) = true ∨ (((t[0].toNat : Int) == 32) = false ∧ ((t[0].toNat : Int) == 9) = true) := by
              rcases h2 with h | h
              · left; rw [h]; rfl
              · right; rw [h]; exact ⟨rfl, rfl⟩
            clear h2
            rcases h2' with h2' | ⟨h2', h3'⟩
            all_goals
              go_wp2
              go_roundw
              case rel =>
                refine ⟨t.extract 1 t.size, at_, out, A, c, rfl, by rw [size_rest]; omega, rfl, by rw [size_rest]; omega, by rw [size_rest]; omega, rfl, hc, hown, hbel, ?_⟩
                refine tok_step HR.out htl h0 (k := 1) (by omega) fun n => ?_
                rw [HL.out, tokM]
                simp only [H1.out, H2.out, if_true, if_false, List.drop_succ_cons, List.drop_zero]
              case measure => show (t.extract 1 t.size).size < t.size; rw [size_rest]; omega
          · have h2' : ((t[0].toNat : Int) == 32) = false := HIN.out 32 (fun h => h2 (.inl h))
            have h3' : ((t[0].toNat : Int) == 9) = false := HIN.out 9 (fun h => h2 (.inr h))
            have H2 := Lib.hid h2
            clear h2
            by_cases h4 : t[0] = 35
            · have h4' : ((t[0].toNat : Int) == 35) = true := by rw [h4]; rfl
              have H4 := Lib.hid h4
              clear h4
              have hle : ext notNl t.data.toList ≤ t.size := ext_le _ _
              have hpos : 0 < ext notNl t.data.toList := by rw [HL.out, ext, if_pos (by rw [H4.out]; decide)]; omega
              go_wp2_with fail
              refine (ext_nl _ _ (by unfold maxLen; omega)).mono ?_
              rintro e w' ⟨rfl, rfl⟩
              go_wp2
              go_roundw
              case rel =>
                refine ⟨t.extract (ext notNl t.data.toList) t.size, at_, out, A, c, rfl, by rw [size_rest]; omega, rfl, by rw [size_rest]; omega, by rw [size_rest]; omega, rfl, hc, hown, hbel, ?_⟩
                refine tok_step HR.out htl h0 hpos fun n => ?_
                rw [HL.out, tokM, if_neg H1.out, if_neg H2.out, if_pos H4.out]
              case measure => show (t.extract _ t.size).size < t.size; rw [size_rest]; omega
            · have h4' : ((t[0].toNat : Int) == 35) = false := HIN.out 35 h4
              have H4 := Lib.hid h4
              clear h4
              by_cases h5 : 4096 ≤ out.length
              · go_wp2
                rw [Exit.noGoto_ret]
                go_ret3
                have e : tokenize s.data.toList = ([], at_, 12) := by
                  obtain ⟨n, hn⟩ : ∃ n, s.data.toList.length = n + 1 := ⟨s.data.toList.length - 1, by have : s.data.toList.length = s.size := rfl; omega⟩
                  rw [HT.out, HR.out, hn, HL.out, tokM, if_neg H1.out, if_neg H2.out, if_neg H4.out, if_pos h5]
                refine ⟨none, 0, ?_⟩
                rw [e]
                exact ⟨rfl, Nat.le_refl _, World.ownsRow_nil _ _ _ _, hbel⟩
              · go_wp2_with fail
                refine (next_any t _ (by omega) h0).mono ?_
                rintro e w1 ⟨rfl, hb⟩
                rcases hn : nextM t.data.toList with ⟨tk, f⟩
                rw [show nextEnd t.data.toList = .returned (.tuple #[.agg #[.int .i64 tk.kind, .string ⟨tk.text.toArray⟩, .int .u32 tk.value, .int .i64 tk.line], .int .i64 f]) from by rw [nextEnd, hn]; rfl]
                have HN := Lib.hid hn
                clear hn
                have hown1 := own_below hown hb
                have hbel1 := hbel.trans (hb.mono hbel.size)
                clear hown hbel hb
                by_cases h6 : f = 0
                · have H6 := Lib.hid h6
                  have h6' : ((f : Int) != 0) = false := by rw [h6]; rfl
                  have hpl := nextM_len t.data.toList (by rw [HN.out]; exact H6.out)
                  rw [HN.out] at hpl
                  simp only at hpl
                  obtain ⟨hpl0, hpl1⟩ := hpl
                  replace hpl1 : tk.text.length ≤ t.size := hpl1
                  clear h6
                  go_wp2_with (first
                    | (at_builtin; refine wpList_append_own _ rfl _ _ 50 rfl w.heap.size 81 i0 _ 4 40 Tryz.underlying50 hi hz0 hz1 hz2 rfl (by decide) _ _ _ rfl ((hown1.alloc _).alloc _) ⟨w1.heap.size + 1, 0, none⟩ 1 1 [.int .i64 tk.kind, .string ⟨tk.text.toArray⟩, .int .u32 tk.value, .int .i64 at_] rfl rfl ?c1 ?c2 ?c3 ?c4 ?c5 ?_))
                  case c1 =>
                    intro j u hj
                    match j, hj with
                    | 0, hj => simp at hj; subst hj; simp [Addr.add]
                    | 1, hj => simp at hj; subst hj; simp [Addr.add]
                    | 2, hj => simp at hj; subst hj; simp [Addr.add]
                    | 3, hj => simp at hj; subst hj; simp [Addr.add]
                  case c2 => intro u hu; simp at hu; rcases hu with rfl | rfl | rfl | rfl <;> rfl
                  case c3 => unfold maxLen; omega
                  case c4 => omega
                  case c5 => have := hbel1.size; simp; omega
                  intro v' w2 hown2 hgrow _
                  have hbel2 : Below w.heap.size w w2 := by
                    refine (below_alloc (below_alloc hbel1 _) _).grown hgrow (by have := hbel1.size; simp; omega) fun k hk => ?_
                    exact (hown1.lt k hk).1
                  have HB := Lib.hid hbel2
                  have HO := Lib.hid hown2
                  obtain ⟨A', c', hv, hc'⟩ := own_slice hown2
                  have HC := Lib.hid hc'
                  have HV := Lib.hid hv
                  clear hbel2 hown2 hgrow hc' hbel1 hown1 hv
                  go_wp2
                  go_roundw
                  case rel =>
                    have hl : (out ++ [({ tk with line := at_ } : Tk)]).length = out.length + 1 := by simp
                    refine ⟨t.extract tk.text.length t.size, at_, out ++ [{ tk with line := at_ }], A', c', rfl, by rw [size_rest]; omega, rfl, by rw [size_rest]; omega, by rw [size_rest, hl]; omega, by rw [hl]; exact HV.out, by rw [hl]; exact HC.out, ?_, HB.out, ?_⟩
                    · rw [hl, tkCells_snoc, ← HV.out]
                      exact HO.out
                    · refine tok_step HR.out htl h0 hpl0 fun n => ?_
                      rw [HL.out, tokM, if_neg H1.out, if_neg H2.out, if_neg H4.out, if_neg h5, ← HL.out, HN.out, if_pos H6.out]
                  case measure => show (t.extract _ t.size).size < t.size; rw [size_rest]; omega
                · have h6' : ((f : Int) != 0) = true := by rw [bne_iff_ne]; omega
                  go_wp2
                  rw [Exit.noGoto_ret]
                  go_ret3
                  have e : tokenize s.data.toList = ([], at_, f) := by
                    obtain ⟨n, hn⟩ : ∃ n, s.data.toList.length = n + 1 := ⟨s.data.toList.length - 1, by have : s.data.toList.length = s.size := rfl; omega⟩
                    rw [HT.out, HR.out, hn, HL.out, tokM, if_neg H1.out, if_neg H2.out, if_neg H4.out, if_neg h5, ← HL.out, HN.out, if_neg h6]
                  refine ⟨none, 0, ?_⟩
                  rw [e]
                  exact ⟨rfl, Nat.le_refl _, World.ownsRow_nil _ _ _ _, hbel1.alloc hbel1.size _⟩
      · have hz : t.data.toList = [] := List.eq_nil_of_length_eq_zero (show t.size = 0 by omega)
        have HZ := Lib.hid hz
        clear hz
        go_wp2
        try rw [Exit.noGoto_ret]
        go_ret3
        have e : tokenize s.data.toList = (out, 0, 0) := by
          rw [HT.out, HR.out, HZ.out]
          cases s.data.toList.length <;> rfl
        refine ⟨A, c, ?_⟩
        rw [e]
        exact ⟨rfl, hc, hown, hbel⟩
end Go.Proofs.YtpomjcndeanjgaaGreatDoor
namespace Go.Proofs.YtpomjcndeanjgaaGreatDoor
open Go.RowKit
def PtOk (w : World) (l : List NodeD) (i e : Int) (r : Ending) (w' : World) : Prop := ∃ A c, r = .returned (.tuple #[.slice A l.length c, .int .i64 i, .int .i64 e]) ∧ LOk w' 3 NodeD.cells ⟨l, A, c⟩ ∧ Below w.heap.size w w'
theorem PtOk.nil {w w' : World} {i e : Int} (hb : Below w.heap.size w w') : PtOk w [] i e (.returned (.tuple #[.slice none 0 0, .int .i64 i, .int .i64 e])) w' := ⟨none, 0, rfl, ⟨Nat.zero_le _, .inl rfl⟩, hb⟩
theorem ret_pt {i e : Int} {R : List NodeD × Int × Int} {l : List NodeD} (h : R = (l, i, e)) {w : World} {r : Ending} {w' : World} (hp : PtOk w l i e r w') : PtOk w R.1 R.2.1 R.2.2 r w' := by rw [h]; exact hp
set_option maxRecDepth 100000 in
set_option maxHeartbeats 8000000 in
theorem eparseTok_any (p : ProgD) (ps : L FieldD) (x : L Tk) (i : Int) (w : World) (E : REnv w x p ps) :
    Calls Tryz.prog 15 #[.slice x.A x.l.length x.c, .int .i64 i, .agg (scopeCells p ps)] w (PtOk w (parseTokM p ps.l x.l i).1 (parseTokM p ps.l x.l i).2.1 (parseTokM p ps.l x.l i).2.2) := by
  have HE := Lib.hid E
  have hm := E.few
  obtain ⟨W, hW, hw, HB, hp⟩ := box1 w (scopeCells p ps) 41
  have HW := Lib.hid hw
  have HR : Hid (parseTokM p ps.l x.l i = _) := Lib.hid (parseTokM.eq_1 p ps.l x.l i)
  generalize parseTokM p ps.l x.l i = R at *
  clear hw E
  by_cases hi : i < 0 ∨ (x.l.length : Int) < i
  · replace HR : Hid (R = ([], 0, 2)) := Lib.hid (HR.out.trans (if_pos hi))
    clear hp
    by_cases h0 : i < 0
    · have h0' : decide (i < 0) = true := decide_eq_true h0
      go_enter Tryz.func15, Tryz.ntmps15
      go_upto_region 1 with fail
      rw [← hW]
      clear hW hi
      go_wp2
      go_ret3
      exact ret_pt HR.out (PtOk.nil HW.out)
    · have h0' : decide (i < 0) = false := decide_eq_false h0
      have h1 : (x.l.length : Int) < i := by omega
      have h1' : decide ((x.l.length : Int) < i) = true := decide_eq_true h1
      go_enter Tryz.func15, Tryz.ntmps15
      go_upto_region 1 with fail
      rw [← hW]
      clear hW hi
      go_wp2
      go_ret3
      exact ret_pt HR.out (PtOk.nil HW.out)
  obtain ⟨j, rfl⟩ : ∃ j : Nat, i = j := ⟨i.toNat, (Int.toNat_of_nonneg (by omega)).symm⟩
  have hj : j ≤ x.l.length := by omega
  have h0' : decide ((j : Int) < 0) = false := decide_eq_false (by omega)
  have h1' : decide ((x.l.length : Int) < (j : Int)) = false := decide_eq_false (by omega)
  have h1'' : decide (x.l.length < j) = false := decide_eq_false (by omega)
  replace HR := Lib.hid (HR.out.trans (if_neg hi))
  simp only [Int.toNat_natCast] at HR
  have hp1 := hp W HB
  obtain ⟨V, hV⟩ : ∃ V, V = W.alloc (.cells (rdCells x j p ps 0) 85) := ⟨_, rfl⟩
  have HV : Hid (RSt w V V W.heap.size x j p ps 0) := Lib.hid ⟨by rw [hV]; exact Blk.new _ _ _, gr_refl _ _, by rw [hV]; exact below_step HW.out (below1 _ _), HW.out.size⟩
  have HWV : Hid (Below W.heap.size W V) := Lib.hid (by rw [hV]; exact below1 _ _)
  have HX := Lib.hid (expressionS HE.out HV.out hj)
  have hbd := exprR_bd p ps.l x.l j 0 hj
  have hbl : (exprR p ps.l x.l j 0).n.length ≤ 30000 := by have := hbd.er; have := hbd.le; omega
  generalize exprR p ps.l x.l j 0 = r at *
  obtain ⟨rn, rj, re⟩ := r
  simp only at HR HX hbl
  clear hi hbd
  go_enter Tryz.func15, Tryz.ntmps15
  go_upto_region 1 with fail
  rw [← hW]
  clear hW
  go_upto_region 4 with fail
  rw [← hV]
  clear hV hp1
  go_wp2_with fail
  refine HX.out.mono ?_
  rintro r w2 ⟨A, c, rfl, hL, hN⟩
  have H2 := Lib.hid hN
  have HL2 := Lib.hid hL
  have HB2 := Lib.hid (gr_base HWV.out hN.gr (Nat.le_refl _))
  clear hN hL HX
  have c1 : w2.cell? ⟨W.heap.size, 1, none⟩ = some (.int .i64 rj) := H2.out.blk.cell 1
  have c12 : w2.cell? ⟨W.heap.size, 12, none⟩ = some (.int .i64 re) := H2.out.blk.cell 12
  by_cases hre : re = 0
  case neg =>
    replace HR : Hid (R = ([], 0, re)) := Lib.hid (HR.out.trans (if_pos hre))
    have h1 : (re == 0) = false := beq_eq_false_iff_ne.2 hre
    have h2 : (re != 0) = true := bne_iff_ne.2 hre
    clear hre hp c1
    go_upto_region 8 with fail
    go_quiet (fail)
    go_wp2
    go_ret3
    exact ret_pt HR.out (PtOk.nil (below_step HW.out (below_drewN HB2.out _)))
  subst hre
  replace HR : Hid (R = if (exprM p ps.l rn).2 ≠ 0 then ([], 0, (exprM p ps.l rn).2) else (rn, (rj : Int), 0)) := Lib.hid (HR.out.trans (if_neg (by simp)))
  have hp2 := hp w2 HB2.out
  have f12 : w2.frozen? ⟨W.heap.size, 12, none⟩ = false := H2.out.blk.frozen 12
  have HCK := Lib.hid (exprCheck_any p ps ⟨rn, A, c⟩ w2 (HE.out.prog.below H2.out.base) (HE.out.pars.below H2.out.base (Nat.le_refl _)) HL2.out.lok)
  generalize exprM p ps.l rn = em at *
  obtain ⟨ea, ec⟩ := em
  simp only at HR HCK
  go_wp2_with fail
  refine HCK.out.mono ?_
  rintro r w3 ⟨rfl, hb3⟩
  have H3 := Lib.hid (H2.out.below hb3)
  have HL3 := Lib.hid (HL2.out.gr (gr_below hb3 _))
  have HB3 := Lib.hid (below_step HB2.out hb3)
  clear hb3 HCK hp2 c1 c12 f12 hp
  have c12 : w3.cell? ⟨W.heap.size, 12, none⟩ = some (.int .i64 0) := H3.out.blk.cell 12
  have f12 : w3.frozen? ⟨W.heap.size, 12, none⟩ = false := H3.out.blk.frozen 12
  go_upto_region 7 with fail
  obtain ⟨Z, hZ⟩ : ∃ Z, Z = w3.setCell ⟨W.heap.size, 12, none⟩ (.int .i64 ec) := ⟨_, rfl⟩
  have HZ : Hid (Blk Z W.heap.size 85 (rdCells x rj p ps ec)) := Lib.hid (by rw [hZ]; exact H3.out.blk.set_ 12 (.int .i64 ec))
  have HLZ := Lib.hid (show LOk Z 3 NodeD.cells ⟨rn, A, c⟩ from by rw [hZ]; exact (HL3.out.gr (gr_set (gr_refl _ _) _)).lok)
  have HBZ := Lib.hid (show Below W.heap.size W Z from by rw [hZ]; exact gr_base HB3.out (gr_set (gr_refl _ _) _) (Nat.le_refl _))
  rw [← hZ]
  clear hZ c12 f12
  have c1 : Z.cell? ⟨W.heap.size, 1, none⟩ = some (.int .i64 rj) := HZ.out.cell 1
  have c12 : Z.cell? ⟨W.heap.size, 12, none⟩ = some (.int .i64 ec) := HZ.out.cell 12
  by_cases hec : ec = 0
  case neg =>
    replace HR : Hid (R = ([], 0, ec)) := Lib.hid (HR.out.trans (if_pos hec))
    have h2 : (ec != 0) = true := bne_iff_ne.2 hec
    clear hec c1
    go_upto_region 8 with fail
    go_quiet (fail)
    go_wp2
    go_ret3
    exact ret_pt HR.out (PtOk.nil (below_step HW.out (below_drewN HBZ.out _)))
  subst hec
  replace HR : Hid (R = (rn, (rj : Int), 0)) := Lib.hid (HR.out.trans (if_neg (by simp)))
  go_upto_region 9 with fail
  go_quiet (fail)
  go_wp2
  go_ret3
  exact ret_pt HR.out ⟨A, c, rfl, HLZ.out.below (below_drewN (Below.refl Z.heap.size Z) _) (Nat.le_refl _), below_step HW.out (below_drewN HBZ.out _)⟩
end Go.Proofs.YtpomjcndeanjgaaGreatDoor
namespace Go.Proofs.YtpomjcndeanjgaaGreatDoor
open Go.RowKit
def PaOk (w : World) (R : List NodeD × Int) (r : Ending) (w' : World) : Prop := ∃ A c, r = .returned (.tuple #[.slice A R.1.length c, .int .i64 R.2]) ∧ LOk w' 3 NodeD.cells ⟨R.1, A, c⟩ ∧ Below w.heap.size w w'
theorem PaOk.nil {w w' : World} {e : Int} {R : List NodeD × Int} (h : R = ([], e)) (hb : Below w.heap.size w w') : PaOk w R (.returned (.tuple #[.slice none 0 0, .int .i64 e])) w' := by
  rw [h]; exact ⟨none, 0, rfl, ⟨Nat.zero_le _, .inl rfl⟩, hb⟩
set_option maxRecDepth 100000 in
set_option maxHeartbeats 8000000 in
theorem eparse_any (p : ProgD) (ps : L FieldD) (s : ByteArray) (w : World) (o : ProgOk w p) (hps : LOk w 2 FieldD.cells ps) (ht : Tab w) (nm : Names p ps.l) (hs : s.size ≤ maxLen) :
    Calls Tryz.prog 11 #[.string s, .agg (scopeCells p ps)] w (PaOk w (parseM p ps.l s)) := by
  obtain ⟨W, hW, hw, HB, hp⟩ := box1 w (scopeCells p ps) 41
  have HW := Lib.hid hw
  have HO := Lib.hid (o.below hw)
  have HPS := Lib.hid (hps.below hw (Nat.le_refl _))
  have HT := Lib.hid (ht.base hw)
  have HN := Lib.hid nm
  have HR : Hid (parseM p ps.l s = _) := Lib.hid (parseM.eq_1 p ps.l s)
  generalize parseM p ps.l s = R at *
  have HTK := Lib.hid (tokenize_any s W hs)
  have hok := tokenize_ok s.data.toList
  clear o hps ht nm hw
  unfold TokEnd at HTK
  generalize tokenize s.data.toList = t at *
  obtain ⟨ts, ln, er⟩ := t
  simp only at HTK hok HR
  go_enter Tryz.func11, Tryz.ntmps11
  go_upto_region 1 with fail
  rw [← hW]
  clear hW
  go_wp2_with fail
  refine HTK.out.mono ?_
  intro r w1 hT
  obtain ⟨A, c, rfl, hlc, hown, hb1⟩ := hT
  have E1 : REnv w1 ⟨ts, A, c⟩ p ps := ⟨own_tk hown (by unfold maxLen; omega), hok.1, hok.2, HO.out.below hb1, HPS.out.below hb1 (Nat.le_refl _)⟩
  have HPT : Hid (Calls Tryz.prog 15 #[.slice A ts.length c, .int .i64 0, .agg (scopeCells p ps)] w1 (PtOk w1 (parseTokM p ps.l ts 0).1 (parseTokM p ps.l ts 0).2.1 (parseTokM p ps.l ts 0).2.2)) := Lib.hid (eparseTok_any p ps ⟨ts, A, c⟩ 0 w1 E1)
  have HB1 := Lib.hid hb1
  generalize parseTokM p ps.l ts 0 = q at *
  obtain ⟨qn, qi, qe⟩ := q
  simp only at HPT HR
  have hp1 := hp w1 hb1
  clear hown hb1 hok E1 HTK hlc
  by_cases h1 : er = 0
  case neg =>
    replace HR : Hid (R = ([], (er : Int))) := Lib.hid (HR.out.trans (if_pos h1))
    have h1' : ((er : Int) != 0) = true := bne_iff_ne.2 (by omega)
    clear h1 hp hp1
    go_wp2
    go_ret2
    exact PaOk.nil HR.out (below_step HW.out HB1.out)
  subst h1
  replace HR := Lib.hid (HR.out.trans (if_neg (by simp)))
  go_wp2_with fail
  refine HPT.out.mono ?_
  rintro r w2 ⟨A2, c2, rfl, hl2, hb2⟩
  have HB2 := Lib.hid (below_step HB1.out hb2)
  have HL2 := Lib.hid hl2
  have hp2 := hp w2 (below_step HB1.out hb2)
  clear hl2 hb2 hp1 HPT
  by_cases h2 : qe = 0
  case neg =>
    replace HR : Hid (R = ([], qe)) := Lib.hid (HR.out.trans (if_pos h2))
    have h2' : (qe != 0) = true := bne_iff_ne.2 h2
    clear h2 hp hp2
    go_wp2
    go_ret2
    exact PaOk.nil HR.out (below_step HW.out HB2.out)
  subst h2
  replace HR := Lib.hid (HR.out.trans (if_neg (by simp)))
  by_cases h3 : qi < (ts.length : Int)
  · replace HR : Hid (R = ([], 4)) := Lib.hid (HR.out.trans (if_pos h3))
    have h3' : decide (qi < (ts.length : Int)) = true := decide_eq_true h3
    clear hp hp2
    go_wp2
    go_ret2
    exact PaOk.nil HR.out (below_step HW.out HB2.out)
  replace HR := Lib.hid (HR.out.trans (if_neg h3))
  have h3' : decide (qi < (ts.length : Int)) = false := decide_eq_false h3
  have HF : Hid (Calls Tryz.prog 7 #[.slice A2 qn.length c2, .agg (scopeCells p ps)] w2 fun e w' => e = .returned (.tuple #[.string (fmtM p ps.l qn).1, .int .i64 (fmtM p ps.l qn).2]) ∧ Below w2.heap.size w2 w') := Lib.hid (eformat_any p ps ⟨qn, A2, c2⟩ w2 (HO.out.below HB2.out) (HPS.out.below HB2.out (Nat.le_refl _)) HL2.out (HT.out.base HB2.out) HN.out)
  generalize fmtM p ps.l qn = f at *
  obtain ⟨ft, fe⟩ := f
  simp only at HF HR
  go_wp2_with fail
  refine HF.out.mono ?_
  rintro r w3 ⟨rfl, hb3⟩
  have HB3 := Lib.hid (below_step HB2.out hb3)
  have HL3 := Lib.hid (HL2.out.below hb3 (Nat.le_refl _))
  clear hb3 hp hp2 HF
  by_cases h4 : fe = 0
  case neg =>
    replace HR : Hid (R = ([], 23)) := Lib.hid (HR.out.trans (if_pos (.inl h4)))
    have h4' : (fe != 0) = true := bne_iff_ne.2 h4
    clear h4
    go_wp2
    go_ret2
    exact PaOk.nil HR.out (below_step HW.out HB3.out)
  subst h4
  by_cases h5 : ft = s
  · replace HR : Hid (R = (qn, 0)) := Lib.hid (HR.out.trans (if_neg (fun h => h.elim (fun h => h rfl) (fun h => h h5))))
    have h5' := toList_true h5
    clear h5
    go_wp2
    go_ret2
    exact ⟨A2, c2, by rw [HR.out]; rfl, by rw [HR.out]; exact HL3.out, below_step HW.out HB3.out⟩
  · replace HR : Hid (R = ([], 23)) := Lib.hid (HR.out.trans (if_pos (.inr h5)))
    have h5' := toList_false h5
    clear h5
    go_wp2
    go_ret2
    exact PaOk.nil HR.out (below_step HW.out HB3.out)
end Go.Proofs.YtpomjcndeanjgaaGreatDoor
namespace Go.Proofs.YtpomjcndeanjgaaGreatDoor
open Go.RowKit
@[reducible] def c14Cells (p : ProgD) (ps : L FieldD) (ns : L NodeD) : Array Value := #[.string p.name, .slice p.headers.A p.headers.l.length p.headers.c, .slice p.metadata.A p.metadata.l.length p.metadata.c,
  .slice p.registers.A p.registers.l.length p.registers.c, .slice p.actions.A p.actions.l.length p.actions.c, .slice p.tables.A p.tables.l.length p.tables.c,
  .slice p.states.A p.states.l.length p.states.c, .slice p.control.A p.control.l.length p.control.c, .slice p.deparser.A p.deparser.l.length p.deparser.c, .slice ps.A ps.l.length ps.c, .slice ns.A ns.l.length ns.c]
set_option maxRecDepth 100000 in
set_option maxHeartbeats 2000000 in
theorem own14_any (p : ProgD) (ps : L FieldD) (ns : L NodeD) (w : World) : Calls Tryz.prog 8 #[.agg (c14Cells p ps ns)] w fun e w' => e = .returned (.agg (scopeCells p ps)) ∧ Below w.heap.size w w' := by
  go_enter Tryz.func8, Tryz.ntmps8
  go_wp2
  refine bodyPost_ret (v := .agg (scopeCells p ps)) (by simp [results, Tryz.results8, go_sem, scopeCells]) rfl ⟨rfl, below2 _ _ _⟩
set_option maxRecDepth 100000 in
set_option maxHeartbeats 2000000 in
theorem scope14_any (p : ProgD) (ps : L FieldD) (ns : L NodeD) (w : World) : Calls Tryz.prog 10 #[.agg (c14Cells p ps ns)] w fun e w' => e = .returned (.agg (scopeCells p ps)) ∧ Below w.heap.size w w' := by
  go_enter Tryz.func10, Tryz.ntmps10
  go_wp2
  refine bodyPost_ret (v := .agg (scopeCells p ps)) (by simp [results, Tryz.results10, go_sem, scopeCells]) rfl ⟨rfl, below2 _ _ _⟩
def shortB (l : List FieldD) : Bool := l.all fun f => decide (f.name.size ≤ 30)
theorem short_yes {l : List FieldD} (h : ∀ j (hj : j < l.length), l[j].name.size ≤ 30) : shortB l = true := by
  unfold shortB
  rw [List.all_eq_true]
  intro f hf
  obtain ⟨j, hj, rfl⟩ := List.getElem_of_mem hf
  exact decide_eq_true (h j hj)
theorem short_no {l : List FieldD} {j : Nat} (hj : j < l.length) (h : 30 < l[j].name.size) : shortB l = false := by
  unfold shortB
  rw [List.all_eq_false]
  exact ⟨l[j], List.getElem_mem hj, by simp; omega⟩
theorem short_mem {l : List FieldD} (h : shortB l = true) : ∀ f ∈ l, f.name.size ≤ 1000 := fun f hf => by
  have := List.all_eq_true.1 h f hf
  have := of_decide_eq_true this
  omega
set_option maxRecDepth 100000 in
set_option maxHeartbeats 2000000 in
theorem short_any (x : L FieldD) (w : World) (h : LOk w 2 FieldD.cells x) : Calls Tryz.prog 18 #[.slice x.A x.l.length x.c] w fun e w' => e = .returned (.bool (shortB x.l)) ∧ w = w' := by
  have HX := Lib.hid h
  have hm := h.1
  unfold maxLen at hm
  have HY := Lib.hid (@short_yes x.l)
  have HN := Lib.hid (fun j (hj : j < x.l.length) => short_no (l := x.l) hj)
  generalize shortB x.l = R at *
  clear h
  go_enter Tryz.func18, Tryz.ntmps18
  go_wp2
  go_loopw [3] (fun iv wr => w = wr ∧ ∃ k : Nat, k ≤ x.l.length ∧ iv = .int .i64 k ∧ Hid (∀ j (hj : j < x.l.length), j < k → x.l[j].name.size ≤ 30)) (fun iv _ => x.l.length - (intOf iv).toNat)
  case atStart => exact ⟨rfl, 0, Nat.zero_le _, rfl, Lib.hid (fun j _ h => absurd h (Nat.not_lt_zero _))⟩
  case round =>
  obtain ⟨rfl, k, hk, rfl, HA⟩ := hrel
  by_cases hlt : k < x.l.length
  · obtain ⟨g, of, hA, d0, d1⟩ := FieldD.at HX.out hlt
    simp only [hA]
    by_cases hs : 30 < x.l[k].name.size
    · have HR := Lib.hid (HN.out k hlt hs)
      have hs' : decide ((30 : Int) < (x.l[k].name.size : Int)) = true := decide_eq_true (by omega)
      have hs2 : decide (30 < x.l[k].name.size) = true := decide_eq_true hs
      clear HA HN HY
      generalize x.l[k].name = nm at *
      go_wp2
      go_ret
      exact ⟨by rw [HR.out]; rfl, rfl⟩
    · have HA2 : Hid (∀ j (hj : j < x.l.length), j < k + 1 → x.l[j].name.size ≤ 30) := Lib.hid (fun j hj h => by
        rcases Nat.lt_succ_iff_lt_or_eq.1 h with h | rfl
        · exact HA.out j hj h
        · omega)
      have hs' : decide ((30 : Int) < (x.l[k].name.size : Int)) = false := decide_eq_false (by omega)
      have hs2 : decide (30 < x.l[k].name.size) = false := decide_eq_false hs
      clear HA
      generalize x.l[k].name = nm at d0 hs hs' hs2
      go_wp2
      go_roundw
      case rel => exact ⟨trivial, k + 1, by omega, by go_num, HA2⟩
      case measure => simp [intOf]; omega
  · have hk' : k = x.l.length := by omega
    subst hk'
    have HR := Lib.hid (HY.out (fun j hj => HA.out j hj hj))
    go_wp2
    go_ret
    exact ⟨by rw [HR.out]; rfl, rfl⟩
def used14N (y : NodeD) : NodeD := if y.op = 1 ∨ y.op = 2 ∨ y.op = 8 then y else if y.op = 3 ∨ y.op = 4 ∨ y.op = 6 ∨ y.op = 7 then ⟨y.op, y.n, 0⟩ else ⟨y.op, 0, 0⟩
set_option maxRecDepth 100000 in
set_option maxHeartbeats 4000000 in
theorem used_any (y : NodeD) (w : World) : Calls Tryz.prog 51 #[.agg #[.int .i64 y.op, .int .i64 y.n, .int .i64 y.w]] w fun e w' => e = .returned (.agg #[.int .i64 (used14N y).op, .int .i64 (used14N y).n, .int .i64 (used14N y).w]) ∧ Below w.heap.size w w' := by
  obtain ⟨op, n, wd⟩ := y
  by_cases h : op = 1 ∨ op = 2 ∨ op = 8 ∨ op = 3 ∨ op = 4 ∨ op = 6 ∨ op = 7
  · rcases h with rfl | rfl | rfl | rfl | rfl | rfl | rfl
    · rw [show used14N ⟨1, n, wd⟩ = ⟨1, n, wd⟩ from rfl]
      go_enter Tryz.func51, Tryz.ntmps51
      go_wp2
      refine bodyPost_ret (v := .agg #[.int .i64 1, .int .i64 n, .int .i64 wd]) (by simp [results, Tryz.results51, go_sem]) rfl ⟨rfl, below2 _ _ _⟩
    · rw [show used14N ⟨2, n, wd⟩ = ⟨2, n, wd⟩ from rfl]
      go_enter Tryz.func51, Tryz.ntmps51
      go_wp2
      refine bodyPost_ret (v := .agg #[.int .i64 2, .int .i64 n, .int .i64 wd]) (by simp [results, Tryz.results51, go_sem]) rfl ⟨rfl, below2 _ _ _⟩
    · rw [show used14N ⟨8, n, wd⟩ = ⟨8, n, wd⟩ from rfl]
      go_enter Tryz.func51, Tryz.ntmps51
      go_wp2
      refine bodyPost_ret (v := .agg #[.int .i64 8, .int .i64 n, .int .i64 wd]) (by simp [results, Tryz.results51, go_sem]) rfl ⟨rfl, below2 _ _ _⟩
    · rw [show used14N ⟨3, n, wd⟩ = ⟨3, n, 0⟩ from rfl]
      go_enter Tryz.func51, Tryz.ntmps51
      go_wp2
      refine bodyPost_ret (v := .agg #[.int .i64 3, .int .i64 n, .int .i64 0]) (by simp [results, Tryz.results51, go_sem]) rfl ⟨rfl, below2 _ _ _⟩
    · rw [show used14N ⟨4, n, wd⟩ = ⟨4, n, 0⟩ from rfl]
      go_enter Tryz.func51, Tryz.ntmps51
      go_wp2
      refine bodyPost_ret (v := .agg #[.int .i64 4, .int .i64 n, .int .i64 0]) (by simp [results, Tryz.results51, go_sem]) rfl ⟨rfl, below2 _ _ _⟩
    · rw [show used14N ⟨6, n, wd⟩ = ⟨6, n, 0⟩ from rfl]
      go_enter Tryz.func51, Tryz.ntmps51
      go_wp2
      refine bodyPost_ret (v := .agg #[.int .i64 6, .int .i64 n, .int .i64 0]) (by simp [results, Tryz.results51, go_sem]) rfl ⟨rfl, below2 _ _ _⟩
    · rw [show used14N ⟨7, n, wd⟩ = ⟨7, n, 0⟩ from rfl]
      go_enter Tryz.func51, Tryz.ntmps51
      go_wp2
      refine bodyPost_ret (v := .agg #[.int .i64 7, .int .i64 n, .int .i64 0]) (by simp [results, Tryz.results51, go_sem]) rfl ⟨rfl, below2 _ _ _⟩
  · have HR : Hid (used14N ⟨op, n, wd⟩ = ⟨op, 0, 0⟩) := Lib.hid (by unfold used14N; rw [if_neg (fun h2 => h (by simp only at h2; omega)), if_neg (fun h2 => h (by simp only at h2; omega))])
    have b1 : (op == 1) = false := beq_eq_false_iff_ne.2 (by omega)
    have b2 : (op == 2) = false := beq_eq_false_iff_ne.2 (by omega)
    have b3 : (op == 3) = false := beq_eq_false_iff_ne.2 (by omega)
    have b4 : (op == 4) = false := beq_eq_false_iff_ne.2 (by omega)
    have b6 : (op == 6) = false := beq_eq_false_iff_ne.2 (by omega)
    have b7 : (op == 7) = false := beq_eq_false_iff_ne.2 (by omega)
    have b8 : (op == 8) = false := beq_eq_false_iff_ne.2 (by omega)
    rw [HR.out]
    clear h HR
    go_enter Tryz.func51, Tryz.ntmps51
    go_wp2
    refine bodyPost_ret (v := .agg #[.int .i64 op, .int .i64 0, .int .i64 0]) (by simp [results, Tryz.results51, go_sem]) rfl ⟨rfl, below2 _ _ _⟩
end Go.Proofs.YtpomjcndeanjgaaGreatDoor
namespace Go.Proofs.YtpomjcndeanjgaaGreatDoor
open Go.RowKit Go.WideShapes Go.ChangeShapes
structure Case14 where
  p : ProgD
  ps : L FieldD
  ns : L NodeD
structure Case14Good (w : World) (c : Case14) : Prop where
  p : ProgGood w c.p
  ps : ListOk w 2 24 FieldD.cells FldGood c.ps
  ns : ListOk w 3 24 NodeD.cells NodeGood c.ns
section
variable {H : Type} {enc : TypeId × Value → H} {w : World} {base : Nat} {held : Bool}
theorem rd_case14 (N : Nat) : RdB enc Tryz.prog w base held N 34 (fun c : Case14 => (c14Cells c.p c.ps c.ns).toList) (Case14Good w) := by
  intro m hm cs x h hw
  obtain ⟨xs, n, e1, hx, hlen, hl, hf⟩ := DataW.trod_struct Tryz.underlying34 h
  subst hx
  simp only [DataW.weights, Tryz.underlying34] at hw
  obtain ⟨d0, h0, w0⟩ := rd_field (N := N) 0 _ 0 9 hf hl hw rfl rfl rfl (by kernel_rfl) (rd_prog N) (by omega)
  obtain ⟨d1, h1, w1⟩ := rd_field (N := N) 1 _ 9 1 hf hl hw rfl rfl rfl (by kernel_rfl) (rd_fields N) (by omega)
  obtain ⟨d2, h2, w2⟩ := rd_field (N := N) 2 _ 10 1 hf hl hw rfl rfl rfl (by kernel_rfl) (rd_nodes N) (by omega)
  have e2 : cs.length = 11 := hlen.trans (by kernel_rfl)
  refine ⟨⟨d0, d1, d2⟩, cells_eq e2 fun i hi => ?_, ⟨w0, w1, w2⟩⟩
  match i, hi with
  | 0, _ => exact cut_get h0 0 (by simp)
  | 1, _ => exact cut_get h0 1 (by simp)
  | 2, _ => exact cut_get h0 2 (by simp)
  | 3, _ => exact cut_get h0 3 (by simp)
  | 4, _ => exact cut_get h0 4 (by simp)
  | 5, _ => exact cut_get h0 5 (by simp)
  | 6, _ => exact cut_get h0 6 (by simp)
  | 7, _ => exact cut_get h0 7 (by simp)
  | 8, _ => exact cut_get h0 8 (by simp)
  | 9, _ => exact cell_of_cut h1
  | 10, _ => exact cell_of_cut h2
end
end Go.Proofs.YtpomjcndeanjgaaGreatDoor
namespace Go.Proofs.YtpomjcndeanjgaaGreatDoor
open Go.RowKit
theorem neq_nodeX (x : NodeD) (w : World) : Sem.run Tryz.prog (binOp .neq 65 (.agg #[.int .i64 x.op, .int .i64 x.n, .int .i64 x.w]) (.agg #[.int .i64 x.op, .int .i64 x.n, .int .i64 x.w])) w = .ok (.bool false) w := by
  have hS : Tryz.prog.underlying 65 = some (.struct (Tryz.prog.fieldsOf 65)) := by kernel_rfl
  have hp : Tryz.prog.stoodInHeld 65 = false := by kernel_rfl
  have u0 := Tryz.underlying3
  have a0 := Tryz.isAgg3
  have z0 := Tryz.sizeOf3
  rw [run_neq_struct, show (10000 : Nat) = 9999 + 1 from rfl, run_equalIn_agg w 9999 65 _ _ hS hp]
  simp only [Program.fieldsOf, Tryz.underlying65]
  go_simp
set_option maxRecDepth 100000 in
set_option maxHeartbeats 4000000 in
theorem eqNodes_any (l : List NodeD) (A B : Option Addr) (c d : Nat) (w : World) (h : LOk w 3 NodeD.cells ⟨l, A, c⟩) (h2 : LOk w 3 NodeD.cells ⟨l, B, d⟩) :
    Calls Tryz.prog 25 #[.slice A l.length c, .slice B l.length d] w fun e w' => e = .returned (.bool true) ∧ Below w.heap.size w w' := by
  have HX := Lib.hid h
  have HY := Lib.hid h2
  have hm := h.1
  unfold maxLen at hm
  simp only at hm
  clear h h2
  go_enter Tryz.func25, Tryz.ntmps25
  go_wp2
  go_loopw [5] (fun iv wr => ∃ k : Nat, k ≤ l.length ∧ iv = .int .i64 k ∧ Below w.heap.size w wr) (fun i _ => l.length - (intOf i).toNat)
  case atStart => exact ⟨0, Nat.zero_le _, rfl, Below.refl _ _⟩
  case round =>
  obtain ⟨k, hk, rfl, HB⟩ := hrel
  by_cases hlt : k < l.length
  · obtain ⟨g, of, hA, hq⟩ := NodeD.atA HX.out hlt
    obtain ⟨g2, of2, hA2, hq2⟩ := NodeD.atA HY.out hlt
    simp only at hA hA2
    have HBw := Lib.hid HB
    have d1 := fun u (h : Below wr.heap.size wr u) => hq u (below_step HBw.out h)
    have d2 := fun u (h : Below wr.heap.size wr u) => hq2 u (below_step HBw.out h)
    have H0 := Lib.hid (Below.refl wr.heap.size wr)
    have hlt' : (k : Int) < (l.length : Int) := by omega
    clear hq hq2 HB
    simp only at d1 d2
    have HU := Lib.hid (used_any l[k])
    have hnq := neq_nodeX (used14N l[k])
    generalize used14N l[k] = u at *
    generalize l[k] = y at *
    subst hA hA2
    go_upto_region 6 with fail
    go_region_held3 (fun w' => Below wr.heap.size wr w') (first | exact H0.out | exact below_drew H0.out | (exact below_step (by assumption) (by assumption)) | assumption)
      (first | (go_at_call 51; refine (HU.out _).mono ?_; rintro r w5 ⟨rfl, hb5⟩))
    all_goals
      have HB5 : Hid (Below wr.heap.size wr _) := Lib.hid (by assumption)
      go_wp2
      go_roundw
      case rel => exact ⟨k + 1, by omega, by go_num, below_step HBw.out HB5.out⟩
      case measure => simp [intOf]; omega
  · have hk' : k = l.length := by omega
    subst hk'
    go_wp2
    go_ret
    exact ⟨rfl, HB⟩
theorem equal14_any (l : List NodeD) (A B : Option Addr) (c d : Nat) (w : World) (h : LOk w 3 NodeD.cells ⟨l, A, c⟩) (h2 : LOk w 3 NodeD.cells ⟨l, B, d⟩) :
    Calls Tryz.prog 13 #[.slice A l.length c, .slice B l.length d] w fun e w' => e = .returned (.bool true) ∧ Below w.heap.size w w' := by
  have HC := Lib.hid (eqNodes_any l A B c d w h h2)
  clear h h2
  go_enter Tryz.func13, Tryz.ntmps13
  go_wp2_with fail
  refine HC.out.mono ?_
  rintro r w1 ⟨rfl, hb⟩
  have HB := Lib.hid hb
  clear hb HC
  go_wp2
  go_ret
  exact ⟨rfl, HB.out⟩
theorem info_tk5 : (Tryz.prog.info? 90).map (fun i => (i.zero, i.size, i.bytes)) = some (some (.agg #[.int .i64 0, .string ⟨#[]⟩, .int .u32 0, .int .i64 0]), 4, 40) := by kernel_rfl
theorem one_tk : ∀ u, ∀ c ∈ tkL u, c.oneCell' = true := by
  intro u c hc
  simp [tkL] at hc; rcases hc with rfl | rfl | rfl | rfl <;> rfl
theorem tk_one (w : World) (t : Tk) (ty : TypeId) : LOk (w.alloc (.cells #[.int .i64 t.kind, .string ⟨t.text.toArray⟩, .int .u32 t.value, .int .i64 t.line] ty)) 4 tkL ⟨[t], some ⟨w.heap.size, 0, none⟩, 1⟩ := by
  have b := Blk.new w ty #[.int .i64 t.kind, .string ⟨t.text.toArray⟩, .int .u32 t.value, .int .i64 t.line]
  refine ⟨by unfold maxLen; simp, .inr ⟨w.heap.size, 0, rfl, b.lt, fun i hi j hj => ?_⟩⟩
  have hi0 : i = 0 := by simp only [List.length_singleton] at hi; omega
  subst hi0
  have := b.cell j
  rw [show 0 + 0 * 4 + j = j by omega, this]
  match j, hj with
  | 0, _ => rfl
  | 1, _ => rfl
  | 2, _ => rfl
  | 3, _ => rfl
set_option maxRecDepth 100000 in
set_option maxHeartbeats 4000000 in
theorem tokens_any (x : L Tk) (w : World) (h : LOk w 4 tkL x) (hl : x.l.length ≤ 4096) :
    Calls Tryz.prog 17 #[.slice x.A x.l.length x.c] w fun e w' => ∃ A c, e = .returned (.slice A x.l.length c) ∧ LOk w' 4 tkL ⟨x.l, A, c⟩ ∧ Below w.heap.size w w' := by
  have HX := Lib.hid h
  obtain ⟨i0, hi, hz0, hz1, hz2⟩ := info_parts info_tk5
  clear h
  go_enter Tryz.func17, Tryz.ntmps17
  go_wp2
  go_loopw [3, 4] (fun o iv wr => ∃ (k : Nat) (A : Option Addr) (c : Nat), k ≤ x.l.length ∧ iv = .int .i64 k ∧ o = .slice A k c ∧ Hid (wr.ownsRow w.heap.size 90 4 (.slice A k c) k ((x.l.take k).flatMap tkL)) ∧ Below w.heap.size w wr) (fun _ i _ => x.l.length - (intOf i).toNat)
  case atStart => exact ⟨0, none, 0, Nat.zero_le _, rfl, rfl, Lib.hid (World.ownsRow_nil _ _ _ _), Below.refl _ _⟩
  case round =>
  obtain ⟨k, A, c, hk, rfl, rfl, HG, hbel⟩ := hrel
  by_cases hlt : k < x.l.length
  · obtain ⟨g, of, hA, hq⟩ := TkD.atA HX.out hlt
    obtain ⟨d0, d1, d2, d3⟩ := hq wr hbel
    have hlt' : (k : Int) < (x.l.length : Int) := by omega
    have HS : Hid (x.l.take (k + 1) = x.l.take k ++ [x.l[k]]) := Lib.hid (List.take_succ_eq_append_getElem hlt)
    generalize x.l[k] = t at *
    have HT := Lib.hid (tk_one wr t 90)
    have HBw := Lib.hid hbel
    have HA1 := Lib.hid (HG.out.alloc (.cells #[.int .i64 t.kind, .string ⟨t.text.toArray⟩, .int .u32 t.value, .int .i64 t.line] 90))
    have HB1 := Lib.hid (below_alloc hbel (.cells #[.int .i64 t.kind, .string ⟨t.text.toArray⟩, .int .u32 t.value, .int .i64 t.line] 90))
    have HAA := Lib.hid hA
    clear hq hA hbel
    simp only [HAA.out]
    go_wp2_with (first
      | (at_builtin; refine wpList_append_L rfl _ _ 56 rfl w.heap.size 90 i0 _ 4 40 Tryz.underlying56 hi hz0 hz1 hz2 rfl (by decide) _ _ _ rfl HA1.out ⟨[t], some ⟨wr.heap.size, 0, none⟩, 1⟩ rfl HT.out (fun h => by cases h) (fun _ => rfl) one_tk ?g11 ?g12 ?g13 ?_))
    case g11 => have h1 : ([t] : List Tk).length = 1 := rfl; unfold maxLen; omega
    case g12 => have h1 : ([t] : List Tk).length = 1 := rfl; omega
    case g13 => exact HB1.out.size
    intro v3 w3 hown4 hgrow
    have hbel3 : Below w.heap.size w w3 := HB1.out.trans (grown_below HA1.out hgrow HB1.out.size)
    obtain ⟨A3, c3, rfl⟩ := row_sl hown4
    have HO5 : Hid (w3.ownsRow w.heap.size 90 4 (.slice A3 (k + 1) c3) (k + 1) ((x.l.take (k + 1)).flatMap tkL)) := Lib.hid (by
      rw [HS.out, List.flatMap_append]
      exact hown4)
    clear hown4 hgrow HT HG HA1 HB1 HS d0 d1 d2 d3
    go_wp2
    go_roundw
    case rel => exact ⟨k + 1, A3, c3, by omega, by go_num, rfl, HO5, hbel3⟩
    case measure => simp [intOf]; omega
  · have e : k = x.l.length := by omega
    subst e
    have HR : Hid (wr.ownsRow w.heap.size 90 4 (.slice A x.l.length c) x.l.length (x.l.flatMap tkL)) := Lib.hid (by have := HG.out; rwa [List.take_length] at this)
    obtain ⟨A', c', e', _, f1, _, _⟩ := own_list (l := x.l) (cells := tkL) (fun _ => rfl) HR.out
    cases e'
    have HF := Lib.hid f1
    clear f1 HR HG
    go_wp2
    go_ret
    exact ⟨A, c, rfl, HF.out, hbel⟩
end Go.Proofs.YtpomjcndeanjgaaGreatDoor
namespace Go.Proofs.YtpomjcndeanjgaaGreatDoor
open Go.RowKit
def hdrSm (h : HeaderD) : Prop := h.name.size ≤ 30 ∧ shortB h.fields.l = true
theorem names_of {p : ProgD} {ps : List FieldD} (h1 : ∀ j (hj : j < p.headers.l.length), hdrSm p.headers.l[j]) (h2 : shortB p.metadata.l = true) (h3 : shortB ps = true) : Names p ps := by
  refine ⟨fun h hh => ?_, fun h hh => ?_, short_mem h2, short_mem h3⟩
  · obtain ⟨j, hj, rfl⟩ := List.getElem_of_mem hh
    have := (h1 j hj).1
    omega
  · obtain ⟨j, hj, rfl⟩ := List.getElem_of_mem hh
    exact short_mem (h1 j hj).2
def SaysYes (P : Prop) (r : Ending) : Prop := ∃ b : Bool, r = .returned (.bool b) ∧ (b = true → P)
theorem SaysYes.no {P : Prop} : SaysYes P (.returned (.bool false)) := ⟨false, rfl, fun h => by cases h⟩
set_option maxRecDepth 100000 in
set_option maxHeartbeats 8000000 in
theorem small14_any (p : ProgD) (ps : L FieldD) (ns : L NodeD) (w : World) (o : ProgOk w p) (hps : LOk w 2 FieldD.cells ps) :
    Calls Tryz.prog 5 #[.agg (c14Cells p ps ns)] w fun e w' => SaysYes (Names p ps.l) e ∧ Below w.heap.size w w' := by
  obtain ⟨W, hW, hw, HB, hp⟩ := box1 w (c14Cells p ps ns) 34
  have HW := Lib.hid hw
  have HO := Lib.hid (o.below hw)
  have HSP := Lib.hid (short_any ps W (hps.below hw (Nat.le_refl _)))
  have HSM := Lib.hid (short_any p.metadata W HO.out.metadata)
  have hp1 := hp W HB
  have hnm : Hid (∀ (h1 : ∀ j (hj : j < p.headers.l.length), hdrSm p.headers.l[j]), shortB p.metadata.l = true → shortB ps.l = true → Names p ps.l) := Lib.hid (fun h1 h2 h3 => names_of h1 h2 h3)
  have hlh := HO.out.headers.1
  unfold maxLen at hlh
  clear hw o hps
  generalize shortB ps.l = b5 at *
  generalize shortB p.metadata.l = b6 at *
  by_cases a1 : 40 < ns.l.length
  · have e1 : decide ((40 : Int) < (ns.l.length : Int)) = true := decide_eq_true (by omega)
    have e1' : decide (40 < ns.l.length) = true := decide_eq_true a1
    go_enter Tryz.func5, Tryz.ntmps5
    go_upto_region 1 with fail
    rw [← hW]
    clear hW
    go_wp2
    go_ret
    exact ⟨.no, HW.out⟩
  have e1 : decide ((40 : Int) < (ns.l.length : Int)) = false := decide_eq_false (by omega)
  have e1' : decide (40 < ns.l.length) = false := decide_eq_false a1
  by_cases a2 : 10 < ps.l.length
  · have e2 : decide ((10 : Int) < (ps.l.length : Int)) = true := decide_eq_true (by omega)
    have e2' : decide (10 < ps.l.length) = true := decide_eq_true a2
    go_enter Tryz.func5, Tryz.ntmps5
    go_upto_region 1 with fail
    rw [← hW]
    clear hW
    go_wp2
    go_ret
    exact ⟨.no, HW.out⟩
  have e2 : decide ((10 : Int) < (ps.l.length : Int)) = false := decide_eq_false (by omega)
  have e2' : decide (10 < ps.l.length) = false := decide_eq_false a2
  by_cases a3 : 10 < p.headers.l.length
  · have e3 : decide ((10 : Int) < (p.headers.l.length : Int)) = true := decide_eq_true (by omega)
    have e3' : decide (10 < p.headers.l.length) = true := decide_eq_true a3
    go_enter Tryz.func5, Tryz.ntmps5
    go_upto_region 1 with fail
    rw [← hW]
    clear hW
    go_wp2
    go_ret
    exact ⟨.no, HW.out⟩
  have e3 : decide ((10 : Int) < (p.headers.l.length : Int)) = false := decide_eq_false (by omega)
  have e3' : decide (10 < p.headers.l.length) = false := decide_eq_false a3
  by_cases a4 : 20 < p.metadata.l.length
  · have e4 : decide ((20 : Int) < (p.metadata.l.length : Int)) = true := decide_eq_true (by omega)
    have e4' : decide (20 < p.metadata.l.length) = true := decide_eq_true a4
    go_enter Tryz.func5, Tryz.ntmps5
    go_upto_region 1 with fail
    rw [← hW]
    clear hW
    go_wp2
    go_ret
    exact ⟨.no, HW.out⟩
  have e4 : decide ((20 : Int) < (p.metadata.l.length : Int)) = false := decide_eq_false (by omega)
  have e4' : decide (20 < p.metadata.l.length) = false := decide_eq_false a4
  cases b5 with
  | false =>
    go_enter Tryz.func5, Tryz.ntmps5
    go_upto_region 1 with fail
    rw [← hW]
    clear hW
    go_wp2_with fail
    refine HSP.out.mono ?_
    rintro r w' ⟨rfl, rfl⟩
    go_wp2
    go_ret
    exact ⟨.no, HW.out⟩
  | true =>
  cases b6 with
  | false =>
    go_enter Tryz.func5, Tryz.ntmps5
    go_upto_region 1 with fail
    rw [← hW]
    clear hW
    go_wp2_with fail
    refine HSP.out.mono ?_
    rintro r w' ⟨rfl, rfl⟩
    go_wp2_with fail
    refine HSM.out.mono ?_
    rintro r w' ⟨rfl, rfl⟩
    go_wp2
    go_ret
    exact ⟨.no, HW.out⟩
  | true =>
  go_enter Tryz.func5, Tryz.ntmps5
  go_upto_region 1 with fail
  rw [← hW]
  clear hW
  go_wp2_with fail
  refine HSP.out.mono ?_
  rintro r w' ⟨rfl, rfl⟩
  go_wp2_with fail
  refine HSM.out.mono ?_
  rintro r w' ⟨rfl, rfl⟩
  clear HSP HSM e1 e1' e2 e2' e3 e3' e4 e4' a1 a2 a4
  go_wp2
  go_loopw [3, 4] (fun iv _ wr => ∃ k : Nat, k ≤ p.headers.l.length ∧ iv = .int .i64 k ∧ Hid (∀ j (hj : j < p.headers.l.length), j < k → hdrSm p.headers.l[j]) ∧ Below W.heap.size W wr) (fun iv _ _ => p.headers.l.length - (intOf iv).toNat)
  case atStart => exact ⟨0, Nat.zero_le _, rfl, Lib.hid (fun j _ h => absurd h (Nat.not_lt_zero _)), HB⟩
  case round =>
  obtain ⟨k, hk, rfl, HA, hbel⟩ := hrel
  have HBw := Lib.hid hbel
  by_cases hlt : k < p.headers.l.length
  · obtain ⟨g, of, hA, hq⟩ := HeaderD.atA HO.out.headers hlt
    obtain ⟨d0, d1⟩ := hq wr hbel
    have hp2 := hp wr hbel
    have hlt' : (k : Int) < (p.headers.l.length : Int) := by omega
    have HFO := Lib.hid ((HO.out.hdr _ (List.getElem_mem hlt)).fields)
    have HQ : Hid (hdrSm p.headers.l[k] → ∀ j (hj : j < p.headers.l.length), j < k + 1 → hdrSm p.headers.l[j]) := Lib.hid (fun hw j hj h => by
      rcases Nat.lt_succ_iff_lt_or_eq.1 h with h | h
      · exact HA.out j hj h
      · subst h; exact hw)
    generalize p.headers.l[k] = y at *
    obtain ⟨yn, yf⟩ := y
    simp only at d0 d1 HFO
    obtain ⟨V, hV⟩ : ∃ V, V = wr.alloc (.cells #[.string yn, .slice yf.A yf.l.length yf.c] 61) := ⟨_, rfl⟩
    have HV : Hid (Blk V wr.heap.size 61 #[.string yn, .slice yf.A yf.l.length yf.c]) := Lib.hid (by rw [hV]; exact Blk.new _ _ _)
    have HBV : Hid (Below W.heap.size W V) := Lib.hid (by rw [hV]; exact below_alloc hbel _)
    have HSF := Lib.hid (short_any yf V (HFO.out.below HBV.out (Nat.le_refl _)))
    have HQ2 : Hid (yn.size ≤ 30 → shortB yf.l = true → hdrSm ⟨yn, yf⟩) := Lib.hid (fun a b => ⟨a, b⟩)
    have hAe := Lib.hid hA
    clear hq HA hbel
    have c1 : wr.cell? ⟨w.heap.size, 1, none⟩ = some (.slice (some ⟨g, of, none⟩) p.headers.l.length p.headers.c) := by rw [← hA]; exact hp2 1 (show 1 < 11 by decide)
    clear hp2 hA
    generalize shortB yf.l = bf at *
    have v0 : V.cell? ⟨wr.heap.size, 0, none⟩ = some (.string yn) := HV.out.cell 0
    have v1 : V.cell? ⟨wr.heap.size, 1, none⟩ = some (.slice yf.A yf.l.length yf.c) := HV.out.cell 1
    by_cases s1 : 30 < yn.size
    · have x1 : decide ((30 : Int) < (yn.size : Int)) = true := decide_eq_true (by omega)
      have x1' : decide (30 < yn.size) = true := decide_eq_true s1
      go_upto_region 7 with fail
      rw [← hV]
      clear hV c1 d0 d1
      go_wp2
      go_ret
      exact ⟨.no, below_step HW.out HBV.out⟩
    have x1 : decide ((30 : Int) < (yn.size : Int)) = false := decide_eq_false (by omega)
    have x1' : decide (30 < yn.size) = false := decide_eq_false s1
    by_cases s2 : 20 < yf.l.length
    · have x2 : decide ((20 : Int) < (yf.l.length : Int)) = true := decide_eq_true (by omega)
      have x2' : decide (20 < yf.l.length) = true := decide_eq_true s2
      go_upto_region 7 with fail
      rw [← hV]
      clear hV c1 d0 d1
      go_wp2
      go_ret
      exact ⟨.no, below_step HW.out HBV.out⟩
    have x2 : decide ((20 : Int) < (yf.l.length : Int)) = false := decide_eq_false (by omega)
    have x2' : decide (20 < yf.l.length) = false := decide_eq_false s2
    cases bf with
    | false =>
      go_upto_region 7 with fail
      rw [← hV]
      clear hV c1 d0 d1
      go_wp2_with fail
      refine HSF.out.mono ?_
      rintro r w' ⟨rfl, rfl⟩
      go_wp2
      go_ret
      exact ⟨.no, below_step HW.out HBV.out⟩
    | true =>
      have HA2 := Lib.hid (HQ.out (HQ2.out (by omega) rfl))
      go_upto_region 7 with fail
      rw [← hV]
      clear hV c1 d0 d1
      go_wp2_with fail
      refine HSF.out.mono ?_
      rintro r w' ⟨rfl, rfl⟩
      go_wp2
      go_roundw
      case rel => exact ⟨k + 1, by omega, by go_num, HA2, HBV.out⟩
      case measure => simp [intOf]; omega
  · have hk' : k = p.headers.l.length := by omega
    subst hk'
    have HN := Lib.hid (hnm.out (fun j hj => HA.out j hj hj) (by first | rfl | trivial) (by first | rfl | trivial))
    have hp2 := hp wr hbel
    go_wp2
    go_ret
    exact ⟨⟨true, rfl, fun _ => HN.out⟩, below_step HW.out hbel⟩
end Go.Proofs.YtpomjcndeanjgaaGreatDoor
namespace Go.Proofs.YtpomjcndeanjgaaGreatDoor
open Go.RowKit
def nilX {α : Type} : L α := ⟨[], none, 0⟩
theorem nilX_ok {α : Type} (w : World) (k : Nat) (cells : α → List Value) : LOk w k cells (nilX : L α) := ⟨Nat.zero_le _, .inl rfl⟩
def wkP (g : Nat) : ProgD := ⟨⟨#[]⟩, ⟨[⟨⟨#[104]⟩, ⟨[⟨⟨#[98]⟩, 8⟩], some ⟨g, 0, none⟩, 1⟩⟩], some ⟨g + 1, 0, none⟩, 1⟩, nilX, nilX, nilX, nilX, nilX, nilX, nilX⟩
def wkN : List NodeD := [⟨9, 0, 0⟩, ⟨2, 0, 0⟩, ⟨6, 2, 0⟩, ⟨1, 5, 8⟩]
def wkS : ByteArray := ⟨#[104, 46, 98, 32, 43, 32, 40, 53, 58, 56, 32, 60, 60, 32, 50, 41]⟩
def wkT : ByteArray := ⟨#[104, 46, 98, 32, 32, 43, 32, 53, 58, 56]⟩
theorem wk_fmt (g : Nat) : fmtM (wkP g) [] wkN = (wkS, 0) := by kernel_rfl
theorem wk_parse (g : Nat) : parseM (wkP g) [] wkS = (wkN, 0) := by kernel_rfl
theorem wk_bad (g : Nat) : parseM (wkP g) [] wkT = ([], 23) := by kernel_rfl
theorem wk_ok {w : World} {g : Nat} (h : Blk w g 63 #[.string ⟨#[98]⟩, .int .i64 8]) (h2 : Blk w (g + 1) 61 #[.string ⟨#[104]⟩, .slice (some ⟨g, 0, none⟩) 1 1]) : ProgOk w (wkP g) where
  name := Nat.zero_le _
  headers := by
    refine ⟨by show (1 : Nat) ≤ maxLen; unfold maxLen; omega, .inr ⟨g + 1, 0, rfl, h2.lt, fun i hi j hj => ?_⟩⟩
    have hi' : i < 1 := hi
    rw [h2.cell]
    match i, hi', j, hj with
    | 0, _, 0, _ => rfl
    | 0, _, 1, _ => rfl
  hdr := fun x hx => by
    simp only [wkP, List.mem_singleton] at hx
    subst hx
    refine ⟨by show (1 : Nat) ≤ maxLen; unfold maxLen; omega, ⟨by show (1 : Nat) ≤ maxLen; unfold maxLen; omega, .inr ⟨g, 0, rfl, h.lt, fun i hi j hj => ?_⟩⟩, fun f hf => ?_⟩
    · have hi' : i < 1 := hi
      rw [h.cell]
      match i, hi', j, hj with
      | 0, _, 0, _ => rfl
      | 0, _, 1, _ => rfl
    · simp only [List.mem_singleton] at hf
      subst hf
      show (1 : Nat) ≤ maxLen; unfold maxLen; omega
  metadata := nilX_ok _ _ _
  mnames := fun _ h => by cases h
  registers := nilX_ok _ _ _
  rnames := fun _ h => by cases h
  actions := nilX_ok _ _ _
  act := fun _ h => by cases h
  tables := nilX_ok _ _ _
  tab := fun _ h => by cases h
  states := nilX_ok _ _ _
  state := fun _ h => by cases h
  control := nilX_ok _ _ _
  ctl := by show CtlsOk w []; rw [CtlsOk]; trivial
  deparser := nilX_ok _ _ _
theorem wk_names (g : Nat) : Names (wkP g) [] := by
  refine ⟨fun h hh => ?_, fun h hh f hf => ?_, fun f hf => (by cases hf), fun f hf => (by cases hf)⟩
  · simp only [wkP, List.mem_singleton] at hh
    subst hh
    show (1 : Nat) ≤ 1000; omega
  · simp only [wkP, List.mem_singleton] at hh
    subst hh
    simp only [List.mem_singleton] at hf
    subst hf
    show (1 : Nat) ≤ 1000; omega
def wkCells : Array Value := #[.int .i64 9, .int .i64 0, .int .i64 0, .int .i64 2, .int .i64 0, .int .i64 0, .int .i64 6, .int .i64 2, .int .i64 0, .int .i64 1, .int .i64 5, .int .i64 8]
theorem wk_nodes {w : World} {g : Nat} (b : Blk w g 65 wkCells) : LOk w 3 NodeD.cells ⟨wkN, some ⟨g, 0, none⟩, 4⟩ := by
  refine ⟨by show (4 : Nat) ≤ maxLen; unfold maxLen; omega, .inr ⟨g, 0, rfl, b.lt, fun i hi j hj => ?_⟩⟩
  have hi' : i < 4 := hi
  rw [b.cell]
  match i, hi', j, hj with
  | 0, _, 0, _ => rfl
  | 0, _, 1, _ => rfl
  | 0, _, 2, _ => rfl
  | 1, _, 0, _ => rfl
  | 1, _, 1, _ => rfl
  | 1, _, 2, _ => rfl
  | 2, _, 0, _ => rfl
  | 2, _, 1, _ => rfl
  | 2, _, 2, _ => rfl
  | 3, _, 0, _ => rfl
  | 3, _, 1, _ => rfl
  | 3, _, 2, _ => rfl
theorem box4X (w : World) (c1 c2 c3 c4 : Array Value) (t1 t2 t3 t4 : TypeId) : ∃ W, W = (((w.alloc (.cells c1 t1)).alloc (.cells c2 t2)).alloc (.cells c3 t3)).alloc (.cells c4 t4) ∧ Below w.heap.size w W ∧ W.heap.size = w.heap.size + 4 ∧
    Blk W w.heap.size t1 c1 ∧ Blk W (w.heap.size + 1) t2 c2 ∧ Blk W (w.heap.size + 1 + 1) t3 c3 ∧ Blk W (w.heap.size + 1 + 1 + 1) t4 c4 := by
  refine ⟨_, rfl, ?_, by simp, ((Blk.new _ _ _).alloc _).alloc _ |>.alloc _, ?_, ?_, ?_⟩
  · exact (((Below.refl w.heap.size w).alloc (Nat.le_refl _) _).alloc (by simp) _ |>.alloc (by simp; omega) _).alloc (by simp; omega) _
  · have := ((Blk.new (w.alloc (.cells c1 t1)) t2 c2).alloc (.cells c3 t3)).alloc (.cells c4 t4)
    simpa using this
  · have := (Blk.new ((w.alloc (.cells c1 t1)).alloc (.cells c2 t2)) t3 c3).alloc (.cells c4 t4)
    simpa using this
  · have := Blk.new (((w.alloc (.cells c1 t1)).alloc (.cells c2 t2)).alloc (.cells c3 t3)) t4 c4
    simpa using this
set_option maxRecDepth 100000 in
set_option maxHeartbeats 8000000 in
theorem works14_any (w : World) (ht : Tab w) : Calls Tryz.prog 6 #[] w fun e w' => e = .returned (.bool true) ∧ Below w.heap.size w w' := by
  have HT := Lib.hid ht
  go_enter Tryz.func6, Tryz.ntmps6
  go_upto_region 3 with fail
  obtain ⟨V, hV⟩ : ∃ V, V = (((w.alloc (.cells #[.string ⟨#[98]⟩, .int .i64 8] 63)).alloc (.cells #[.string ⟨#[104]⟩, .slice (some ⟨w.heap.size, 0, none⟩) 1 1] 61)).alloc (.cells #[.string ⟨#[]⟩, .slice (some ⟨w.heap.size + 1, 0, none⟩) 1 1, .slice none 0 0, .slice none 0 0, .slice none 0 0, .slice none 0 0, .slice none 0 0, .slice none 0 0, .slice none 0 0, .slice none 0 0] 41)).alloc (.cells #[.int .i64 9, .int .i64 0, .int .i64 0, .int .i64 2, .int .i64 0, .int .i64 0, .int .i64 6, .int .i64 2, .int .i64 0, .int .i64 1, .int .i64 5, .int .i64 8] 65) := ⟨_, rfl⟩
  obtain ⟨hbV, k1, k2, k3, k4⟩ : Below w.heap.size w V ∧ Blk V w.heap.size 63 #[.string ⟨#[98]⟩, .int .i64 8] ∧ Blk V (w.heap.size + 1) 61 #[.string ⟨#[104]⟩, .slice (some ⟨w.heap.size, 0, none⟩) 1 1] ∧ Blk V (w.heap.size + 1 + 1) 41 (scopeCells (wkP w.heap.size) nilX) ∧ Blk V (w.heap.size + 1 + 1 + 1) 65 wkCells := by
    obtain ⟨W, e, b, _, q1, q2, q3, q4⟩ := box4X w #[.string ⟨#[98]⟩, .int .i64 8] #[.string ⟨#[104]⟩, .slice (some ⟨w.heap.size, 0, none⟩) 1 1] (scopeCells (wkP w.heap.size) nilX) wkCells 63 61 41 65
    rw [hV]
    rw [e] at b q1 q2 q3 q4
    exact ⟨b, q1, q2, q3, q4⟩
  have HbV := Lib.hid hbV
  have K3 := Lib.hid (fun u (h : Below V.heap.size V u) => k3.below h k3.lt)
  have HP := Lib.hid (wk_ok k1 k2)
  have HN := Lib.hid (wk_nodes k4)
  have HTV := Lib.hid (HT.out.base hbV)
  rw [← hV]
  clear hV k1 k2 k4 hbV ht
  have HF : Hid (Calls Tryz.prog 7 #[.slice (some ⟨w.heap.size + 1 + 1 + 1, 0, none⟩) 4 4, .agg (scopeCells (wkP w.heap.size) nilX)] V fun e w' => e = .returned (.tuple #[.string wkS, .int .i64 0]) ∧ Below V.heap.size V w') := Lib.hid (by
    have := eformat_any (wkP w.heap.size) nilX ⟨wkN, some ⟨w.heap.size + 1 + 1 + 1, 0, none⟩, 4⟩ V HP.out (nilX_ok _ _ _) HN.out HTV.out (wk_names _)
    rw [show fmtM (wkP w.heap.size) (nilX : L FieldD).l (⟨wkN, some ⟨w.heap.size + 1 + 1 + 1, 0, none⟩, 4⟩ : L NodeD).l = (wkS, 0) from wk_fmt _] at this
    exact this)
  have HA : Hid (∀ u, Below V.heap.size V u → Calls Tryz.prog 11 #[.string wkS, .agg (scopeCells (wkP w.heap.size) nilX)] u (PaOk u (wkN, 0))) := Lib.hid (fun u h => by
    have := eparse_any (wkP w.heap.size) nilX wkS u (HP.out.below h) (nilX_ok _ _ _) (HTV.out.base h) (wk_names _) (by show (16 : Nat) ≤ maxLen; unfold maxLen; omega)
    rw [show parseM (wkP w.heap.size) (nilX : L FieldD).l wkS = (wkN, 0) from wk_parse _] at this
    exact this)
  have HB : Hid (∀ u, Below V.heap.size V u → Calls Tryz.prog 11 #[.string wkT, .agg (scopeCells (wkP w.heap.size) nilX)] u (PaOk u ([], 23))) := Lib.hid (fun u h => by
    have := eparse_any (wkP w.heap.size) nilX wkT u (HP.out.below h) (nilX_ok _ _ _) (HTV.out.base h) (wk_names _) (by show (10 : Nat) ≤ maxLen; unfold maxLen; omega)
    rw [show parseM (wkP w.heap.size) (nilX : L FieldD).l wkT = ([], 23) from wk_bad _] at this
    exact this)
  have hpP := fun u (h : Below V.heap.size V u) i (_ : i < 10) => (K3.out u h).cell i
  clear k3 HP HTV K3
  generalize wkP w.heap.size = P at *
  have hp1 := hpP V (Below.refl _ _)
  go_wp2_with fail
  refine HF.out.mono ?_
  rintro r w1 ⟨rfl, hb1⟩
  have H1 := Lib.hid hb1
  clear hb1 HF hp1
  have hp1 := hpP w1 H1.out
  go_wp2_with fail
  refine (HA.out w1 H1.out).mono ?_
  rintro r w2 ⟨A, c, rfl, hl2, hb2⟩
  have H2 := Lib.hid (below_step H1.out hb2)
  have HL2 := Lib.hid hl2
  clear hb2 hl2 HA hp1
  have hp1 := hpP w2 H2.out
  go_wp2_with fail
  refine (HB.out w2 H2.out).mono ?_
  rintro r w3 ⟨B, d, rfl, _, hb3⟩
  have H3 := Lib.hid (below_step H2.out hb3)
  have HE := Lib.hid (equal14_any wkN A (some ⟨w.heap.size + 1 + 1 + 1, 0, none⟩) c 4 w3 (HL2.out.below hb3 (Nat.le_refl _)) (HN.out.below H3.out (Nat.le_refl _)))
  clear hb3 HB hp1 hpP
  have hts : (wkS.toList == [104, 46, 98, 32, 43, 32, 40, 53, 58, 56, 32, 60, 60, 32, 50, 41]) = true := by rw [toList_data]; rfl
  go_wp2_with fail
  refine HE.out.mono ?_
  rintro r w4 ⟨rfl, hb4⟩
  have H4 := Lib.hid (below_step H3.out hb4)
  clear hb4
  go_wp2
  go_ret
  exact ⟨rfl, below_step HbV.out H4.out⟩
end Go.Proofs.YtpomjcndeanjgaaGreatDoor
namespace Go.Proofs.YtpomjcndeanjgaaGreatDoor
open Go.RowKit
structure RBd (ts : List Tk) (i : Nat) (r : Pd) : Prop where
  n : r.n.length ≤ ts.length - i
  ok : r.e = 0 → i + r.n.length ≤ r.at_ ∧ r.at_ ≤ ts.length
  top : r.at_ + i ≤ 2 * ts.length + 4
theorem exp_lt {ts : List Tk} {i k : Nat} {s : List UInt8} (h : expR ts i k s = 0) : i < ts.length := by
  rcases Nat.lt_or_ge i ts.length with h1 | h1
  · exact h1
  · rw [exp_none h1] at h; cases h
theorem sym_lt {ts : List Tk} {i : Nat} {s : List UInt8} (h : isSym ts s i = true) : i < ts.length := exp_lt (sym_exp h)
theorem all_tail {ts : List Tk} {i k : Nat} {s : List UInt8} {r : List (Nat × List UInt8)} (h : expAll ts i ((k, s) :: r) = 0) : expR ts i k s = 0 ∧ expAll ts (i + 1) r = 0 := by
  rw [expAll] at h
  by_cases h1 : expR ts i k s = 0
  · rw [if_neg (by simpa using h1)] at h; exact ⟨h1, h⟩
  · rw [if_pos (by simpa using h1)] at h; exact absurd h h1
theorem all2_lt {ts : List Tk} {i k1 k2 : Nat} {s1 s2 : List UInt8} (h : expAll ts i [(k1, s1), (k2, s2)] = 0) : i + 1 < ts.length := exp_lt (all_tail (all_tail h).2).1
theorem all4_lt {ts : List Tk} {i k1 k2 k3 k4 : Nat} {s1 s2 s3 s4 : List UInt8} (h : expAll ts i [(k1, s1), (k2, s2), (k3, s3), (k4, s4)] = 0) : i + 3 < ts.length := exp_lt (all_tail (all_tail (all_tail (all_tail h).2).2).2).1
theorem RBd.err {ts : List Tk} {i : Nat} {e : Int} (hi : i ≤ ts.length) (he : e ≠ 0) : RBd ts i ⟨[], 0, e⟩ := ⟨Nat.zero_le _, fun h => absurd h he, by simp only; omega⟩
theorem rprim_bd (p : ProgD) (ps : List FieldD) (ts : List Tk) (i : Nat) (hi : i < ts.length) : RBd ts i (rPrim p ps ts i) := by
  unfold rPrim
  split
  · unfold rPar
    split
    · rename_i h; exact .err (by omega) h
    · rename_i h
      have h1 : i + 1 < ts.length := exp_lt (Classical.not_not.1 h)
      split
      · exact .err (by omega) (by decide)
      · exact ⟨by simp only [List.length_singleton]; omega, fun _ => by simp only [List.length_singleton]; omega, by simp only; omega⟩
  · split
    · unfold rNum
      split
      · rename_i h; exact .err (by omega) h
      · rename_i h
        have h1 := all2_lt (Classical.not_not.1 h)
        exact ⟨by simp only [List.length_singleton]; omega, fun _ => by simp only [List.length_singleton]; omega, by simp only; omega⟩
    · split
      · exact .err (by omega) (by decide)
      · split
        · unfold rValid
          split
          · rename_i h; exact .err (by omega) h
          · rename_i h
            have h1 := all2_lt (Classical.not_not.1 h)
            split
            · exact .err (by omega) (by decide)
            · exact ⟨by simp only [List.length_singleton]; omega, fun h => by have := exp_lt h; simp only [List.length_singleton]; omega, by simp only; omega⟩
        · unfold rField
          split
          · rename_i h; exact .err (by omega) h
          · rename_i h
            have h1 := all2_lt (Classical.not_not.1 h)
            split
            · exact .err (by omega) (by decide)
            · simp only
              generalize (if (tkAt ts i).str ≠ metaName then findH p (tkAt ts i).str else -1) = hh
              split
              · exact .err (by omega) (by decide)
              · exact ⟨by simp only [List.length_singleton]; omega, fun _ => by simp only [List.length_singleton]; omega, by simp only; omega⟩
theorem rpre_bd {ts : List Tk} {i j : Nat} {x : NodeD} {a b : Pd} (ha : i + a.n.length < j) (hj : j ≤ ts.length) (h : RBd ts j b) : RBd ts i (rPre x a b) := by
  obtain ⟨h1, h2, h3⟩ := h
  refine ⟨?_, fun he => ?_, ?_⟩
  · simp only [rPre, List.length_cons, List.length_append]; omega
  · have := h2 he
    simp only [rPre, List.length_cons, List.length_append]; omega
  · simp only [rPre]; omega
theorem rexpr_bd {ts : List Tk} {opd : Nat → Pd} (hB : ∀ i, i ≤ ts.length → RBd ts i (opd i)) (i : Nat) (hi : i ≤ ts.length) : RBd ts i (rExprOf opd ts i) := by
  unfold rExprOf
  split
  · rename_i h
    have := sym_lt h
    exact rpre_bd (j := i + 1) (by simp) (by omega) (hB (i + 1) (by omega))
  · simp only
    have hx := hB i hi
    generalize opd i = x at *
    by_cases e0 : x.e = 0
    case neg => rw [if_pos e0]; exact hx
    rw [if_neg (by simpa using e0)]
    obtain ⟨o1, o2⟩ := hx.ok e0
    split
    · rename_i h
      have h0 : x.at_ < ts.length := by rcases h with h | h <;> exact sym_lt h
      split
      · rename_i h; exact .err hi h
      · rename_i h
        have h1 := exp_lt (Classical.not_not.1 h)
        exact rpre_bd (j := x.at_ + 2) (by omega) (by omega) ⟨Nat.zero_le _, fun _ => by simp only [List.length_nil]; omega, by simp only; omega⟩
    · split
      · rename_i h
        have h0 := sym_lt h
        split
        · rename_i h; exact .err hi h
        · rename_i h
          have h1 := all4_lt (Classical.not_not.1 h)
          exact rpre_bd (j := x.at_ + 5) (by omega) (by omega) ⟨Nat.zero_le _, fun _ => by simp only [List.length_nil]; omega, by simp only; omega⟩
      · split
        · rename_i h
          have h0 : x.at_ < ts.length := by
            rcases Nat.lt_or_ge x.at_ ts.length with h1 | h1
            · exact h1
            · rw [rOper, List.getElem?_eq_none h1] at h; exact absurd h (by decide)
          exact rpre_bd (j := x.at_ + 1) (by omega) (by omega) (hB _ (by omega))
        · split
          · rename_i h
            have h0 := sym_lt h
            have hy := hB (x.at_ + 1) (by omega)
            generalize opd (x.at_ + 1) = y at *
            by_cases e1 : y.e = 0
            case neg => rw [if_pos e1]; exact ⟨by have := hy.n; omega, fun h => absurd h e1, by have := hy.top; omega⟩
            rw [if_neg (by simpa using e1)]
            obtain ⟨q1, q2⟩ := hy.ok e1
            split
            · rename_i h; exact ⟨by have := hy.n; simp only; omega, fun h2 => absurd h2 h, by simp only; omega⟩
            · rename_i h
              have h1 := exp_lt (Classical.not_not.1 h)
              have hz := hB (y.at_ + 1) (by omega)
              generalize opd (y.at_ + 1) = z at *
              by_cases e2 : z.e = 0
              case neg => rw [if_pos e2]; exact ⟨by have := hz.n; omega, fun h => absurd h e2, by have := hz.top; omega⟩
              rw [if_neg (by simpa using e2)]
              obtain ⟨r1, r2⟩ := hz.ok e2
              refine ⟨?_, fun he => ?_, ?_⟩
              · simp only [rPre, List.length_cons, List.length_append]; omega
              · simp only [rPre, List.length_cons, List.length_append]; omega
              · simp only [rPre]; omega
          · exact hx
theorem ropd_bd (p : ProgD) (ps : List FieldD) (ts : List Tk) : ∀ (k i : Nat), i ≤ ts.length → RBd ts i (rOpd p ps ts k i)
  | 0, i, hi => by
    rw [rOpd]
    split
    · exact .err hi (by decide)
    · exact rprim_bd p ps ts i (by omega)
  | k + 1, i, hi => by
    rw [rOpd]
    split
    · exact .err hi (by decide)
    · split
      · simp only
        have h := rexpr_bd (fun i hi => ropd_bd p ps ts k i hi) (i + 1) (by omega)
        generalize rExprOf (rOpd p ps ts k) ts (i + 1) = x at *
        obtain ⟨h1, h2, h3⟩ := h
        refine ⟨by simp only; omega, fun he => ?_, by simp only; omega⟩
        simp only at he ⊢
        by_cases e0 : x.e = 0
        · rw [if_pos e0] at he
          have := h2 e0
          have := exp_lt he
          omega
        · rw [if_neg e0] at he; exact absurd he e0
      · exact rprim_bd p ps ts i (by omega)
end Go.Proofs.YtpomjcndeanjgaaGreatDoor
namespace Go.Proofs.YtpomjcndeanjgaaGreatDoor
open Go.RowKit
theorem txr_eq (l : List UInt8) (s : ByteArray) : (l == s.toList) = decide (l = s.data.toList) := by
  rw [toList_data, Bool.eq_iff_iff, beq_iff_eq, decide_eq_true_iff]
theorem txr_true {l : List UInt8} {s : ByteArray} (h : l = s.data.toList) : (l == s.toList) = true := by rw [txr_eq, decide_eq_true h]
theorem txr_false {l : List UInt8} {s : ByteArray} (h : ¬ l = s.data.toList) : (l == s.toList) = false := by rw [txr_eq, decide_eq_false h]
theorem retr_b {a b : Bool} (h : a = b) : Ending.returned (.bool a) = .returned (.bool b) := by rw [h]
set_option maxRecDepth 100000 in
set_option maxHeartbeats 2000000 in
theorem rsym_any (x : L Tk) (i : Nat) (s : ByteArray) (w : World) (h : LOk w 4 tkL x) :
    Calls Tryz.prog 65 #[.slice x.A x.l.length x.c, .int .i64 i, .string s] w fun e w' => e = .returned (.bool (isSym x.l s.data.toList i)) ∧ w = w' := by
  have hm := h.1
  unfold maxLen at hm
  by_cases hi : i < x.l.length
  case neg =>
    have HR : Hid (isSym x.l s.data.toList i = false) := Lib.hid (sym_none (by omega))
    rw [HR.out]
    have hi' : decide (i < x.l.length) = false := decide_eq_false (by omega)
    clear HR h
    go_enter Tryz.func65, Tryz.ntmps65
    go_wp2
    go_ret
    exact ⟨rfl, rfl⟩
  obtain ⟨g, of, hA, hq⟩ := TkD.atA h hi
  obtain ⟨d0, d1, d2, d3⟩ := hq w (Below.refl _ _)
  have HR : Hid (isSym x.l s.data.toList i = (decide (x.l[i].kind = 3) && decide (x.l[i].text = s.data.toList))) := Lib.hid (sym_some (List.getElem?_eq_getElem hi))
  have hi' : decide (i < x.l.length) = true := decide_eq_true (by omega)
  have hii : (i : Int) < (x.l.length : Int) := by omega
  rw [HR.out, hA]
  generalize x.l[i] = t at *
  obtain ⟨tk, tx, tv, tl⟩ := t
  simp only at d0 d1 ⊢
  clear HR hq d2 d3 hA hi h
  by_cases hk : tk = 3
  · subst hk
    go_enter Tryz.func65, Tryz.ntmps65
    go_wp2
    go_ret
    exact ⟨retr_b (by rw [txr_eq]; rfl), rfl⟩
  · have hk' : ((tk : Int) == 3) = false := beq_eq_false_iff_ne.2 (by omega)
    rw [decide_eq_false hk]
    clear hk
    go_enter Tryz.func65, Tryz.ntmps65
    go_wp2
    go_ret
    exact ⟨rfl, rfl⟩
theorem str_emp (s : ByteArray) (h : s.data.toList = []) : s = ⟨#[]⟩ := by
  apply ByteArray.ext
  apply Array.ext'
  rw [h]
set_option maxRecDepth 100000 in
set_option maxHeartbeats 4000000 in
theorem rexp_any (x : L Tk) (i k : Nat) (s : ByteArray) (w : World) (h : LOk w 4 tkL x) :
    Calls Tryz.prog 68 #[.slice x.A x.l.length x.c, .int .i64 i, .int .i64 k, .string s] w fun e w' => e = .returned (.int .i64 (expR x.l i k s.data.toList)) ∧ w = w' := by
  have hm := h.1
  unfold maxLen at hm
  by_cases hi : i < x.l.length
  case neg =>
    have HR : Hid (expR x.l i k s.data.toList = 3) := Lib.hid (exp_none (by omega))
    rw [HR.out]
    have hi' : decide (x.l.length ≤ i) = true := decide_eq_true (by omega)
    clear HR h
    go_enter Tryz.func68, Tryz.ntmps68
    go_wp2
    go_ret
    exact ⟨rfl, rfl⟩
  obtain ⟨g, of, hA, hq⟩ := TkD.atA h hi
  obtain ⟨d0, d1, d2, d3⟩ := hq w (Below.refl _ _)
  have HR : Hid (expR x.l i k s.data.toList = if x.l[i].kind ≠ k ∨ (s.data.toList ≠ [] ∧ x.l[i].text ≠ s.data.toList) then 5 else 0) := Lib.hid (exp_some (List.getElem?_eq_getElem hi))
  have hi' : decide (x.l.length ≤ i) = false := decide_eq_false (by omega)
  have hii : (i : Int) < (x.l.length : Int) := by omega
  rw [HR.out, hA]
  generalize x.l[i] = t at *
  obtain ⟨tk, tx, tv, tl⟩ := t
  simp only at d0 d1 ⊢
  clear HR hq d2 d3 hA hi h
  by_cases hk : tk = k
  case neg =>
    have hk' : ((tk : Int) != (k : Int)) = true := bne_iff_ne.2 (by omega)
    rw [if_pos (.inl hk)]
    clear hk
    go_enter Tryz.func68, Tryz.ntmps68
    go_wp2
    go_ret
    exact ⟨rfl, rfl⟩
  subst hk
  by_cases hs : s.data.toList = []
  · obtain rfl := str_emp s hs
    rw [if_neg (by rintro (h | ⟨h, _⟩) <;> exact h rfl)]
    clear hs
    go_enter Tryz.func68, Tryz.ntmps68
    go_wp2
    go_ret
    exact ⟨rfl, rfl⟩
  have hs' : (s.toList == []) = false := by rw [toList_data]; exact beq_eq_false_iff_ne.2 hs
  by_cases ht : tx = s.data.toList
  · have ht' := txr_true ht
    rw [if_neg (by rintro (h | ⟨_, h⟩); exact h rfl; exact h ht)]
    clear ht hs
    go_enter Tryz.func68, Tryz.ntmps68
    go_wp2
    go_ret
    exact ⟨rfl, rfl⟩
  · have ht' := txr_false ht
    rw [if_pos (.inr ⟨hs, ht⟩)]
    clear ht hs
    go_enter Tryz.func68, Tryz.ntmps68
    go_wp2
    go_ret
    exact ⟨rfl, rfl⟩
end Go.Proofs.YtpomjcndeanjgaaGreatDoor
namespace Go.Proofs.YtpomjcndeanjgaaGreatDoor
open Go.RowKit
def stCell (s : ByteArray) : List Value := [.string s]
def qK (qs : List (Nat × List UInt8)) : List Int := qs.map fun q => (q.1 : Int)
def qT (qs : List (Nat × List UInt8)) : List ByteArray := qs.map fun q => ⟨q.2.toArray⟩
theorem all_step {ts : List Tk} {i k : Nat} {qs : List (Nat × List UInt8)} (h : k < qs.length) : expAll ts (i + k) (qs.drop k) = if expR ts (i + k) qs[k].1 qs[k].2 ≠ 0 then expR ts (i + k) qs[k].1 qs[k].2 else expAll ts (i + (k + 1)) (qs.drop (k + 1)) := by
  rw [List.drop_eq_getElem_cons h, expAll]; rfl
theorem wrap_add {i k : Nat} (h : i + k ≤ 9223372036854775807) : IntKind.i64.wrap ((i : Int) + (k : Int)) = ((i + k : Nat) : Int) := by
  rw [IntWalk.i64_in _ (by omega)]; rfl
set_option maxRecDepth 100000 in
set_option maxHeartbeats 4000000 in
theorem rexpAll_any (x : L Tk) (i : Nat) (qs : List (Nat × List UInt8)) (A B : Option Addr) (c d : Nat) (w : World) (h : LOk w 4 tkL x) (hA : LOk w 1 icell ⟨qK qs, A, c⟩) (hB : LOk w 1 stCell ⟨qT qs, B, d⟩) (hi : i ≤ 10000) (hq : qs.length ≤ 10) :
    Calls Tryz.prog 69 #[.slice x.A x.l.length x.c, .int .i64 i, .slice A qs.length c, .slice B qs.length d] w fun e w' => e = .returned (.int .i64 (expAll x.l i qs)) ∧ Below w.heap.size w w' := by
  have HX := Lib.hid h
  have HA := Lib.hid hA
  have HB := Lib.hid hB
  have HLA : Hid ((qK qs).length = qs.length) := Lib.hid (by simp [qK])
  have HLB : Hid ((qT qs).length = qs.length) := Lib.hid (by simp [qT])
  clear h hA hB
  go_enter Tryz.func69, Tryz.ntmps69
  go_wp2
  go_loopw [9] (fun iv wr => ∃ k : Nat, k ≤ qs.length ∧ iv = .int .i64 k ∧ Hid (expAll x.l i qs = expAll x.l (i + k) (qs.drop k)) ∧ Below w.heap.size w wr) (fun iv _ => qs.length - (intOf iv).toNat)
  case atStart => exact ⟨0, Nat.zero_le _, rfl, Lib.hid rfl, Below.refl _ _⟩
  case round =>
  obtain ⟨k, hk, rfl, HG, hbel⟩ := hrel
  by_cases hlt : k < qs.length
  · have HS := Lib.hid (HG.out.trans (all_step hlt))
    have hka : k < (qK qs).length := by rw [HLA.out]; exact hlt
    have hkb : k < (qT qs).length := by rw [HLB.out]; exact hlt
    obtain ⟨g, of, hgA, _, hcA⟩ := HA.out.at hka
    obtain ⟨g2, of2, hgB, _, hcB⟩ := HB.out.at hkb
    have d0 : wr.cell? ⟨g, of + k, none⟩ = some (.int .i64 qs[k].1) := by
      have := below_cell hbel (hcA 0 (by omega))
      simpa [qK, icell] using this
    have e0 : wr.cell? ⟨g2, of2 + k, none⟩ = some (.string ⟨qs[k].2.toArray⟩) := by
      have := below_cell hbel (hcB 0 (by omega))
      simpa [qT, stCell] using this
    simp only at hgA hgB
    subst hgA hgB
    have HC : Hid (∀ n, Calls Tryz.prog 68 #[.slice x.A x.l.length x.c, .int .i64 ((i + k : Nat) : Int), .int .i64 qs[k].1, .string ⟨qs[k].2.toArray⟩] (wr.drewN n) fun e w' => e = .returned (.int .i64 (expR x.l (i + k) qs[k].1 qs[k].2)) ∧ ∃ q, w' = (wr.drewN n).drewN q) :=
      Lib.hid (fun n => (rexp_any x (i + k) qs[k].1 ⟨qs[k].2.toArray⟩ (wr.drewN n) (HX.out.below (below_drewN hbel n) (Nat.le_refl _))).mono fun _ _ ⟨h1, h2⟩ => ⟨h1, 0, h2.symm⟩)
    have hwr := wrap_add (i := i) (k := k) (by omega)
    have hlt' : (k : Int) < (qs.length : Int) := by omega
    generalize expR x.l (i + k) qs[k].1 qs[k].2 = r at *
    generalize qs[k].1 = q1 at *
    generalize (⟨qs[k].2.toArray⟩ : ByteArray) = q2 at *
    generalize i + k = ik at *
    clear HG hcA hcB hka hkb
    by_cases hr : r = 0
    case neg =>
      have HR : Hid (expAll x.l i qs = r) := Lib.hid (by rw [HS.out, if_pos hr])
      have hr' : (r != 0) = true := bne_iff_ne.2 hr
      clear HS hr
      go_wp2
      go_quiet (first | (go_at_call 68; refine Calls.quiet_of (HC.out _)))
      go_wp2
      go_ret
      exact ⟨by rw [HR.out]; rfl, below_drewN hbel _⟩
    subst hr
    have HR : Hid (expAll x.l i qs = expAll x.l (i + (k + 1)) (qs.drop (k + 1))) := Lib.hid (by rw [HS.out, if_neg (by simp)])
    clear HS
    go_wp2
    go_quiet (first | (go_at_call 68; refine Calls.quiet_of (HC.out _)))
    go_wp2
    go_roundw
    case rel => exact ⟨k + 1, by omega, by go_num, HR, below_drewN hbel _⟩
    case measure => simp [intOf]; omega
  · have hk' : k = qs.length := by omega
    subst hk'
    have HR : Hid (expAll x.l i qs = 0) := Lib.hid (by rw [HG.out, List.drop_length]; rfl)
    go_wp2
    go_ret
    exact ⟨by rw [HR.out]; rfl, hbel⟩
theorem rlies_one (w : World) (y : NodeD) : LOk (w.alloc (.cells #[.int .i64 y.op, .int .i64 y.n, .int .i64 y.w] 65)) 3 NodeD.cells ⟨[y], some ⟨w.heap.size, 0, none⟩, 1⟩ := by
  obtain ⟨A', c', e, _, h1, h2, h3⟩ := own_list (l := [y]) (cells := NodeD.cells) (fun _ => rfl) (own_one w w.heap.size 65 (.int .i64 y.op) (.int .i64 y.n) (.int .i64 y.w) (Nat.le_refl _))
  cases e
  exact h1
theorem boxR (w : World) (cs : Array Value) (t : TypeId) (cs2 : Array Value) (t2 : TypeId) : ∃ W, W = (w.alloc (.cells cs t)).alloc (.cells cs2 t2) ∧ Below w.heap.size w W ∧ W.heap.size = w.heap.size + 2 ∧ Blk W w.heap.size t cs ∧ Blk W (w.heap.size + 1) t2 cs2 :=
  ⟨_, rfl, below2 _ _ _, by simp, (Blk.new _ _ _).alloc _, by simpa using Blk.new (w.alloc (.cells cs t)) t2 cs2⟩
theorem rput3 {w : World} {k : Nat} {ty : TypeId} {a b c : Value} (h : Blk w k ty #[a, b, c]) (x y z : Value) :
    Blk (((w.setCell ⟨k, 0, none⟩ x).setCell ⟨k, 1, none⟩ y).setCell ⟨k, 2, none⟩ z) k ty #[x, y, z] := ((h.set_ 0 x).set_ 1 y).set_ 2 z
theorem rput3_below {w w1 : World} {B k : Nat} (hb : Below B w w1) (hk : B ≤ k) (x y z : Value) : Below B w (((w1.setCell ⟨k, 0, none⟩ x).setCell ⟨k, 1, none⟩ y).setCell ⟨k, 2, none⟩ z) := ((hb.setCell hk _).setCell hk _).setCell hk _
theorem lok_put3 {w : World} {k : Nat} {x : L NodeD} (h : LOk w 3 NodeD.cells x) (hne : ∀ a, x.A = some a → a.block ≠ k) (a b c : Value) : LOk (((w.setCell ⟨k, 0, none⟩ a).setCell ⟨k, 1, none⟩ b).setCell ⟨k, 2, none⟩ c) 3 NodeD.cells x := by
  refine ⟨h.1, ?_⟩
  rcases h.2 with h0 | ⟨g, o, e, hx, hc⟩
  · exact .inl h0
  · have hn := hne _ e
    have hg : w.grownBy (((w.setCell ⟨k, 0, none⟩ a).setCell ⟨k, 1, none⟩ b).setCell ⟨k, 2, none⟩ c) (some k) := gr_set (gr_set (gr_set (gr_refl w (some k)) a) b) c
    refine .inr ⟨g, o, e, Nat.lt_of_lt_of_le hx hg.size, fun i hi j hj => ?_⟩
    rw [← hc i hi j hj]
    unfold World.cell?
    rw [hg.block g hx (fun e => hn (Option.some.inj e))]
structure RG (w : World) (R : Pd) (r : Ending) (w' : World) : Prop where
  intro ::
  ex : ∃ A c, r = .returned (.agg #[.slice A R.n.length c, .int .i64 R.at_, .int .i64 R.e]) ∧ LOk w' 3 NodeD.cells ⟨R.n, A, c⟩ ∧ (A = none → c = 0) ∧ ∀ a, A = some a → w.heap.size ≤ a.block
  below : Below w.heap.size w w'
theorem RG.fin {w V : World} {k : Nat} {R : Pd} {A : Option Addr} {c : Nat} {r : Ending} (hk : w.heap.size ≤ k) (hb : Below w.heap.size w V) (hl : LOk V 3 NodeD.cells ⟨R.n, A, c⟩) (hn : A = none → c = 0) (hf : ∀ a, A = some a → w.heap.size ≤ a.block ∧ a.block ≠ k)
    (x y z : Value) (hr : r = .returned (.agg #[.slice A R.n.length c, .int .i64 R.at_, .int .i64 R.e])) : RG w R r (((V.setCell ⟨k, 0, none⟩ x).setCell ⟨k, 1, none⟩ y).setCell ⟨k, 2, none⟩ z) :=
  ⟨⟨A, c, hr, lok_put3 hl (fun a h => (hf a h).2) _ _ _, hn, fun a h => (hf a h).1⟩, rput3_below hb hk _ _ _⟩
set_option maxRecDepth 100000 in
set_option maxHeartbeats 4000000 in
theorem rsingle_any (y : NodeD) (i k : Nat) (w : World) (hi : i + k ≤ 100000) :
    Calls Tryz.prog 96 #[.agg #[.int .i64 y.op, .int .i64 y.n, .int .i64 y.w], .int .i64 i, .int .i64 k] w (RG w ⟨[y], i + k, 0⟩) := by
  obtain ⟨op, n, wd⟩ := y
  obtain ⟨W, hW, hw, hsz, hb1, hb2⟩ := boxR w #[.int .i64 op, .int .i64 n, .int .i64 wd] 65 #[.slice none 0 0, .int .i64 0, .int .i64 0] 88
  have HW := Lib.hid hw
  have HRB := Lib.hid hb2
  have hwr := wrap_add (i := i) (k := k) (by omega)
  have c0 : W.cell? ⟨w.heap.size, 0, none⟩ = some (.int .i64 op) := hb1.cell 0
  have c1 : W.cell? ⟨w.heap.size, 1, none⟩ = some (.int .i64 n) := hb1.cell 1
  have c2 : W.cell? ⟨w.heap.size, 2, none⟩ = some (.int .i64 wd) := hb1.cell 2
  have HNE : Hid (W.heap.size = w.heap.size + 2) := Lib.hid hsz
  obtain ⟨V, hV⟩ : ∃ V, V = W.alloc (.cells #[.int .i64 op, .int .i64 n, .int .i64 wd] 65) := ⟨_, rfl⟩
  have HV : Hid (Below W.heap.size W V) := Lib.hid (by rw [hV]; exact below1 _ _)
  have HL : Hid (LOk V 3 NodeD.cells ⟨[⟨op, n, wd⟩], some ⟨W.heap.size, 0, none⟩, 1⟩) := Lib.hid (by rw [hV]; exact rlies_one W ⟨op, n, wd⟩)
  have HRV := Lib.hid (hb2.below HV.out hb2.lt)
  have r0 : V.cell? ⟨w.heap.size + 1, 0, none⟩ = some (.slice none 0 0) := HRV.out.cell 0
  have r1 : V.cell? ⟨w.heap.size + 1, 1, none⟩ = some (.int .i64 0) := HRV.out.cell 1
  have r2 : V.cell? ⟨w.heap.size + 1, 2, none⟩ = some (.int .i64 0) := HRV.out.cell 2
  have g0 : V.frozen? ⟨w.heap.size + 1, 0, none⟩ = false := HRV.out.frozen 0
  have g1 : V.frozen? ⟨w.heap.size + 1, 1, none⟩ = false := HRV.out.frozen 1
  have g2 : V.frozen? ⟨w.heap.size + 1, 2, none⟩ = false := HRV.out.frozen 2
  clear hw hsz hb1 hb2
  subst hV
  go_enter Tryz.func96, Tryz.ntmps96
  go_upto_region 1 with fail
  rw [← hW]
  clear hW
  go_wp2
  refine bodyPost_ret (v := .agg #[.slice (some ⟨W.heap.size, 0, none⟩) 1 1, .int .i64 ((i : Int) + k), .int .i64 0]) ?_ rfl ?_
  · exact results_cell_row (fn := Tryz.f96) (p := 6) (ty := 88) rfl _ _ (w.heap.size + 1) 88 #[.slice (some ⟨W.heap.size, 0, none⟩) 1 1, .int .i64 ((i : Int) + k), .int .i64 0] (0, 0) _ rfl (rput3 HRV.out _ _ _) Tryz.underlying88 rfl (by kernel_rfl)
  · exact RG.fin (A := some ⟨W.heap.size, 0, none⟩) (c := 1) (Nat.le_succ _) (below_step HW.out HV.out) HL.out (fun h => by cases h) (fun a h => by cases h; have := HNE.out; simp only; omega) _ _ _ rfl
end Go.Proofs.YtpomjcndeanjgaaGreatDoor
namespace Go.Proofs.YtpomjcndeanjgaaGreatDoor
open Go.RowKit
set_option maxHeartbeats 400000 in
theorem rdig5R_any (c : Int) (w : World) :
    Calls Tryz.prog 83 #[.int .u8 c] w fun e w' => e = .returned (.bool (isDig c)) ∧ w = w' := by
  go_enter Tryz.func83, Tryz.ntmps83
  go_wp2
  all_goals (go_ret; exact ⟨ret_bool (by rw [Bool.eq_iff_iff]; simp [isDig]; omega), rfl⟩)
theorem isWord_letR {c : Int} (h : isLet c = true) : isWord c = true := by rw [isWord, h]; rfl
theorem ext_stepR {p : Int → Bool} {l : List UInt8} {k : Nat} (hk : k ≤ ext p l) (hlt : k < l.length) (hp : p ((l[k]'hlt).toNat : Nat) = true) : k + 1 ≤ ext p l := by
  rcases Nat.lt_or_ge k (ext p l) with h | h
  · exact h
  · have e : ext p l = k := by omega
    have := ext_stop p l (by omega)
    simp only [e] at this
    rw [hp] at this
    cases this
theorem ext_endR {p : Int → Bool} {l : List UInt8} {k : Nat} (hk : k ≤ ext p l) (hlt : k < l.length) (hp : p ((l[k]'hlt).toNat : Nat) = false) : ext p l = k := by
  rcases Nat.lt_or_ge k (ext p l) with h | h
  · have := ext_all p l k h
    rw [hp] at this; cases this
  · omega
set_option maxRecDepth 100000 in
set_option maxHeartbeats 2000000 in
theorem risIdent_any (s : ByteArray) (w : World) (hs : s.size ≤ maxLen) :
    Calls Tryz.prog 42 #[.string s] w fun e w' => e = .returned (.bool (identM s.data.toList)) ∧ w = w' := by
  unfold maxLen at hs
  rcases Nat.eq_zero_or_pos s.size with hz | h0
  · have hz' : s.data.toList = [] := List.eq_nil_of_length_eq_zero hz
    have HZ := Lib.hid hz'
    have h1 : s.toList = [] := by rw [toList_data, hz']
    clear hz hz'
    go_enter Tryz.func42, Tryz.ntmps42
    go_wp2
    go_ret
    exact ⟨by rw [HZ.out]; rfl, rfl⟩
  · have h1 : s.toList.isEmpty = false := by rw [toList_data, list_one s h0]; rfl
    have HI := Lib.hid (identM_head s h0)
    by_cases h16 : 16 < s.size
    · go_enter Tryz.func42, Tryz.ntmps42
      go_wp2
      go_ret
      exact ⟨by rw [HI.out, show decide (s.size ≤ 16) = false from by simp; omega]; rfl, rfl⟩
    · have H16 : Hid (decide (s.size ≤ 16) = true) := Lib.hid (by simp; omega)
      rcases hl : isLet (s[0].toNat : Int) with _ | _
      · have HL := Lib.hid hl
        clear hl
        go_enter Tryz.func42, Tryz.ntmps42
        go_wp2_with fail
        refine (rletter_any _ _).mono ?_
        rintro e w' ⟨rfl, rfl⟩
        have hl := HL.out
        go_wp2
        go_ret
        exact ⟨by rw [HI.out, H16.out, HL.out]; rfl, rfl⟩
      · have HL := Lib.hid hl
        have HM : Hid (identM s.data.toList = decide (ext isWord s.data.toList = s.size)) := Lib.hid (by rw [HI.out, H16.out, hl]; rfl)
        clear hl
        have hle : ext isWord s.data.toList ≤ s.size := ext_le _ _
        go_enter Tryz.func42, Tryz.ntmps42
        go_wp2_with fail
        refine (rletter_any _ _).mono ?_
        rintro e w' ⟨rfl, rfl⟩
        have hl := HL.out
        go_wp2
        clear hl
        go_loop [3] (fun i => ∃ k : Nat, k ≤ ext isWord s.data.toList ∧ i = .int .i64 k) (fun i => s.size - (intOf i).toNat)
        case atStart => exact ⟨0, Nat.zero_le _, rfl⟩
        case round =>
          obtain ⟨k, hk, rfl⟩ := hrel
          by_cases hlt : k < s.size
          · rcases hb1 : isLet (s[k].toNat : Int) with _ | _
            · have HB1 := Lib.hid hb1
              clear hb1
              rcases hb2 : isDig (s[k].toNat : Int) with _ | _
              · have HB2 := Lib.hid hb2
                clear hb2
                rcases hb3 : ((s[k].toNat : Int) == 95) with _ | _
                · have HW : Hid (isWord (s[k].toNat : Int) = false) := Lib.hid (by rw [isWord, HB1.out, HB2.out, hb3]; rfl)
                  have hb3' : ((s[k].toNat : Int) != 95) = true := by rw [bne, hb3]; rfl
                  go_wp2_with fail
                  refine (rletter_any _ _).mono ?_
                  rintro e w' ⟨rfl, rfl⟩
                  have hb1 := HB1.out
                  go_wp2_with fail
                  refine (rdig5R_any _ _).mono ?_
                  rintro e w' ⟨rfl, rfl⟩
                  have hb2 := HB2.out
                  go_wp2
                  go_ret
                  refine ⟨ret_bool ?_, rfl⟩
                  have := ext_endR hk hlt HW.out
                  rw [HM.out, eq_comm]
                  show decide _ = false
                  rw [decide_eq_false_iff_not]; omega
                · have HW : Hid (isWord (s[k].toNat : Int) = true) := Lib.hid (by rw [isWord, hb3, Bool.or_true])
                  have hb3' : ((s[k].toNat : Int) != 95) = false := by rw [bne, hb3]; rfl
                  go_wp2_with fail
                  refine (rletter_any _ _).mono ?_
                  rintro e w' ⟨rfl, rfl⟩
                  have hb1 := HB1.out
                  go_wp2_with fail
                  refine (rdig5R_any _ _).mono ?_
                  rintro e w' ⟨rfl, rfl⟩
                  have hb2 := HB2.out
                  go_wp2
                  go_round
                  case rel => exact ⟨k + 1, ext_stepR hk hlt HW.out, by go_num⟩
                  case measure => simp [intOf]; omega
              · have HB2 := Lib.hid hb2
                clear hb2
                have HW : Hid (isWord (s[k].toNat : Int) = true) := Lib.hid (by rw [isWord, HB2.out, Bool.or_true, Bool.true_or])
                go_wp2_with fail
                refine (rletter_any _ _).mono ?_
                rintro e w' ⟨rfl, rfl⟩
                have hb1 := HB1.out
                go_wp2_with fail
                refine (rdig5R_any _ _).mono ?_
                rintro e w' ⟨rfl, rfl⟩
                have hb2 := HB2.out
                go_wp2
                go_round
                case rel => exact ⟨k + 1, ext_stepR hk hlt HW.out, by go_num⟩
                case measure => simp [intOf]; omega
            · have HB1 := Lib.hid hb1
              clear hb1
              have HW : Hid (isWord (s[k].toNat : Int) = true) := Lib.hid (isWord_letR HB1.out)
              go_wp2_with fail
              refine (rletter_any _ _).mono ?_
              rintro e w' ⟨rfl, rfl⟩
              have hb1 := HB1.out
              go_wp2
              go_round
              case rel => exact ⟨k + 1, ext_stepR hk hlt HW.out, by go_num⟩
              case measure => simp [intOf]; omega
          · go_wp2
            go_ret
            refine ⟨ret_bool ?_, rfl⟩
            rw [HM.out, eq_comm]
            show decide _ = true
            rw [decide_eq_true_iff]; omega
end Go.Proofs.YtpomjcndeanjgaaGreatDoor
namespace Go.Proofs.YtpomjcndeanjgaaGreatDoor
open Go.RowKit
set_option maxHeartbeats 400000 in
theorem rdec32_any (v : Nat) (hv : v < 4294967296) (w : World) : Calls Tryz.prog 84 #[.int .u32 v] w fun e w' => e = .returned (.string ⟨(dec v).toArray⟩) ∧ Below w.heap.size w w' := by
  go_enter Tryz.func84, Tryz.ntmps84
  go_wp2_with fail
  refine (rdigits_any 19 v _ (by omega) (by omega) (by omega)).mono ?_
  rintro e w1 ⟨rfl, hb1⟩
  go_wp2
  go_ret
  exact ⟨rfl, hb1⟩
set_option maxHeartbeats 400000 in
theorem rdec_any (n : Int) (h0 : 0 ≤ n) (h1 : n ≤ 4294967295) (w : World) : Calls Tryz.prog 44 #[.int .i64 n] w fun e w' => e = .returned (.string (decB n)) ∧ Below w.heap.size w w' := by
  obtain ⟨k, rfl⟩ : ∃ k : Nat, n = k := ⟨n.toNat, (Int.toNat_of_nonneg h0).symm⟩
  have HR : Hid (decB k = ⟨(dec k).toArray⟩) := Lib.hid rfl
  go_enter Tryz.func44, Tryz.ntmps44
  go_wp2_with fail
  refine (rdec32_any k (by omega) _).mono ?_
  rintro e w1 ⟨rfl, hb1⟩
  go_wp2
  go_ret
  exact ⟨by rw [HR.out]; rfl, hb1⟩
set_option maxRecDepth 100000 in
set_option maxHeartbeats 2000000 in
theorem rfindField_any (x : L FieldD) (s : ByteArray) (w : World) (h : LOk w 2 FieldD.cells x) :
    Calls Tryz.prog 43 #[.slice x.A x.l.length x.c, .string s] w fun e w' => e = .returned (.int .i64 (Lib.idxOfS (fNames x.l) s)) ∧ w = w' := by
  have HX := Lib.hid h
  have hm := h.1
  unfold maxLen at hm
  have HH : Hid (∀ k (hk : k < x.l.length), x.l[k].name = s → (∀ j (hj : j < x.l.length), j < k → x.l[j].name ≠ s) → Lib.idxOfS (fNames x.l) s = k) := Lib.hid (fun k hk h1 h2 =>
    idx_hit (by simpa [fNames] using hk) (by simpa [fNames] using h1) (fun j hj hjk => by simpa [fNames] using h2 j (by simpa [fNames] using hj) hjk))
  have HM : Hid ((∀ j (hj : j < x.l.length), x.l[j].name ≠ s) → Lib.idxOfS (fNames x.l) s = -1) := Lib.hid (fun h2 => idx_miss (fun j hj => by simpa [fNames] using h2 j (by simpa [fNames] using hj)))
  clear h
  generalize Lib.idxOfS (fNames x.l) s = R at *
  go_enter Tryz.func43, Tryz.ntmps43
  go_wp2
  go_loop [5] (fun iv => ∃ k : Nat, k ≤ x.l.length ∧ iv = .int .i64 k ∧ Hid (∀ j (hj : j < x.l.length), j < k → x.l[j].name ≠ s)) (fun i => x.l.length - (intOf i).toNat)
  case atStart => exact ⟨0, Nat.zero_le _, rfl, Lib.hid (fun j _ h => absurd h (Nat.not_lt_zero _))⟩
  case round =>
  obtain ⟨k, hk, rfl, HP⟩ := hrel
  by_cases hlt : k < x.l.length
  case neg =>
    have HR := Lib.hid (HM.out (fun j hj => HP.out j hj (by omega)))
    go_wp2
    go_ret
    exact ⟨by rw [HR.out]; rfl, rfl⟩
  obtain ⟨g, of, hA, d0, d1⟩ := FieldD.at HX.out hlt
  simp only [hA]
  by_cases hy : x.l[k].name = s
  · have HR := Lib.hid (HH.out k hlt hy HP.out)
    have hy' := toList_true hy
    clear hy
    generalize x.l[k] = y at *
    clear HP
    go_wp2
    go_ret
    exact ⟨by rw [HR.out]; rfl, rfl⟩
  · have HP2 : Hid (∀ j (hj : j < x.l.length), j < k + 1 → x.l[j].name ≠ s) := Lib.hid (fun j hj h => by
      rcases Nat.lt_succ_iff_lt_or_eq.1 h with h | rfl
      · exact HP.out j hj h
      · exact hy)
    have hy' := toList_false hy
    clear hy
    generalize x.l[k] = y at *
    clear HP
    go_wp2
    go_round
    case rel => exact ⟨k + 1, by omega, by go_num, HP2⟩
    case measure => simp [intOf]; omega
set_option maxRecDepth 100000 in
set_option maxHeartbeats 2000000 in
theorem rfindHeader_any (p : ProgD) (ps : L FieldD) (s : ByteArray) (w : World) (o : ProgOk w p) :
    Calls Tryz.prog 81 #[.agg (scopeCells p ps), .string s] w fun e w' => e = .returned (.int .i64 (Lib.idxOfS (hNames p) s)) ∧ Below w.heap.size w w' := by
  obtain ⟨W, hW, hw, HB, hp⟩ := box1 w (scopeCells p ps) 44
  have HW := Lib.hid hw
  have HX := Lib.hid (o.headers.below hw (Nat.le_refl _))
  have hm := o.headers.1
  unfold maxLen at hm
  have hp3 := hp W HB
  clear o hw hp
  have HH : Hid (∀ k (hk : k < p.headers.l.length), p.headers.l[k].name = s → (∀ j (hj : j < p.headers.l.length), j < k → p.headers.l[j].name ≠ s) → Lib.idxOfS (hNames p) s = k) := Lib.hid (fun k hk h1 h2 =>
    idx_hit (by simpa [hNames] using hk) (by simpa [hNames] using h1) (fun j hj hjk => by simpa [hNames] using h2 j (by simpa [hNames] using hj) hjk))
  have HM : Hid ((∀ j (hj : j < p.headers.l.length), p.headers.l[j].name ≠ s) → Lib.idxOfS (hNames p) s = -1) := Lib.hid (fun h2 => idx_miss (fun j hj => by simpa [hNames] using h2 j (by simpa [hNames] using hj)))
  generalize Lib.idxOfS (hNames p) s = R at *
  go_enter Tryz.func81, Tryz.ntmps81
  go_upto_region 1 with fail
  rw [← hW]
  clear hW HB
  go_wp2
  go_loop [5] (fun iv => ∃ k : Nat, k ≤ p.headers.l.length ∧ iv = .int .i64 k ∧ Hid (∀ j (hj : j < p.headers.l.length), j < k → p.headers.l[j].name ≠ s)) (fun i => p.headers.l.length - (intOf i).toNat)
  case atStart => exact ⟨0, Nat.zero_le _, rfl, Lib.hid (fun j _ h => absurd h (Nat.not_lt_zero _))⟩
  case round =>
  obtain ⟨k, hk, rfl, HP⟩ := hrel
  by_cases hlt : k < p.headers.l.length
  case neg =>
    have HR := Lib.hid (HM.out (fun j hj => HP.out j hj (by omega)))
    go_wp2
    go_ret
    exact ⟨by rw [HR.out]; rfl, HW.out⟩
  obtain ⟨g, of, hA, hall⟩ := HeaderD.atA HX.out hlt
  obtain ⟨d0, d1⟩ := hall W (Below.refl _ _)
  simp only [scopeCells, hA] at hp3 ⊢
  by_cases hy : p.headers.l[k].name = s
  · have HR := Lib.hid (HH.out k hlt hy HP.out)
    have hy' := toList_true hy
    clear hy hall
    generalize p.headers.l[k] = y at *
    clear HP
    go_wp2
    go_ret
    exact ⟨by rw [HR.out]; rfl, HW.out⟩
  · have HP2 : Hid (∀ j (hj : j < p.headers.l.length), j < k + 1 → p.headers.l[j].name ≠ s) := Lib.hid (fun j hj h => by
      rcases Nat.lt_succ_iff_lt_or_eq.1 h with h | rfl
      · exact HP.out j hj h
      · exact hy)
    have hy' := toList_false hy
    clear hy hall
    generalize p.headers.l[k] = y at *
    clear HP
    go_wp2
    go_round
    case rel => exact ⟨k + 1, by omega, by go_num, HP2⟩
    case measure => simp [intOf]; omega
set_option maxRecDepth 100000 in
set_option maxHeartbeats 2000000 in
theorem rheader_any (p : ProgD) (ps : L FieldD) (h : Int) (w : World) (o : ProgOk w p) (hh : h = -1 ∨ (0 ≤ h ∧ h.toNat < p.headers.l.length)) :
    Calls Tryz.prog 45 #[.agg (scopeCells p ps), .int .i64 h] w fun e w' => e = .returned (.string (hdrB p h)) ∧ Below w.heap.size w w' := by
  obtain ⟨W, hW, hw, HB, hp⟩ := box1 w (scopeCells p ps) 44
  have HW := Lib.hid hw
  have HX := Lib.hid (o.headers.below hw (Nat.le_refl _))
  have hp3 := hp W HB
  have hm := o.headers.1
  unfold maxLen at hm
  clear o hw hp
  rcases hh with rfl | ⟨h0, h1⟩
  · have HR : Hid (hdrB p (-1) = ⟨#[109, 101, 116, 97]⟩) := Lib.hid rfl
    rw [HR.out]
    go_enter Tryz.func45, Tryz.ntmps45
    go_upto_region 1 with fail
    rw [← hW]
    clear hW HB
    go_wp2
    go_ret
    exact ⟨rfl, HW.out⟩
  · obtain ⟨k, rfl⟩ : ∃ k : Nat, h = k := ⟨h.toNat, (Int.toNat_of_nonneg h0).symm⟩
    have hk : k < p.headers.l.length := by simpa using h1
    have hki : (k : Int) < (p.headers.l.length : Int) := by omega
    rw [(hdr_at' p hk).1]
    obtain ⟨g, of, hA, hall⟩ := HeaderD.atA HX.out hk
    obtain ⟨d0, d1⟩ := hall W (Below.refl _ _)
    clear hall
    generalize p.headers.l[k] = y at *
    go_enter Tryz.func45, Tryz.ntmps45
    go_upto_region 1 with fail
    rw [← hW]
    clear hW HB
    simp only [scopeCells, hA] at hp3 ⊢
    clear hA HX
    go_wp2
    go_ret
    exact ⟨rfl, HW.out⟩
set_option maxRecDepth 100000 in
set_option maxHeartbeats 2000000 in
theorem rfields_any (p : ProgD) (ps : L FieldD) (h : Int) (w : World) (o : ProgOk w p) (hh : h = -1 ∨ (0 ≤ h ∧ h.toNat < p.headers.l.length)) :
    Calls Tryz.prog 40 #[.agg (scopeCells p ps), .int .i64 h] w fun e w' => e = .returned (.slice (fldsL p h).A (fldsL p h).l.length (fldsL p h).c) ∧ Below w.heap.size w w' := by
  obtain ⟨W, hW, hw, HB, hp⟩ := box1 w (scopeCells p ps) 44
  have HW := Lib.hid hw
  have HX := Lib.hid (o.headers.below hw (Nat.le_refl _))
  have hp3 := hp W HB
  have hm := o.headers.1
  unfold maxLen at hm
  clear o hw hp
  rcases hh with rfl | ⟨h0, h1⟩
  · rw [show fldsL p (-1) = p.metadata from rfl]
    go_enter Tryz.func40, Tryz.ntmps40
    go_upto_region 1 with fail
    rw [← hW]
    clear hW HB
    go_wp2
    go_ret
    exact ⟨rfl, HW.out⟩
  · obtain ⟨k, rfl⟩ : ∃ k : Nat, h = k := ⟨h.toNat, (Int.toNat_of_nonneg h0).symm⟩
    have hk : k < p.headers.l.length := by simpa using h1
    have hki : (k : Int) < (p.headers.l.length : Int) := by omega
    rw [(hdr_at' p hk).2]
    obtain ⟨g, of, hA, hall⟩ := HeaderD.atA HX.out hk
    obtain ⟨d0, d1⟩ := hall W (Below.refl _ _)
    clear hall
    generalize p.headers.l[k] = y at *
    go_enter Tryz.func40, Tryz.ntmps40
    go_upto_region 1 with fail
    rw [← hW]
    clear hW HB
    simp only [scopeCells, hA] at hp3 ⊢
    clear hA HX
    go_wp2
    go_ret
    exact ⟨rfl, HW.out⟩
end Go.Proofs.YtpomjcndeanjgaaGreatDoor
namespace Go.Proofs.YtpomjcndeanjgaaGreatDoor
open Go.RowKit
theorem REnv.below {w w' : World} {x : L Tk} {p : ProgD} {ps : L FieldD} (E : REnv w x p ps) (h : Below w.heap.size w w') : REnv w' x p ps := ⟨E.toks.below h (Nat.le_refl _), E.ok, E.few, E.prog.below h, E.pars.below h (Nat.le_refl _)⟩
theorem RG.cast {w w' : World} {R Q : Pd} {r : Ending} (h : RG w R r w') (e : R = Q) : RG w Q r w' := by subst e; exact h
theorem blk_cells1 {w : World} {g c : Nat} {t : TypeId} {α : Type} {cells : α → List Value} {f : α → Value} {zs : List α} (hc : ∀ z, cells z = [f z]) (b : Blk w g t (zs.map f).toArray) (hm : zs.length ≤ 100) : LOk w 1 cells ⟨zs, some ⟨g, 0, none⟩, c⟩ := by
  refine ⟨by unfold maxLen; simp only; omega, .inr ⟨g, 0, rfl, b.lt, fun i hi j hj => ?_⟩⟩
  simp only at hi
  have hj0 : j = 0 := by omega
  subst hj0
  have := b.cell i
  rw [show 0 + i * 1 + 0 = i by omega, this]
  simp [hc, hi]
theorem expAll_lit {x : L Tk} {i : Nat} (qs : List (Nat × List UInt8)) {u : World} (h : LOk u 4 tkL x) (hi : i ≤ 10000) (hq : qs.length ≤ 10) :
    Calls Tryz.prog 69 #[.slice x.A x.l.length x.c, .int .i64 i, .slice (some ⟨u.heap.size, 0, none⟩) qs.length qs.length, .slice (some ⟨u.heap.size + 1, 0, none⟩) qs.length qs.length] ((u.alloc (.cells ((qK qs).map (Value.int .i64)).toArray 3)).alloc (.cells ((qT qs).map Value.string).toArray 9))
      fun e w' => e = .returned (.int .i64 (expAll x.l i qs)) ∧ Below u.heap.size u w' := by
  have hb := below2 u (.cells ((qK qs).map (Value.int .i64)).toArray 3) (.cells ((qT qs).map Value.string).toArray 9)
  have b1 : Blk ((u.alloc (.cells ((qK qs).map (Value.int .i64)).toArray 3)).alloc (.cells ((qT qs).map Value.string).toArray 9)) u.heap.size 3 ((qK qs).map (Value.int .i64)).toArray := (Blk.new u _ _).alloc _
  have b2 : Blk ((u.alloc (.cells ((qK qs).map (Value.int .i64)).toArray 3)).alloc (.cells ((qT qs).map Value.string).toArray 9)) (u.heap.size + 1) 9 ((qT qs).map Value.string).toArray := by simpa using Blk.new (u.alloc (.cells ((qK qs).map (Value.int .i64)).toArray 3)) 9 ((qT qs).map Value.string).toArray
  refine (rexpAll_any x i qs (some ⟨u.heap.size, 0, none⟩) (some ⟨u.heap.size + 1, 0, none⟩) qs.length qs.length _ (h.below hb (Nat.le_refl _)) (blk_cells1 (fun _ => rfl) b1 (by simp [qK]; omega)) (blk_cells1 (fun _ => rfl) b2 (by simp [qT]; omega)) hi hq).mono ?_
  rintro e w' ⟨h1, h2⟩
  exact ⟨h1, below_step hb h2⟩
set_option maxRecDepth 100000 in
set_option maxHeartbeats 8000000 in
theorem rvalidBad {x : L Tk} {p : ProgD} {ps : L FieldD} {i : Nat} {w : World} (E : REnv w x p ps) (hi : i < x.l.length) (hz : expAll x.l (i + 1) [(3, [40]), (1, [])] ≠ 0) :
    Calls Tryz.prog 97 #[.slice x.A x.l.length x.c, .int .i64 i, .agg (scopeCells p ps)] w (RG w (rValid p x.l i)) := by
  have HR : Hid (rValid p x.l i = ⟨[], 0, expAll x.l (i + 1) [(3, [40]), (1, [])]⟩) := Lib.hid (by rw [rValid, if_pos hz])
  obtain ⟨W, hW, hw, hsz, hb1, hb2⟩ := boxR w (scopeCells p ps) 44 #[.slice none 0 0, .int .i64 0, .int .i64 0] 88
  have HW := Lib.hid hw
  have HE := Lib.hid (E.below hw)
  have HRB := Lib.hid (fun u (h : Below W.heap.size W u) => hb2.below h hb2.lt)
  have hps := fun u (h : Below W.heap.size W u) => (show ∀ i, i < (scopeCells p ps).size → u.cell? ⟨w.heap.size, i, none⟩ = (scopeCells p ps)[i]? from fun i _ => (hb1.below h hb1.lt).cell i)
  have HSZ : Hid (W.heap.size = w.heap.size + 2) := Lib.hid hsz
  have HB := Below.refl W.heap.size W
  have hm := E.few
  clear hw hsz hb1 hb2
  have HXA := Lib.hid (fun u (h : LOk u 4 tkL x) => show Calls Tryz.prog 69 #[.slice x.A x.l.length x.c, .int .i64 ((i : Int) + 1), .slice (some ⟨u.heap.size, 0, none⟩) 2 2, .slice (some ⟨u.heap.size + 1, 0, none⟩) 2 2] ((u.alloc (.cells #[.int .i64 3, .int .i64 1] 3)).alloc (.cells #[.string ⟨#[40]⟩, .string ⟨#[]⟩] 9)) fun e w' => e = .returned (.int .i64 (expAll x.l (i + 1) [(3, [40]), (1, [])])) ∧ Below u.heap.size u w' from expAll_lit (i := i + 1) [(3, [40]), (1, [])] h (by omega) (by decide))
  generalize hAL : expAll x.l (i + 1) [(3, [40]), (1, [])] = al at *
  clear hAL
  have hz' : (al != 0) = true := bne_iff_ne.2 hz
  clear E
  go_enter Tryz.func97, Tryz.ntmps97
  go_upto_region 1 with fail
  rw [← hW]
  clear hW
  go_wp2_with fail
  refine (HXA.out W HE.out.toks).mono ?_
  rintro r w1 ⟨rfl, hN⟩
  have HB1 := Lib.hid hN
  clear hN HXA
  have HRU := Lib.hid (HRB.out w1 HB1.out)
  have r0 : w1.cell? ⟨w.heap.size + 1, 0, none⟩ = some (.slice none 0 0) := HRU.out.cell 0
  have r1 : w1.cell? ⟨w.heap.size + 1, 1, none⟩ = some (.int .i64 0) := HRU.out.cell 1
  have r2 : w1.cell? ⟨w.heap.size + 1, 2, none⟩ = some (.int .i64 0) := HRU.out.cell 2
  have g0 : w1.frozen? ⟨w.heap.size + 1, 0, none⟩ = false := HRU.out.frozen 0
  have g1 : w1.frozen? ⟨w.heap.size + 1, 1, none⟩ = false := HRU.out.frozen 1
  have g2 : w1.frozen? ⟨w.heap.size + 1, 2, none⟩ = false := HRU.out.frozen 2
  go_wp2
  refine bodyPost_ret (v := .agg #[.slice none 0 0, .int .i64 0, .int .i64 al]) ?_ rfl ?_
  · exact results_cell_row (fn := Tryz.f97) (p := 6) (ty := 88) rfl _ _ (w.heap.size + 1) 88 #[.slice none 0 0, .int .i64 0, .int .i64 al] (0, 0) _ rfl (rput3 HRU.out _ _ _) Tryz.underlying88 rfl (by kernel_rfl)
  · exact RG.cast (RG.fin (R := ⟨[], 0, al⟩) (A := none) (c := 0) (Nat.le_succ _) (below_step HW.out HB1.out) ⟨Nat.zero_le _, .inl rfl⟩ (fun _ => rfl) (fun a h => by cases h) _ _ _ rfl) HR.out.symm
set_option maxRecDepth 100000 in
set_option maxHeartbeats 8000000 in
theorem rvalidOk {x : L Tk} {p : ProgD} {ps : L FieldD} {i : Nat} {w : World} (E : REnv w x p ps) (hi : i + 2 < x.l.length) (hz : expAll x.l (i + 1) [(3, [40]), (1, [])] = 0) :
    Calls Tryz.prog 97 #[.slice x.A x.l.length x.c, .int .i64 i, .agg (scopeCells p ps)] w (RG w (rValid p x.l i)) := by
  have HR : Hid (rValid p x.l i = if findH p x.l[i + 2].str < 0 then ⟨[], 0, 8⟩ else ⟨[⟨4, findH p x.l[i + 2].str, 0⟩], i + 4, expR x.l (i + 3) 3 [41]⟩) := Lib.hid (by
    have e : tkAt x.l (i + 2) = x.l[i + 2] := tk_some (List.getElem?_eq_getElem hi)
    rw [rValid, if_neg (by simpa using hz), e])
  obtain ⟨W, hW, hw, hsz, hb1, hb2⟩ := boxR w (scopeCells p ps) 44 #[.slice none 0 0, .int .i64 0, .int .i64 0] 88
  have HW := Lib.hid hw
  have HE := Lib.hid (E.below hw)
  have HRB := Lib.hid (fun u (h : Below W.heap.size W u) => hb2.below h hb2.lt)
  have hps := fun u (h : Below W.heap.size W u) => (show ∀ i, i < (scopeCells p ps).size → u.cell? ⟨w.heap.size, i, none⟩ = (scopeCells p ps)[i]? from fun i _ => (hb1.below h hb1.lt).cell i)
  have HSZ : Hid (W.heap.size = w.heap.size + 2) := Lib.hid hsz
  have HB := Below.refl W.heap.size W
  have hm := E.few
  clear hw hsz hb1 hb2
  have HXA := Lib.hid (fun u (h : LOk u 4 tkL x) => show Calls Tryz.prog 69 #[.slice x.A x.l.length x.c, .int .i64 ((i : Int) + 1), .slice (some ⟨u.heap.size, 0, none⟩) 2 2, .slice (some ⟨u.heap.size + 1, 0, none⟩) 2 2] ((u.alloc (.cells #[.int .i64 3, .int .i64 1] 3)).alloc (.cells #[.string ⟨#[40]⟩, .string ⟨#[]⟩] 9)) fun e w' => e = .returned (.int .i64 (expAll x.l (i + 1) [(3, [40]), (1, [])])) ∧ Below u.heap.size u w' from expAll_lit (i := i + 1) [(3, [40]), (1, [])] h (by omega) (by decide))
  generalize hAL : expAll x.l (i + 1) [(3, [40]), (1, [])] = al at *
  subst hz
  clear hAL E
  obtain ⟨g, of, hA, hq⟩ := TkD.atA HE.out.toks hi
  have HQ := Lib.hid hq
  have HAA := Lib.hid hA
  have hii : (i : Int) + 2 < (x.l.length : Int) := by omega
  have hii0 : 0 ≤ (i : Int) + 2 := by omega
  have htn : ((i : Int) + 2).toNat = i + 2 := by omega
  have hwr : IntKind.i64.wrap ((i : Int) + 2) = (i : Int) + 2 := IntWalk.i64_in _ (by omega)
  have HEX := Lib.hid (fun u (h : LOk u 4 tkL x) => show Calls Tryz.prog 68 #[.slice x.A x.l.length x.c, .int .i64 ((i : Int) + 3), .int .i64 3, .string ⟨#[41]⟩] u fun e w' => e = .returned (.int .i64 (expR x.l (i + 3) 3 [41])) ∧ u = w' from rexp_any x (i + 3) 3 ⟨#[41]⟩ u h)
  generalize expR x.l (i + 3) 3 [41] = ex at *
  rw [show x.l[i + 2].str = (⟨x.l[i + 2].text.toArray⟩ : ByteArray) from rfl] at HR
  clear hq hA
  go_enter Tryz.func97, Tryz.ntmps97
  go_upto_region 1 with fail
  rw [← hW]
  clear hW
  go_wp2_with fail
  refine (HXA.out W HE.out.toks).mono ?_
  rintro r w1 ⟨rfl, hN⟩
  have HB1 := Lib.hid hN
  clear hN HXA
  have H0 := Lib.hid (Below.refl w1.heap.size w1)
  have hp2 := fun u (h : Below w1.heap.size w1 u) => hps u (below_step HB1.out h)
  have hd2 := fun u (h : Below w1.heap.size w1 u) => (HQ.out u (below_step HB1.out h)).2.1
  have HFH := Lib.hid (fun u (h : Below w1.heap.size w1 u) => rfindHeader_any p ps ⟨x.l[i + 2].text.toArray⟩ u (HE.out.prog.below (below_step HB1.out h)))
  generalize x.l[i + 2].text = tx at *
  rw [show findH p ⟨tx.toArray⟩ = Lib.idxOfS (hNames p) ⟨tx.toArray⟩ from rfl] at HR
  generalize Lib.idxOfS (hNames p) ⟨tx.toArray⟩ = fh at *
  clear hps
  go_upto_region 4 with fail
  simp only [HAA.out] at HEX ⊢
  go_region_held3 (fun w' => Below w1.heap.size w1 w') (first | exact H0.out | exact below_drew H0.out | (exact below_step (by assumption) (by assumption)) | assumption)
    (first | (go_at_call 81; refine (HFH.out _ (by assumption)).mono ?_; rintro r w5 ⟨rfl, hb5⟩))
  have HB5 := Lib.hid (below_step HB1.out (show Below w1.heap.size w1 w5 by assumption))
  by_cases hf : fh < 0
  · have hf' : decide (fh < 0) = true := decide_eq_true hf
    replace HR := Lib.hid (HR.out.trans (if_pos hf))
    clear hp2 hd2 hf
    have HRU := Lib.hid (HRB.out w5 HB5.out)
    have r0 : w5.cell? ⟨w.heap.size + 1, 0, none⟩ = some (.slice none 0 0) := HRU.out.cell 0
    have r1 : w5.cell? ⟨w.heap.size + 1, 1, none⟩ = some (.int .i64 0) := HRU.out.cell 1
    have r2 : w5.cell? ⟨w.heap.size + 1, 2, none⟩ = some (.int .i64 0) := HRU.out.cell 2
    have g0 : w5.frozen? ⟨w.heap.size + 1, 0, none⟩ = false := HRU.out.frozen 0
    have g1 : w5.frozen? ⟨w.heap.size + 1, 1, none⟩ = false := HRU.out.frozen 1
    have g2 : w5.frozen? ⟨w.heap.size + 1, 2, none⟩ = false := HRU.out.frozen 2
    go_wp2
    refine bodyPost_ret (v := .agg #[.slice none 0 0, .int .i64 0, .int .i64 8]) ?_ rfl ?_
    · exact results_cell_row (fn := Tryz.f97) (p := 6) (ty := 88) rfl _ _ (w.heap.size + 1) 88 #[.slice none 0 0, .int .i64 0, .int .i64 8] (0, 0) _ rfl (rput3 HRU.out _ _ _) Tryz.underlying88 rfl (by kernel_rfl)
    · exact RG.cast (RG.fin (R := ⟨[], 0, 8⟩) (A := none) (c := 0) (Nat.le_succ _) (below_step HW.out HB5.out) ⟨Nat.zero_le _, .inl rfl⟩ (fun _ => rfl) (fun a h => by cases h) _ _ _ rfl) HR.out.symm
  · have hf' : decide (fh < 0) = false := decide_eq_false hf
    replace HR := Lib.hid (HR.out.trans (if_neg hf))
    clear hp2 hd2 hf
    obtain ⟨V, hV⟩ : ∃ V, V = w5.alloc (.cells #[.int .i64 4, .int .i64 fh, .int .i64 0] 65) := ⟨_, rfl⟩
    have HL : Hid (LOk V 3 NodeD.cells ⟨[⟨4, fh, 0⟩], some ⟨w5.heap.size, 0, none⟩, 1⟩) := Lib.hid (by rw [hV]; exact rlies_one w5 ⟨4, fh, 0⟩)
    have HBV : Hid (Below W.heap.size W V) := Lib.hid (by rw [hV]; exact below_alloc HB5.out _)
    have HFAR : Hid (w.heap.size ≤ w5.heap.size ∧ w5.heap.size ≠ w.heap.size + 1) := Lib.hid (by have := HB5.out.size; have := HSZ.out; omega)
    go_wp2_with fail
    rw [← hV]
    clear hV
    refine (HEX.out V (HE.out.toks.below HBV.out (Nat.le_refl _))).mono ?_
    rintro r w6 ⟨rfl, rfl⟩
    have HRU := Lib.hid (HRB.out V HBV.out)
    have r0 : V.cell? ⟨w.heap.size + 1, 0, none⟩ = some (.slice none 0 0) := HRU.out.cell 0
    have r1 : V.cell? ⟨w.heap.size + 1, 1, none⟩ = some (.int .i64 0) := HRU.out.cell 1
    have r2 : V.cell? ⟨w.heap.size + 1, 2, none⟩ = some (.int .i64 0) := HRU.out.cell 2
    have g0 : V.frozen? ⟨w.heap.size + 1, 0, none⟩ = false := HRU.out.frozen 0
    have g1 : V.frozen? ⟨w.heap.size + 1, 1, none⟩ = false := HRU.out.frozen 1
    have g2 : V.frozen? ⟨w.heap.size + 1, 2, none⟩ = false := HRU.out.frozen 2
    go_wp2
    refine bodyPost_ret (v := .agg #[.slice (some ⟨w5.heap.size, 0, none⟩) 1 1, .int .i64 ((i : Int) + 4), .int .i64 ex]) ?_ rfl ?_
    · exact results_cell_row (fn := Tryz.f97) (p := 6) (ty := 88) rfl _ _ (w.heap.size + 1) 88 #[.slice (some ⟨w5.heap.size, 0, none⟩) 1 1, .int .i64 ((i : Int) + 4), .int .i64 ex] (0, 0) _ rfl (rput3 HRU.out _ _ _) Tryz.underlying88 rfl (by kernel_rfl)
    · exact RG.cast (RG.fin (R := ⟨[⟨4, fh, 0⟩], i + 4, ex⟩) (A := some ⟨w5.heap.size, 0, none⟩) (c := 1) (Nat.le_succ _) (below_step HW.out HBV.out) HL.out (fun h => by cases h) (fun a h => by cases h; exact HFAR.out) _ _ _ rfl) HR.out.symm
end Go.Proofs.YtpomjcndeanjgaaGreatDoor
