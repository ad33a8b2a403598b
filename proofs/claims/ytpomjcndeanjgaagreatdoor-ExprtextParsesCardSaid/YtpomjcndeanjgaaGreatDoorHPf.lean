/- Walks of exprtext's reference: resolves. No condition but that the program lies in memory, the names short. Walks of exprtext's reference: resolves of a field, all its tests made. No condition but that the program lies in memory, the names short. Walks of exprtext's reference: resolves of a field, the tests that fail. No condition but that the program lies in memory, the names short. exprtext's reference: resolves of every checked node. No condition but that the program lies in memory, the names short. exprtext's reference: Format on any program, parameters and nodes. No condition but that they lie in memory, the names short. Walks of the reference lexer's small functions. No condition but the length of the text. The walk of the reference lexer's first. No condition but the length of the text. The walk of the reference lexer's first at a symbol. No condition but the length of the text. The walk of the reference lexer's check. No condition but the length of the text. The walk of the reference lexer's Tokenize. No condition. Plain laws on tokens: the program's lexer and the reference's agree. No condition. The walk of exprtext's reference Parse. No condition but that the program lies in memory, the names and the text short. The law ExprtextParses, walked. No condition but that the case lies in memory and the table of powers of ten is laid. -/
import Derived.Test.YtpomjcndeanjgaaGreatDoorHPe
namespace Go.Proofs.YtpomjcndeanjgaaGreatDoor
open Go.RowKit
theorem flipE {f : FuncId} {args : Array Value} {w : World} {r : Ending} (h : Calls Tryz.prog f args w fun e w' => e = r ∧ w = w') : Calls Tryz.prog f args w fun e w' => e = r ∧ w' = w := h.mono fun _ _ h => ⟨h.1, h.2.symm⟩
set_option maxRecDepth 100000 in
set_option maxHeartbeats 4000000 in
theorem rres_par (x : L NodeD) (p : ProgD) (ps : L FieldD) (k : Nat) (wd : Int) (W w : World) (E : WEnv W x p ps) (hb : Below W.heap.size W w) (hk : k < ps.l.length) :
    Calls Tryz.prog 22 #[.agg #[.int .i64 3, .int .i64 k, .int .i64 wd], .agg (scopeCells p ps)] w fun e w' => e = .returned (.bool (resM p ps.l ⟨3, k, wd⟩)) ∧ Below w.heap.size w w' := by
  obtain ⟨V, hV, hw, HB, hp⟩ := box2 w #[.int .i64 3, .int .i64 k, .int .i64 wd] 65 (scopeCells p ps) 44
  have HW := Lib.hid hw
  have hns := E.nm.par _ (List.getElem_mem hk)
  have HI := Lib.hid (fun u => risIdent_any ps.l[k].name u (by unfold maxLen; omega))
  have HF := Lib.hid (fun u (hu : Below V.heap.size V u) => rfindField_any ps ps.l[k].name u (E.pars.below (below_step hb (below_step hw hu)) (Nat.le_refl _)))
  have HR : Hid (resM p ps.l ⟨3, k, wd⟩ = (ident ps.l[k].name && (Lib.idxOfS (fNames ps.l) ps.l[k].name == (k : Int)))) := Lib.hid (by
    rw [show resM p ps.l ⟨3, k, wd⟩ = rightB (fNames ps.l) (fldB ps.l k) k from rfl, fld_at' hk]; rfl)
  have hki : (k : Int) < (ps.l.length : Int) := by omega
  obtain ⟨g, of, hA, hall⟩ := FieldD.atA E.pars hk
  have hd := (hall V (below_step hb hw)).1
  have hp1 := hp V HB
  have hdd := fun u (hu : Below V.heap.size V u) => (hall u (below_step hb (below_step hw hu))).1
  rw [HR.out]
  clear hall E hns HR
  simp only [hA] at HF
  generalize ps.l[k].name = nm at *
  generalize fNames ps.l = ns at *
  cases hi : ident nm
  · have HI2 := Lib.hid (fun u => show Calls Tryz.prog 42 #[.string nm] u fun e w' => e = .returned (.bool false) ∧ u = w' from by rw [← hi]; exact HI.out u)
    clear HI hi hp hdd
    go_enter Tryz.func22, Tryz.ntmps22
    go_upto_region 1 with fail
    rw [← hV]
    clear hV
    simp only [scopeCells, hA] at hp1 ⊢
    clear hA
    go_upto_region 6 with fail
    go_quiet (first | (go_at_call 42; exact Calls.quiet_of_same (flipE (HI2.out _))))
    go_wp2
    go_ret
    exact ⟨rfl, below_drewN HW.out _⟩
  · have HI2 := Lib.hid (fun u => show Calls Tryz.prog 42 #[.string nm] u fun e w' => e = .returned (.bool true) ∧ u = w' from by rw [← hi]; exact HI.out u)
    have hp2 := fun u (hu : Below V.heap.size V u) => hp u hu
    have hd2 := fun u (hu : Below V.heap.size V u) => hdd u hu
    have H0 := Lib.hid HB
    clear HI hi hp hdd hd hp1
    go_enter Tryz.func22, Tryz.ntmps22
    go_upto_region 1 with fail
    rw [← hV]
    clear hV
    simp only [scopeCells, hA] at hp2 ⊢
    clear hA
    have hp3 := hp2 V H0.out
    go_upto_region 6 with fail
    clear hp3
    go_region_held3 (fun w' => Below V.heap.size V w') (first | exact H0.out | exact below_drew H0.out | (exact below_step (by assumption) (by assumption)) | assumption)
      (first
      | (go_at_call 42; refine (HI2.out _).mono ?_; rintro r w5 ⟨rfl, rfl⟩)
      | (go_at_call 43; refine (HF.out _ (by assumption)).mono ?_; rintro r w5 ⟨rfl, rfl⟩))
    all_goals
      have HB5 : Hid (Below V.heap.size V _) := Lib.hid (by assumption)
      go_wp2
      go_ret
      exact ⟨rfl, below_step HW.out HB5.out⟩
set_option maxRecDepth 100000 in
set_option maxHeartbeats 2000000 in
theorem rres_valid (x : L NodeD) (p : ProgD) (ps : L FieldD) (n : Int) (wd : Int) (W w : World) (E : WEnv W x p ps) (hb : Below W.heap.size W w) (hn : 0 ≤ n ∧ n.toNat < p.headers.l.length) :
    Calls Tryz.prog 22 #[.agg #[.int .i64 4, .int .i64 n, .int .i64 wd], .agg (scopeCells p ps)] w fun e w' => e = .returned (.bool (resM p ps.l ⟨4, n, wd⟩)) ∧ Below w.heap.size w w' := by
  obtain ⟨V, hV, hw, HB, hp⟩ := box2 w #[.int .i64 4, .int .i64 n, .int .i64 wd] 65 (scopeCells p ps) 44
  have HW := Lib.hid hw
  have HC := Lib.hid (fun u (hu : Below V.heap.size V u) => rright_any p ps n u (E.prog.below (below_step hb (below_step hw hu))) E.nm (.inr hn))
  have HR : Hid (resM p ps.l ⟨4, n, wd⟩ = rightH p n) := Lib.hid rfl
  have hp1 := hp V HB
  rw [HR.out]
  generalize rightH p n = R at *
  clear E hw HR hp
  go_enter Tryz.func22, Tryz.ntmps22
  go_upto_region 1 with fail
  rw [← hV]
  clear hV
  go_wp2_with fail
  refine (HC.out _ (by first | exact HB | exact below_alloc HB _ | exact below_alloc (below_alloc HB _) _ | exact below_alloc (below_alloc (below_alloc HB _) _) _)).mono ?_
  rintro e w1 ⟨rfl, hbN⟩
  replace HB := below_step (by first | exact HB | exact below_alloc HB _ | exact below_alloc (below_alloc HB _) _ | exact below_alloc (below_alloc (below_alloc HB _) _) _) hbN
  clear hbN
  go_wp2
  go_ret
  exact ⟨rfl, below_step HW.out HB⟩
set_option maxRecDepth 100000 in
set_option maxHeartbeats 2000000 in
theorem rres_other (p : ProgD) (ps : L FieldD) (op n wd : Int) (w : World) (h2 : op ≠ 2) (h3 : op ≠ 3) (h4 : op ≠ 4) :
    Calls Tryz.prog 22 #[.agg #[.int .i64 op, .int .i64 n, .int .i64 wd], .agg (scopeCells p ps)] w fun e w' => e = .returned (.bool (resM p ps.l ⟨op, n, wd⟩)) ∧ Below w.heap.size w w' := by
  obtain ⟨V, hV, hw, HB, hp⟩ := box2 w #[.int .i64 op, .int .i64 n, .int .i64 wd] 65 (scopeCells p ps) 44
  have HW := Lib.hid hw
  have HR : Hid (resM p ps.l ⟨op, n, wd⟩ = true) := Lib.hid (by unfold resM; simp [h2, h3, h4])
  have hp1 := hp V HB
  rw [HR.out]
  have t2 : (op == 2) = false := beq_eq_false_iff_ne.2 h2
  have t3 : (op == 3) = false := beq_eq_false_iff_ne.2 h3
  have t4 : (op == 4) = false := beq_eq_false_iff_ne.2 h4
  clear hw HR hp h2 h3 h4
  go_enter Tryz.func22, Tryz.ntmps22
  go_upto_region 1 with fail
  rw [← hV]
  clear hV
  go_wp2
  go_ret
  exact ⟨rfl, HW.out⟩
end Go.Proofs.YtpomjcndeanjgaaGreatDoor
namespace Go.Proofs.YtpomjcndeanjgaaGreatDoor
open Go.RowKit
set_option maxRecDepth 100000 in
set_option maxHeartbeats 8000000 in
theorem rres_fld_yes (x : L NodeD) (p : ProgD) (ps : L FieldD) (n : Int) (f : Nat) (W w : World) (E : WEnv W x p ps) (hb : Below W.heap.size W w) (hn : n = -1 ∨ (0 ≤ n ∧ n.toNat < p.headers.l.length)) (F : L FieldD) (hFe : fldsL p n = F)
    (hF : LOk W 2 FieldD.cells F) (hf : f < F.l.length) (hs : F.l[f].name.size ≤ 1000) (h1 : rightH p n = true) (h2 : ident F.l[f].name = true) :
    Calls Tryz.prog 22 #[.agg #[.int .i64 2, .int .i64 n, .int .i64 f], .agg (scopeCells p ps)] w fun e w' => e = .returned (.bool (resM p ps.l ⟨2, n, f⟩)) ∧ Below w.heap.size w w' := by
  obtain ⟨V, hV, hw, HB, hp⟩ := box2 w #[.int .i64 2, .int .i64 n, .int .i64 f] 65 (scopeCells p ps) 44
  have HW := Lib.hid hw
  have HI := Lib.hid (fun u => show Calls Tryz.prog 42 #[.string F.l[f].name] u fun e w' => e = .returned (.bool true) ∧ u = w' from by
    have := risIdent_any F.l[f].name u (by unfold maxLen; omega)
    rw [show identM F.l[f].name.data.toList = true from h2] at this; exact this)
  have HG := Lib.hid (fun u (hu : Below V.heap.size V u) => rfields_any p ps n u (E.prog.below (below_step hb (below_step hw hu))) hn)
  have HC := Lib.hid (fun u (hu : Below V.heap.size V u) => show Calls Tryz.prog 41 #[.agg (scopeCells p ps), .int .i64 n] u fun e w' => e = .returned (.bool true) ∧ Below u.heap.size u w' from by
    have := rright_any p ps n u (E.prog.below (below_step hb (below_step hw hu))) E.nm hn
    rw [h1] at this; exact this)
  have HF := Lib.hid (fun u (hu : Below V.heap.size V u) => rfindField_any F F.l[f].name u (hF.below (below_step hb (below_step hw hu)) (Nat.le_refl _)))
  have HR : Hid (resM p ps.l ⟨2, n, f⟩ = (Lib.idxOfS (fNames F.l) F.l[f].name == (f : Int))) := Lib.hid (by
    rw [show resM p ps.l ⟨2, n, f⟩ = (rightH p n && rightB (fNames (fldsL p n).l) (fldB (fldsL p n).l f) f) from rfl, h1, hFe, fld_at' hf, rightB, h2]; rfl)
  have hfi : (f : Int) < (F.l.length : Int) := by omega
  obtain ⟨g, of, hA, hall⟩ := FieldD.atA hF hf
  have hdd := fun u (hu : Below V.heap.size V u) => (hall u (below_step hb (below_step hw hu))).1
  rw [HR.out]
  rw [hFe] at HG
  clear hall E hs HR h1 h2 hF hFe
  simp only [hA] at HF HG
  generalize F.l[f].name = nm at *
  generalize fNames F.l = ns at *
  generalize F.l.length = fl at *
  generalize F.c = fc at *
  clear hA
  have H0 := Lib.hid HB
  go_enter Tryz.func22, Tryz.ntmps22
  go_upto_region 1 with fail
  rw [← hV]
  clear hV
  have hp1 := hp V H0.out
  go_wp2_with fail
  refine (HG.out _ (by first | exact HB | exact below_alloc HB _ | exact below_alloc (below_alloc HB _) _ | exact below_alloc (below_alloc (below_alloc HB _) _) _)).mono ?_
  rintro e w1 ⟨rfl, hbN⟩
  replace HB := below_step (by first | exact HB | exact below_alloc HB _ | exact below_alloc (below_alloc HB _) _ | exact below_alloc (below_alloc (below_alloc HB _) _) _) hbN
  clear hbN
  have HV1 := Lib.hid HB
  have H1 := Lib.hid (Below.refl w1.heap.size w1)
  have hp2 := fun u (hu : Below w1.heap.size w1 u) => hp u (below_step HV1.out hu)
  have hd2 := fun u (hu : Below w1.heap.size w1 u) => hdd u (below_step HV1.out hu)
  clear hp hdd HB hp1
  have hp3 := hp2 w1 H1.out
  go_upto_region 4 with fail
  clear hp3
  go_region_held3 (fun w' => Below w1.heap.size w1 w') (first | exact H1.out | exact below_drew H1.out | (exact below_step (by assumption) (by assumption)) | assumption)
    (first
    | (go_at_call 41; refine (HC.out _ (below_step HV1.out (by assumption))).mono ?_; rintro r w5 ⟨rfl, hb5⟩)
    | (go_at_call 42; refine (HI.out _).mono ?_; rintro r w6 ⟨rfl, rfl⟩)
    | (go_at_call 43; refine (HF.out _ (below_step HV1.out (by assumption))).mono ?_; rintro r w7 ⟨rfl, rfl⟩))
  all_goals
    have HB5 : Hid (Below w1.heap.size w1 _) := Lib.hid (by assumption)
    go_wp2
    go_ret
    exact ⟨rfl, below_step HW.out (below_step HV1.out HB5.out)⟩
end Go.Proofs.YtpomjcndeanjgaaGreatDoor
namespace Go.Proofs.YtpomjcndeanjgaaGreatDoor
open Go.RowKit
set_option maxRecDepth 100000 in
set_option maxHeartbeats 8000000 in
theorem rres_fld_no1 (x : L NodeD) (p : ProgD) (ps : L FieldD) (n : Int) (f : Nat) (W w : World) (E : WEnv W x p ps) (hb : Below W.heap.size W w) (hn : n = -1 ∨ (0 ≤ n ∧ n.toNat < p.headers.l.length)) (F : L FieldD) (hFe : fldsL p n = F)
    (hF : LOk W 2 FieldD.cells F) (hf : f < F.l.length) (h1 : rightH p n = false) :
    Calls Tryz.prog 22 #[.agg #[.int .i64 2, .int .i64 n, .int .i64 f], .agg (scopeCells p ps)] w fun e w' => e = .returned (.bool (resM p ps.l ⟨2, n, f⟩)) ∧ Below w.heap.size w w' := by
  obtain ⟨V, hV, hw, HB, hp⟩ := box2 w #[.int .i64 2, .int .i64 n, .int .i64 f] 65 (scopeCells p ps) 44
  have HW := Lib.hid hw
  have HG := Lib.hid (fun u (hu : Below V.heap.size V u) => rfields_any p ps n u (E.prog.below (below_step hb (below_step hw hu))) hn)
  have HC := Lib.hid (fun u (hu : Below V.heap.size V u) => show Calls Tryz.prog 41 #[.agg (scopeCells p ps), .int .i64 n] u fun e w' => e = .returned (.bool false) ∧ Below u.heap.size u w' from by
    have := rright_any p ps n u (E.prog.below (below_step hb (below_step hw hu))) E.nm hn
    rw [h1] at this; exact this)
  have HR : Hid (resM p ps.l ⟨2, n, f⟩ = false) := Lib.hid (by
    rw [show resM p ps.l ⟨2, n, f⟩ = (rightH p n && rightB (fNames (fldsL p n).l) (fldB (fldsL p n).l f) f) from rfl, h1]; rfl)
  have hfi : (f : Int) < (F.l.length : Int) := by omega
  obtain ⟨g, of, hA, hall⟩ := FieldD.atA hF hf
  have hdd := fun u (hu : Below V.heap.size V u) => (hall u (below_step hb (below_step hw hu))).1
  rw [HR.out]
  rw [hFe] at HG
  clear hall E HR h1 hF hFe
  simp only [hA] at HG
  generalize F.l[f].name = nm at *
  generalize F.l.length = fl at *
  generalize F.c = fc at *
  clear hA
  have H0 := Lib.hid HB
  go_enter Tryz.func22, Tryz.ntmps22
  go_upto_region 1 with fail
  rw [← hV]
  clear hV
  have hp1 := hp V H0.out
  go_wp2_with fail
  refine (HG.out _ (by first | exact HB | exact below_alloc HB _ | exact below_alloc (below_alloc HB _) _ | exact below_alloc (below_alloc (below_alloc HB _) _) _)).mono ?_
  rintro e w1 ⟨rfl, hbN⟩
  replace HB := below_step (by first | exact HB | exact below_alloc HB _ | exact below_alloc (below_alloc HB _) _ | exact below_alloc (below_alloc (below_alloc HB _) _) _) hbN
  clear hbN
  have HV1 := Lib.hid HB
  have H1 := Lib.hid (Below.refl w1.heap.size w1)
  have hp2 := fun u (hu : Below w1.heap.size w1 u) => hp u (below_step HV1.out hu)
  have hd2 := fun u (hu : Below w1.heap.size w1 u) => hdd u (below_step HV1.out hu)
  clear hp hdd HB hp1
  have hp3 := hp2 w1 H1.out
  go_upto_region 4 with fail
  clear hp3
  refine wp_region_held_drew (S := fun w' => Below w1.heap.size w1 w') (by kernel_rfl) (below_drew H1.out) (fun hHeld => ?_)
  refine wpAnyH_take (i := 0) (oi := { dst := some 14, op := Op.load 44 (Operand.tmp 3), type := 44, pos := "ref.go:86", after := #[], guard := none }) (v := ?av0) rfl (by kernel_rfl) (by kernel_rfl) (by kernel_rfl) (fun _ _ _ h => h) (Or.inl ⟨by rfl, ?ay0⟩) (by assumption) ?ar0
  case ay0 => (intro w hSw; (try dsimp only at hSw); go_simp; try (with_reducible rfl))
  try simp only [Act.put, List.setIfInBounds_toArray, List.set_cons_zero, List.set_cons_succ]
  refine wpAnyH_take (i := 1) (oi := { dst := some 15, op := Op.fieldAddr 65 (Operand.tmp 2) 1, type := 0, pos := "ref.go:86", after := #[], guard := none }) (v := ?av1) rfl (by kernel_rfl) (by kernel_rfl) (by kernel_rfl) (fun _ _ _ h => h) (Or.inl ⟨by rfl, ?ay1⟩) (by assumption) ?ar1
  case ay1 => (intro w hSw; (try dsimp only at hSw); go_simp; try (with_reducible rfl))
  try simp only [Act.put, List.setIfInBounds_toArray, List.set_cons_zero, List.set_cons_succ]
  refine wpAnyH_take (i := 2) (oi := { dst := some 16, op := Op.load 3 (Operand.tmp 15), type := 3, pos := "ref.go:86", after := #[{ on := 1, ground := Ground.data }], guard := none }) (v := ?av2) rfl (by kernel_rfl) (by kernel_rfl) (by kernel_rfl) (fun _ _ _ h => h) (Or.inl ⟨by rfl, ?ay2⟩) (by assumption) ?ar2
  case ay2 => (intro w hSw; (try dsimp only at hSw); go_simp; try (with_reducible rfl))
  try simp only [Act.put, List.setIfInBounds_toArray, List.set_cons_zero, List.set_cons_succ]
  refine wpAnyH_ready (rs := [3]) (by kernel_rfl) (by simp) ?_
  refine AllReadyH.cons (o := { dst := some 17, op := Op.call { callee := Callee.value (Operand.func 41), args := #[Operand.tmp 14, Operand.tmp 16], argTypes := #[44, 3] }, type := 4, pos := "ref.go:86", after := #[{ on := 0, ground := Ground.data }, { on := 2, ground := Ground.data }], guard := none }) rfl (fun K hK => ?_) AllReadyH.nil
  go_simp
  go_at_call 41
  refine (HC.out _ (below_step HV1.out (below_drew H1.out))).mono ?_
  rintro r w5 ⟨rfl, hb5⟩
  have hNEW : Below w1.heap.size w1 w5 := below_step (below_drew H1.out) hb5
  refine hK.out _ _ hNEW (fun hHeld2 => ?_)
  clear hK K
  try simp only [Act.put, List.setIfInBounds_toArray, List.set_cons_zero, List.set_cons_succ]
  refine wpAnyH_take (i := 4) (oi := { dst := some 18, op := Op.move (Operand.tmp 17), type := 4, pos := "ref.go:86", after := #[{ on := 3, ground := Ground.data }, { on := 3, ground := Ground.chain }], guard := none }) (v := ?av4) rfl (by kernel_rfl) (by kernel_rfl) (by kernel_rfl) (fun _ _ _ h => h) (Or.inl ⟨by rfl, ?ay4⟩) (by assumption) ?ar4
  case ay4 => (intro w hSw; (try dsimp only at hSw); go_simp; try (with_reducible rfl))
  try simp only [Act.put, List.setIfInBounds_toArray, List.set_cons_zero, List.set_cons_succ]
  refine wpAnyH_take (i := 5) (oi := { dst := some 19, op := Op.move (Operand.tmp 5), type := 23, pos := "ref.go:86", after := #[{ on := 4, ground := Ground.guard }], guard := some (4, true) }) (v := undef) rfl (by kernel_rfl) (by kernel_rfl) (by kernel_rfl) (fun _ _ _ h => h) (Or.inr ⟨by rfl, rfl⟩) (by assumption) ?_
  try simp only [Act.put, List.setIfInBounds_toArray, List.set_cons_zero, List.set_cons_succ]
  refine wpAnyH_take (i := 6) (oi := { dst := some 20, op := Op.fieldAddr 65 (Operand.tmp 2) 2, type := 0, pos := "ref.go:86", after := #[{ on := 4, ground := Ground.guard }], guard := some (4, true) }) (v := undef) rfl (by kernel_rfl) (by kernel_rfl) (by kernel_rfl) (fun _ _ _ h => h) (Or.inr ⟨by rfl, rfl⟩) (by assumption) ?_
  try simp only [Act.put, List.setIfInBounds_toArray, List.set_cons_zero, List.set_cons_succ]
  refine wpAnyH_take (i := 7) (oi := { dst := some 21, op := Op.load 3 (Operand.tmp 20), type := 3, pos := "ref.go:86", after := #[{ on := 6, ground := Ground.data }, { on := 4, ground := Ground.guard }], guard := some (4, true) }) (v := undef) rfl (by kernel_rfl) (by kernel_rfl) (by kernel_rfl) (fun _ _ _ h => h) (Or.inr ⟨by rfl, rfl⟩) (by assumption) ?_
  try simp only [Act.put, List.setIfInBounds_toArray, List.set_cons_zero, List.set_cons_succ]
  refine wpAnyH_take (i := 8) (oi := { dst := some 22, op := Op.indexAddr 23 (Operand.tmp 19) (Operand.tmp 21), type := 0, pos := "ref.go:86", after := #[{ on := 5, ground := Ground.data }, { on := 7, ground := Ground.data }, { on := 4, ground := Ground.guard }], guard := some (4, true) }) (v := undef) rfl (by kernel_rfl) (by kernel_rfl) (by kernel_rfl) (fun _ _ _ h => h) (Or.inr ⟨by rfl, rfl⟩) (by assumption) ?_
  try simp only [Act.put, List.setIfInBounds_toArray, List.set_cons_zero, List.set_cons_succ]
  refine wpAnyH_take (i := 9) (oi := { dst := some 23, op := Op.fieldAddr 63 (Operand.tmp 22) 0, type := 0, pos := "ref.go:86", after := #[{ on := 8, ground := Ground.data }, { on := 4, ground := Ground.guard }], guard := some (4, true) }) (v := undef) rfl (by kernel_rfl) (by kernel_rfl) (by kernel_rfl) (fun _ _ _ h => h) (Or.inr ⟨by rfl, rfl⟩) (by assumption) ?_
  try simp only [Act.put, List.setIfInBounds_toArray, List.set_cons_zero, List.set_cons_succ]
  refine wpAnyH_take (i := 10) (oi := { dst := some 24, op := Op.load 9 (Operand.tmp 23), type := 9, pos := "ref.go:86", after := #[{ on := 9, ground := Ground.data }, { on := 4, ground := Ground.guard }], guard := some (4, true) }) (v := undef) rfl (by kernel_rfl) (by kernel_rfl) (by kernel_rfl) (fun _ _ _ h => h) (Or.inr ⟨by rfl, rfl⟩) (by assumption) ?_
  try simp only [Act.put, List.setIfInBounds_toArray, List.set_cons_zero, List.set_cons_succ]
  refine wpAnyH_take (i := 11) (oi := { dst := some 25, op := Op.call { callee := Callee.value (Operand.func 42), args := #[Operand.tmp 24], argTypes := #[9] }, type := 4, pos := "ref.go:86", after := #[{ on := 10, ground := Ground.data }, { on := 4, ground := Ground.chain }, { on := 4, ground := Ground.guard }], guard := some (4, true) }) (v := undef) rfl (by kernel_rfl) (by kernel_rfl) (by kernel_rfl) (fun _ _ _ h => h) (Or.inr ⟨by rfl, rfl⟩) (by assumption) ?_
  try simp only [Act.put, List.setIfInBounds_toArray, List.set_cons_zero, List.set_cons_succ]
  refine wpAnyH_take (i := 12) (oi := { dst := some 26, op := Op.pick (Operand.tmp 18) (Operand.tmp 25) (Operand.const (Value.bool false)), type := 4, pos := "ref.go:86", after := #[{ on := 4, ground := Ground.data }, { on := 11, ground := Ground.data }], guard := none }) (v := ?av12) rfl (by kernel_rfl) (by kernel_rfl) (by kernel_rfl) (fun _ _ _ h => h) (Or.inl ⟨by rfl, ?ay12⟩) (by assumption) ?ar12
  case ay12 => (intro w hSw; (try dsimp only at hSw); go_simp; try (with_reducible rfl))
  try simp only [Act.put, List.setIfInBounds_toArray, List.set_cons_zero, List.set_cons_succ]
  refine wpAnyH_take (i := 13) (oi := { dst := some 27, op := Op.move (Operand.tmp 26), type := 4, pos := "ref.go:86", after := #[{ on := 12, ground := Ground.data }, { on := 11, ground := Ground.chain }], guard := none }) (v := ?av13) rfl (by kernel_rfl) (by kernel_rfl) (by kernel_rfl) (fun _ _ _ h => h) (Or.inl ⟨by rfl, ?ay13⟩) (by assumption) ?ar13
  case ay13 => (intro w hSw; (try dsimp only at hSw); go_simp; try (with_reducible rfl))
  try simp only [Act.put, List.setIfInBounds_toArray, List.set_cons_zero, List.set_cons_succ]
  refine wpAnyH_take (i := 14) (oi := { dst := some 28, op := Op.move (Operand.tmp 5), type := 23, pos := "ref.go:86", after := #[{ on := 13, ground := Ground.guard }], guard := some (13, true) }) (v := undef) rfl (by kernel_rfl) (by kernel_rfl) (by kernel_rfl) (fun _ _ _ h => h) (Or.inr ⟨by rfl, rfl⟩) (by assumption) ?_
  try simp only [Act.put, List.setIfInBounds_toArray, List.set_cons_zero, List.set_cons_succ]
  refine wpAnyH_take (i := 15) (oi := { dst := some 29, op := Op.move (Operand.tmp 5), type := 23, pos := "ref.go:86", after := #[{ on := 13, ground := Ground.guard }], guard := some (13, true) }) (v := undef) rfl (by kernel_rfl) (by kernel_rfl) (by kernel_rfl) (fun _ _ _ h => h) (Or.inr ⟨by rfl, rfl⟩) (by assumption) ?_
  try simp only [Act.put, List.setIfInBounds_toArray, List.set_cons_zero, List.set_cons_succ]
  refine wpAnyH_take (i := 16) (oi := { dst := some 30, op := Op.fieldAddr 65 (Operand.tmp 2) 2, type := 0, pos := "ref.go:86", after := #[{ on := 13, ground := Ground.guard }], guard := some (13, true) }) (v := undef) rfl (by kernel_rfl) (by kernel_rfl) (by kernel_rfl) (fun _ _ _ h => h) (Or.inr ⟨by rfl, rfl⟩) (by assumption) ?_
  try simp only [Act.put, List.setIfInBounds_toArray, List.set_cons_zero, List.set_cons_succ]
  refine wpAnyH_take (i := 17) (oi := { dst := some 31, op := Op.load 3 (Operand.tmp 30), type := 3, pos := "ref.go:86", after := #[{ on := 16, ground := Ground.data }, { on := 13, ground := Ground.guard }], guard := some (13, true) }) (v := undef) rfl (by kernel_rfl) (by kernel_rfl) (by kernel_rfl) (fun _ _ _ h => h) (Or.inr ⟨by rfl, rfl⟩) (by assumption) ?_
  try simp only [Act.put, List.setIfInBounds_toArray, List.set_cons_zero, List.set_cons_succ]
  refine wpAnyH_take (i := 18) (oi := { dst := some 32, op := Op.indexAddr 23 (Operand.tmp 29) (Operand.tmp 31), type := 0, pos := "ref.go:86", after := #[{ on := 15, ground := Ground.data }, { on := 17, ground := Ground.data }, { on := 13, ground := Ground.guard }], guard := some (13, true) }) (v := undef) rfl (by kernel_rfl) (by kernel_rfl) (by kernel_rfl) (fun _ _ _ h => h) (Or.inr ⟨by rfl, rfl⟩) (by assumption) ?_
  try simp only [Act.put, List.setIfInBounds_toArray, List.set_cons_zero, List.set_cons_succ]
  refine wpAnyH_take (i := 19) (oi := { dst := some 33, op := Op.fieldAddr 63 (Operand.tmp 32) 0, type := 0, pos := "ref.go:86", after := #[{ on := 18, ground := Ground.data }, { on := 13, ground := Ground.guard }], guard := some (13, true) }) (v := undef) rfl (by kernel_rfl) (by kernel_rfl) (by kernel_rfl) (fun _ _ _ h => h) (Or.inr ⟨by rfl, rfl⟩) (by assumption) ?_
  try simp only [Act.put, List.setIfInBounds_toArray, List.set_cons_zero, List.set_cons_succ]
  refine wpAnyH_take (i := 20) (oi := { dst := some 34, op := Op.load 9 (Operand.tmp 33), type := 9, pos := "ref.go:86", after := #[{ on := 19, ground := Ground.data }, { on := 13, ground := Ground.guard }], guard := some (13, true) }) (v := undef) rfl (by kernel_rfl) (by kernel_rfl) (by kernel_rfl) (fun _ _ _ h => h) (Or.inr ⟨by rfl, rfl⟩) (by assumption) ?_
  try simp only [Act.put, List.setIfInBounds_toArray, List.set_cons_zero, List.set_cons_succ]
  refine wpAnyH_take (i := 21) (oi := { dst := some 35, op := Op.call { callee := Callee.value (Operand.func 43), args := #[Operand.tmp 28, Operand.tmp 34], argTypes := #[23, 9] }, type := 3, pos := "ref.go:86", after := #[{ on := 14, ground := Ground.data }, { on := 20, ground := Ground.data }, { on := 13, ground := Ground.chain }, { on := 13, ground := Ground.guard }], guard := some (13, true) }) (v := undef) rfl (by kernel_rfl) (by kernel_rfl) (by kernel_rfl) (fun _ _ _ h => h) (Or.inr ⟨by rfl, rfl⟩) (by assumption) ?_
  try simp only [Act.put, List.setIfInBounds_toArray, List.set_cons_zero, List.set_cons_succ]
  refine wpAnyH_take (i := 22) (oi := { dst := some 36, op := Op.fieldAddr 65 (Operand.tmp 2) 2, type := 0, pos := "ref.go:86", after := #[{ on := 13, ground := Ground.guard }], guard := some (13, true) }) (v := undef) rfl (by kernel_rfl) (by kernel_rfl) (by kernel_rfl) (fun _ _ _ h => h) (Or.inr ⟨by rfl, rfl⟩) (by assumption) ?_
  try simp only [Act.put, List.setIfInBounds_toArray, List.set_cons_zero, List.set_cons_succ]
  refine wpAnyH_take (i := 23) (oi := { dst := some 37, op := Op.load 3 (Operand.tmp 36), type := 3, pos := "ref.go:86", after := #[{ on := 22, ground := Ground.data }, { on := 13, ground := Ground.guard }], guard := some (13, true) }) (v := undef) rfl (by kernel_rfl) (by kernel_rfl) (by kernel_rfl) (fun _ _ _ h => h) (Or.inr ⟨by rfl, rfl⟩) (by assumption) ?_
  try simp only [Act.put, List.setIfInBounds_toArray, List.set_cons_zero, List.set_cons_succ]
  refine wpAnyH_take (i := 24) (oi := { dst := some 38, op := Op.binOp BinOp.eql 3 (Operand.tmp 35) (Operand.tmp 37) 3, type := 4, pos := "ref.go:86", after := #[{ on := 21, ground := Ground.data }, { on := 23, ground := Ground.data }, { on := 13, ground := Ground.guard }], guard := some (13, true) }) (v := undef) rfl (by kernel_rfl) (by kernel_rfl) (by kernel_rfl) (fun _ _ _ h => h) (Or.inr ⟨by rfl, rfl⟩) (by assumption) ?_
  try simp only [Act.put, List.setIfInBounds_toArray, List.set_cons_zero, List.set_cons_succ]
  refine wpAnyH_take (i := 25) (oi := { dst := some 39, op := Op.pick (Operand.tmp 27) (Operand.tmp 38) (Operand.const (Value.bool false)), type := 4, pos := "ref.go:86", after := #[{ on := 13, ground := Ground.data }, { on := 24, ground := Ground.data }], guard := none }) (v := ?av25) rfl (by kernel_rfl) (by kernel_rfl) (by kernel_rfl) (fun _ _ _ h => h) (Or.inl ⟨by rfl, ?ay25⟩) (by assumption) ?ar25
  case ay25 => (intro w hSw; (try dsimp only at hSw); go_simp; try (with_reducible rfl))
  try simp only [Act.put, List.setIfInBounds_toArray, List.set_cons_zero, List.set_cons_succ]
  refine wpAnyH_take (i := 26) (oi := { dst := some 4, op := Op.assign (Operand.tmp 39), type := 4, pos := "ref.go:86", after := #[{ on := 25, ground := Ground.data }, { on := 21, ground := Ground.chain }, { on := 0, ground := Ground.phase }, { on := 1, ground := Ground.phase }, { on := 2, ground := Ground.phase }, { on := 3, ground := Ground.phase }, { on := 4, ground := Ground.phase }, { on := 5, ground := Ground.phase }, { on := 6, ground := Ground.phase }, { on := 7, ground := Ground.phase }, { on := 8, ground := Ground.phase }, { on := 9, ground := Ground.phase }, { on := 10, ground := Ground.phase }, { on := 11, ground := Ground.phase }, { on := 12, ground := Ground.phase }, { on := 13, ground := Ground.phase }, { on := 14, ground := Ground.phase }, { on := 15, ground := Ground.phase }, { on := 16, ground := Ground.phase }, { on := 17, ground := Ground.phase }, { on := 18, ground := Ground.phase }, { on := 19, ground := Ground.phase }, { on := 20, ground := Ground.phase }, { on := 21, ground := Ground.phase }, { on := 22, ground := Ground.phase }, { on := 23, ground := Ground.phase }, { on := 24, ground := Ground.phase }, { on := 25, ground := Ground.phase }], guard := none }) (v := ?av26) rfl (by kernel_rfl) (by kernel_rfl) (by kernel_rfl) (fun _ _ _ h => h) (Or.inl ⟨by rfl, ?ay26⟩) (by assumption) ?ar26
  case ay26 => (intro w hSw; (try dsimp only at hSw); go_simp; try (with_reducible rfl))
  try simp only [Act.put, List.setIfInBounds_toArray, List.set_cons_zero, List.set_cons_succ]
  refine wpAnyH_done (by kernel_rfl) ?_ _
  have HB5 : Hid (Below w1.heap.size w1 w5) := Lib.hid hNEW
  go_wp2
  go_ret
  exact ⟨rfl, below_step HW.out (below_step HV1.out HB5.out)⟩
set_option maxRecDepth 100000 in
set_option maxHeartbeats 8000000 in
theorem rres_fld_no2 (x : L NodeD) (p : ProgD) (ps : L FieldD) (n : Int) (f : Nat) (W w : World) (E : WEnv W x p ps) (hb : Below W.heap.size W w) (hn : n = -1 ∨ (0 ≤ n ∧ n.toNat < p.headers.l.length)) (F : L FieldD) (hFe : fldsL p n = F)
    (hF : LOk W 2 FieldD.cells F) (hf : f < F.l.length) (hs : F.l[f].name.size ≤ 1000) (h1 : rightH p n = true) (h2 : ident F.l[f].name = false) :
    Calls Tryz.prog 22 #[.agg #[.int .i64 2, .int .i64 n, .int .i64 f], .agg (scopeCells p ps)] w fun e w' => e = .returned (.bool (resM p ps.l ⟨2, n, f⟩)) ∧ Below w.heap.size w w' := by
  obtain ⟨V, hV, hw, HB, hp⟩ := box2 w #[.int .i64 2, .int .i64 n, .int .i64 f] 65 (scopeCells p ps) 44
  have HW := Lib.hid hw
  have HI := Lib.hid (fun u => show Calls Tryz.prog 42 #[.string F.l[f].name] u fun e w' => e = .returned (.bool false) ∧ u = w' from by
    have := risIdent_any F.l[f].name u (by unfold maxLen; omega)
    rw [show identM F.l[f].name.data.toList = false from h2] at this; exact this)
  have HG := Lib.hid (fun u (hu : Below V.heap.size V u) => rfields_any p ps n u (E.prog.below (below_step hb (below_step hw hu))) hn)
  have HC := Lib.hid (fun u (hu : Below V.heap.size V u) => show Calls Tryz.prog 41 #[.agg (scopeCells p ps), .int .i64 n] u fun e w' => e = .returned (.bool true) ∧ Below u.heap.size u w' from by
    have := rright_any p ps n u (E.prog.below (below_step hb (below_step hw hu))) E.nm hn
    rw [h1] at this; exact this)
  have HR : Hid (resM p ps.l ⟨2, n, f⟩ = false) := Lib.hid (by
    rw [show resM p ps.l ⟨2, n, f⟩ = (rightH p n && rightB (fNames (fldsL p n).l) (fldB (fldsL p n).l f) f) from rfl, h1, hFe, fld_at' hf, rightB, h2]; rfl)
  have hfi : (f : Int) < (F.l.length : Int) := by omega
  obtain ⟨g, of, hA, hall⟩ := FieldD.atA hF hf
  have hdd := fun u (hu : Below V.heap.size V u) => (hall u (below_step hb (below_step hw hu))).1
  rw [HR.out]
  rw [hFe] at HG
  clear hall E hs HR h1 h2 hF hFe
  simp only [hA] at HG
  generalize F.l[f].name = nm at *
  generalize F.l.length = fl at *
  generalize F.c = fc at *
  clear hA
  have H0 := Lib.hid HB
  go_enter Tryz.func22, Tryz.ntmps22
  go_upto_region 1 with fail
  rw [← hV]
  clear hV
  have hp1 := hp V H0.out
  go_wp2_with fail
  refine (HG.out _ (by first | exact HB | exact below_alloc HB _ | exact below_alloc (below_alloc HB _) _ | exact below_alloc (below_alloc (below_alloc HB _) _) _)).mono ?_
  rintro e w1 ⟨rfl, hbN⟩
  replace HB := below_step (by first | exact HB | exact below_alloc HB _ | exact below_alloc (below_alloc HB _) _ | exact below_alloc (below_alloc (below_alloc HB _) _) _) hbN
  clear hbN
  have HV1 := Lib.hid HB
  have H1 := Lib.hid (Below.refl w1.heap.size w1)
  have hp2 := fun u (hu : Below w1.heap.size w1 u) => hp u (below_step HV1.out hu)
  have hd2 := fun u (hu : Below w1.heap.size w1 u) => hdd u (below_step HV1.out hu)
  clear hp hdd HB hp1
  have hp3 := hp2 w1 H1.out
  go_upto_region 4 with fail
  clear hp3
  refine wp_region_held_drew (S := fun w' => Below w1.heap.size w1 w') (by kernel_rfl) (below_drew H1.out) (fun hHeld => ?_)
  refine wpAnyH_take (i := 0) (oi := { dst := some 14, op := Op.load 44 (Operand.tmp 3), type := 44, pos := "ref.go:86", after := #[], guard := none }) (v := ?bv0) rfl (by kernel_rfl) (by kernel_rfl) (by kernel_rfl) (fun _ _ _ h => h) (Or.inl ⟨by rfl, ?by0⟩) (by assumption) ?br0
  case by0 => (intro w hSw; (try dsimp only at hSw); go_simp; try (with_reducible rfl))
  try simp only [Act.put, List.setIfInBounds_toArray, List.set_cons_zero, List.set_cons_succ]
  refine wpAnyH_take (i := 1) (oi := { dst := some 15, op := Op.fieldAddr 65 (Operand.tmp 2) 1, type := 0, pos := "ref.go:86", after := #[], guard := none }) (v := ?bv1) rfl (by kernel_rfl) (by kernel_rfl) (by kernel_rfl) (fun _ _ _ h => h) (Or.inl ⟨by rfl, ?by1⟩) (by assumption) ?br1
  case by1 => (intro w hSw; (try dsimp only at hSw); go_simp; try (with_reducible rfl))
  try simp only [Act.put, List.setIfInBounds_toArray, List.set_cons_zero, List.set_cons_succ]
  refine wpAnyH_take (i := 2) (oi := { dst := some 16, op := Op.load 3 (Operand.tmp 15), type := 3, pos := "ref.go:86", after := #[{ on := 1, ground := Ground.data }], guard := none }) (v := ?bv2) rfl (by kernel_rfl) (by kernel_rfl) (by kernel_rfl) (fun _ _ _ h => h) (Or.inl ⟨by rfl, ?by2⟩) (by assumption) ?br2
  case by2 => (intro w hSw; (try dsimp only at hSw); go_simp; try (with_reducible rfl))
  try simp only [Act.put, List.setIfInBounds_toArray, List.set_cons_zero, List.set_cons_succ]
  refine wpAnyH_ready (rs := [3]) (by kernel_rfl) (by simp) ?_
  refine AllReadyH.cons (o := { dst := some 17, op := Op.call { callee := Callee.value (Operand.func 41), args := #[Operand.tmp 14, Operand.tmp 16], argTypes := #[44, 3] }, type := 4, pos := "ref.go:86", after := #[{ on := 0, ground := Ground.data }, { on := 2, ground := Ground.data }], guard := none }) rfl (fun K hK => ?_) AllReadyH.nil
  go_simp
  go_at_call 41
  refine (HC.out _ (below_step HV1.out (below_drew H1.out))).mono ?_
  rintro r w5 ⟨rfl, hb5⟩
  have hNEW : Below w1.heap.size w1 w5 := below_step (below_drew H1.out) hb5
  refine hK.out _ _ hNEW (fun hHeld2 => ?_)
  clear hK K
  try simp only [Act.put, List.setIfInBounds_toArray, List.set_cons_zero, List.set_cons_succ]
  refine wpAnyH_take (i := 4) (oi := { dst := some 18, op := Op.move (Operand.tmp 17), type := 4, pos := "ref.go:86", after := #[{ on := 3, ground := Ground.data }, { on := 3, ground := Ground.chain }], guard := none }) (v := ?bv4) rfl (by kernel_rfl) (by kernel_rfl) (by kernel_rfl) (fun _ _ _ h => h) (Or.inl ⟨by rfl, ?by4⟩) (by assumption) ?br4
  case by4 => (intro w hSw; (try dsimp only at hSw); go_simp; try (with_reducible rfl))
  try simp only [Act.put, List.setIfInBounds_toArray, List.set_cons_zero, List.set_cons_succ]
  refine wpAnyH_take (i := 5) (oi := { dst := some 19, op := Op.move (Operand.tmp 5), type := 23, pos := "ref.go:86", after := #[{ on := 4, ground := Ground.guard }], guard := some (4, true) }) (v := ?bv5) rfl (by kernel_rfl) (by kernel_rfl) (by kernel_rfl) (fun _ _ _ h => h) (Or.inl ⟨by rfl, ?by5⟩) (by assumption) ?br5
  case by5 => (intro w hSw; (try dsimp only at hSw); go_simp; try (with_reducible rfl))
  try simp only [Act.put, List.setIfInBounds_toArray, List.set_cons_zero, List.set_cons_succ]
  refine wpAnyH_take (i := 6) (oi := { dst := some 20, op := Op.fieldAddr 65 (Operand.tmp 2) 2, type := 0, pos := "ref.go:86", after := #[{ on := 4, ground := Ground.guard }], guard := some (4, true) }) (v := ?bv6) rfl (by kernel_rfl) (by kernel_rfl) (by kernel_rfl) (fun _ _ _ h => h) (Or.inl ⟨by rfl, ?by6⟩) (by assumption) ?br6
  case by6 => (intro w hSw; (try dsimp only at hSw); go_simp; try (with_reducible rfl))
  try simp only [Act.put, List.setIfInBounds_toArray, List.set_cons_zero, List.set_cons_succ]
  refine wpAnyH_take (i := 7) (oi := { dst := some 21, op := Op.load 3 (Operand.tmp 20), type := 3, pos := "ref.go:86", after := #[{ on := 6, ground := Ground.data }, { on := 4, ground := Ground.guard }], guard := some (4, true) }) (v := ?bv7) rfl (by kernel_rfl) (by kernel_rfl) (by kernel_rfl) (fun _ _ _ h => h) (Or.inl ⟨by rfl, ?by7⟩) (by assumption) ?br7
  case by7 => (intro w hSw; (try dsimp only at hSw); go_simp; try (with_reducible rfl))
  try simp only [Act.put, List.setIfInBounds_toArray, List.set_cons_zero, List.set_cons_succ]
  refine wpAnyH_take (i := 8) (oi := { dst := some 22, op := Op.indexAddr 23 (Operand.tmp 19) (Operand.tmp 21), type := 0, pos := "ref.go:86", after := #[{ on := 5, ground := Ground.data }, { on := 7, ground := Ground.data }, { on := 4, ground := Ground.guard }], guard := some (4, true) }) (v := ?bv8) rfl (by kernel_rfl) (by kernel_rfl) (by kernel_rfl) (fun _ _ _ h => h) (Or.inl ⟨by rfl, ?by8⟩) (by assumption) ?br8
  case by8 => (intro w hSw; (try dsimp only at hSw); go_simp; try (with_reducible rfl))
  try simp only [Act.put, List.setIfInBounds_toArray, List.set_cons_zero, List.set_cons_succ]
  refine wpAnyH_take (i := 9) (oi := { dst := some 23, op := Op.fieldAddr 63 (Operand.tmp 22) 0, type := 0, pos := "ref.go:86", after := #[{ on := 8, ground := Ground.data }, { on := 4, ground := Ground.guard }], guard := some (4, true) }) (v := ?bv9) rfl (by kernel_rfl) (by kernel_rfl) (by kernel_rfl) (fun _ _ _ h => h) (Or.inl ⟨by rfl, ?by9⟩) (by assumption) ?br9
  case by9 => (intro w hSw; (try dsimp only at hSw); go_simp; try (with_reducible rfl))
  try simp only [Act.put, List.setIfInBounds_toArray, List.set_cons_zero, List.set_cons_succ]
  refine wpAnyH_take (i := 10) (oi := { dst := some 24, op := Op.load 9 (Operand.tmp 23), type := 9, pos := "ref.go:86", after := #[{ on := 9, ground := Ground.data }, { on := 4, ground := Ground.guard }], guard := some (4, true) }) (v := ?bv10) rfl (by kernel_rfl) (by kernel_rfl) (by kernel_rfl) (fun _ _ _ h => h) (Or.inl ⟨by rfl, ?by10⟩) (by assumption) ?br10
  case by10 => (intro w hSw; (try dsimp only at hSw); go_simp; try (with_reducible rfl))
  try simp only [Act.put, List.setIfInBounds_toArray, List.set_cons_zero, List.set_cons_succ]
  refine wpAnyH_ready (rs := [11]) (by kernel_rfl) (by simp) ?_
  refine AllReadyH.cons (o := { dst := some 25, op := Op.call { callee := Callee.value (Operand.func 42), args := #[Operand.tmp 24], argTypes := #[9] }, type := 4, pos := "ref.go:86", after := #[{ on := 10, ground := Ground.data }, { on := 4, ground := Ground.chain }, { on := 4, ground := Ground.guard }], guard := some (4, true) }) rfl (fun K hK => ?_) AllReadyH.nil
  rw [if_pos (by rfl)]
  go_simp
  go_at_call 42
  refine (HI.out _).mono ?_
  rintro r w6 ⟨rfl, rfl⟩
  refine hK.out _ _ hNEW (fun hHeld2 => ?_)
  clear hK K
  try simp only [Act.put, List.setIfInBounds_toArray, List.set_cons_zero, List.set_cons_succ]
  refine wpAnyH_take (i := 12) (oi := { dst := some 26, op := Op.pick (Operand.tmp 18) (Operand.tmp 25) (Operand.const (Value.bool false)), type := 4, pos := "ref.go:86", after := #[{ on := 4, ground := Ground.data }, { on := 11, ground := Ground.data }], guard := none }) (v := ?bv12) rfl (by kernel_rfl) (by kernel_rfl) (by kernel_rfl) (fun _ _ _ h => h) (Or.inl ⟨by rfl, ?by12⟩) (by assumption) ?br12
  case by12 => (intro w hSw; (try dsimp only at hSw); go_simp; try (with_reducible rfl))
  try simp only [Act.put, List.setIfInBounds_toArray, List.set_cons_zero, List.set_cons_succ]
  refine wpAnyH_take (i := 13) (oi := { dst := some 27, op := Op.move (Operand.tmp 26), type := 4, pos := "ref.go:86", after := #[{ on := 12, ground := Ground.data }, { on := 11, ground := Ground.chain }], guard := none }) (v := ?bv13) rfl (by kernel_rfl) (by kernel_rfl) (by kernel_rfl) (fun _ _ _ h => h) (Or.inl ⟨by rfl, ?by13⟩) (by assumption) ?br13
  case by13 => (intro w hSw; (try dsimp only at hSw); go_simp; try (with_reducible rfl))
  try simp only [Act.put, List.setIfInBounds_toArray, List.set_cons_zero, List.set_cons_succ]
  refine wpAnyH_take (i := 14) (oi := { dst := some 28, op := Op.move (Operand.tmp 5), type := 23, pos := "ref.go:86", after := #[{ on := 13, ground := Ground.guard }], guard := some (13, true) }) (v := undef) rfl (by kernel_rfl) (by kernel_rfl) (by kernel_rfl) (fun _ _ _ h => h) (Or.inr ⟨by rfl, rfl⟩) (by assumption) ?_
  try simp only [Act.put, List.setIfInBounds_toArray, List.set_cons_zero, List.set_cons_succ]
  refine wpAnyH_take (i := 15) (oi := { dst := some 29, op := Op.move (Operand.tmp 5), type := 23, pos := "ref.go:86", after := #[{ on := 13, ground := Ground.guard }], guard := some (13, true) }) (v := undef) rfl (by kernel_rfl) (by kernel_rfl) (by kernel_rfl) (fun _ _ _ h => h) (Or.inr ⟨by rfl, rfl⟩) (by assumption) ?_
  try simp only [Act.put, List.setIfInBounds_toArray, List.set_cons_zero, List.set_cons_succ]
  refine wpAnyH_take (i := 16) (oi := { dst := some 30, op := Op.fieldAddr 65 (Operand.tmp 2) 2, type := 0, pos := "ref.go:86", after := #[{ on := 13, ground := Ground.guard }], guard := some (13, true) }) (v := undef) rfl (by kernel_rfl) (by kernel_rfl) (by kernel_rfl) (fun _ _ _ h => h) (Or.inr ⟨by rfl, rfl⟩) (by assumption) ?_
  try simp only [Act.put, List.setIfInBounds_toArray, List.set_cons_zero, List.set_cons_succ]
  refine wpAnyH_take (i := 17) (oi := { dst := some 31, op := Op.load 3 (Operand.tmp 30), type := 3, pos := "ref.go:86", after := #[{ on := 16, ground := Ground.data }, { on := 13, ground := Ground.guard }], guard := some (13, true) }) (v := undef) rfl (by kernel_rfl) (by kernel_rfl) (by kernel_rfl) (fun _ _ _ h => h) (Or.inr ⟨by rfl, rfl⟩) (by assumption) ?_
  try simp only [Act.put, List.setIfInBounds_toArray, List.set_cons_zero, List.set_cons_succ]
  refine wpAnyH_take (i := 18) (oi := { dst := some 32, op := Op.indexAddr 23 (Operand.tmp 29) (Operand.tmp 31), type := 0, pos := "ref.go:86", after := #[{ on := 15, ground := Ground.data }, { on := 17, ground := Ground.data }, { on := 13, ground := Ground.guard }], guard := some (13, true) }) (v := undef) rfl (by kernel_rfl) (by kernel_rfl) (by kernel_rfl) (fun _ _ _ h => h) (Or.inr ⟨by rfl, rfl⟩) (by assumption) ?_
  try simp only [Act.put, List.setIfInBounds_toArray, List.set_cons_zero, List.set_cons_succ]
  refine wpAnyH_take (i := 19) (oi := { dst := some 33, op := Op.fieldAddr 63 (Operand.tmp 32) 0, type := 0, pos := "ref.go:86", after := #[{ on := 18, ground := Ground.data }, { on := 13, ground := Ground.guard }], guard := some (13, true) }) (v := undef) rfl (by kernel_rfl) (by kernel_rfl) (by kernel_rfl) (fun _ _ _ h => h) (Or.inr ⟨by rfl, rfl⟩) (by assumption) ?_
  try simp only [Act.put, List.setIfInBounds_toArray, List.set_cons_zero, List.set_cons_succ]
  refine wpAnyH_take (i := 20) (oi := { dst := some 34, op := Op.load 9 (Operand.tmp 33), type := 9, pos := "ref.go:86", after := #[{ on := 19, ground := Ground.data }, { on := 13, ground := Ground.guard }], guard := some (13, true) }) (v := undef) rfl (by kernel_rfl) (by kernel_rfl) (by kernel_rfl) (fun _ _ _ h => h) (Or.inr ⟨by rfl, rfl⟩) (by assumption) ?_
  try simp only [Act.put, List.setIfInBounds_toArray, List.set_cons_zero, List.set_cons_succ]
  refine wpAnyH_take (i := 21) (oi := { dst := some 35, op := Op.call { callee := Callee.value (Operand.func 43), args := #[Operand.tmp 28, Operand.tmp 34], argTypes := #[23, 9] }, type := 3, pos := "ref.go:86", after := #[{ on := 14, ground := Ground.data }, { on := 20, ground := Ground.data }, { on := 13, ground := Ground.chain }, { on := 13, ground := Ground.guard }], guard := some (13, true) }) (v := undef) rfl (by kernel_rfl) (by kernel_rfl) (by kernel_rfl) (fun _ _ _ h => h) (Or.inr ⟨by rfl, rfl⟩) (by assumption) ?_
  try simp only [Act.put, List.setIfInBounds_toArray, List.set_cons_zero, List.set_cons_succ]
  refine wpAnyH_take (i := 22) (oi := { dst := some 36, op := Op.fieldAddr 65 (Operand.tmp 2) 2, type := 0, pos := "ref.go:86", after := #[{ on := 13, ground := Ground.guard }], guard := some (13, true) }) (v := undef) rfl (by kernel_rfl) (by kernel_rfl) (by kernel_rfl) (fun _ _ _ h => h) (Or.inr ⟨by rfl, rfl⟩) (by assumption) ?_
  try simp only [Act.put, List.setIfInBounds_toArray, List.set_cons_zero, List.set_cons_succ]
  refine wpAnyH_take (i := 23) (oi := { dst := some 37, op := Op.load 3 (Operand.tmp 36), type := 3, pos := "ref.go:86", after := #[{ on := 22, ground := Ground.data }, { on := 13, ground := Ground.guard }], guard := some (13, true) }) (v := undef) rfl (by kernel_rfl) (by kernel_rfl) (by kernel_rfl) (fun _ _ _ h => h) (Or.inr ⟨by rfl, rfl⟩) (by assumption) ?_
  try simp only [Act.put, List.setIfInBounds_toArray, List.set_cons_zero, List.set_cons_succ]
  refine wpAnyH_take (i := 24) (oi := { dst := some 38, op := Op.binOp BinOp.eql 3 (Operand.tmp 35) (Operand.tmp 37) 3, type := 4, pos := "ref.go:86", after := #[{ on := 21, ground := Ground.data }, { on := 23, ground := Ground.data }, { on := 13, ground := Ground.guard }], guard := some (13, true) }) (v := undef) rfl (by kernel_rfl) (by kernel_rfl) (by kernel_rfl) (fun _ _ _ h => h) (Or.inr ⟨by rfl, rfl⟩) (by assumption) ?_
  try simp only [Act.put, List.setIfInBounds_toArray, List.set_cons_zero, List.set_cons_succ]
  refine wpAnyH_take (i := 25) (oi := { dst := some 39, op := Op.pick (Operand.tmp 27) (Operand.tmp 38) (Operand.const (Value.bool false)), type := 4, pos := "ref.go:86", after := #[{ on := 13, ground := Ground.data }, { on := 24, ground := Ground.data }], guard := none }) (v := ?bv25) rfl (by kernel_rfl) (by kernel_rfl) (by kernel_rfl) (fun _ _ _ h => h) (Or.inl ⟨by rfl, ?by25⟩) (by assumption) ?br25
  case by25 => (intro w hSw; (try dsimp only at hSw); go_simp; try (with_reducible rfl))
  try simp only [Act.put, List.setIfInBounds_toArray, List.set_cons_zero, List.set_cons_succ]
  refine wpAnyH_take (i := 26) (oi := { dst := some 4, op := Op.assign (Operand.tmp 39), type := 4, pos := "ref.go:86", after := #[{ on := 25, ground := Ground.data }, { on := 21, ground := Ground.chain }, { on := 0, ground := Ground.phase }, { on := 1, ground := Ground.phase }, { on := 2, ground := Ground.phase }, { on := 3, ground := Ground.phase }, { on := 4, ground := Ground.phase }, { on := 5, ground := Ground.phase }, { on := 6, ground := Ground.phase }, { on := 7, ground := Ground.phase }, { on := 8, ground := Ground.phase }, { on := 9, ground := Ground.phase }, { on := 10, ground := Ground.phase }, { on := 11, ground := Ground.phase }, { on := 12, ground := Ground.phase }, { on := 13, ground := Ground.phase }, { on := 14, ground := Ground.phase }, { on := 15, ground := Ground.phase }, { on := 16, ground := Ground.phase }, { on := 17, ground := Ground.phase }, { on := 18, ground := Ground.phase }, { on := 19, ground := Ground.phase }, { on := 20, ground := Ground.phase }, { on := 21, ground := Ground.phase }, { on := 22, ground := Ground.phase }, { on := 23, ground := Ground.phase }, { on := 24, ground := Ground.phase }, { on := 25, ground := Ground.phase }], guard := none }) (v := ?bv26) rfl (by kernel_rfl) (by kernel_rfl) (by kernel_rfl) (fun _ _ _ h => h) (Or.inl ⟨by rfl, ?by26⟩) (by assumption) ?br26
  case by26 => (intro w hSw; (try dsimp only at hSw); go_simp; try (with_reducible rfl))
  try simp only [Act.put, List.setIfInBounds_toArray, List.set_cons_zero, List.set_cons_succ]
  refine wpAnyH_done (by kernel_rfl) ?_ _
  have HB5 : Hid (Below w1.heap.size w1 w5) := Lib.hid hNEW
  go_wp2
  go_ret
  exact ⟨rfl, below_step HW.out (below_step HV1.out HB5.out)⟩
end Go.Proofs.YtpomjcndeanjgaaGreatDoor
namespace Go.Proofs.YtpomjcndeanjgaaGreatDoor
open Go.RowKit
theorem rres_any (x : L NodeD) (p : ProgD) (ps : L FieldD) (y : NodeD) (W w : World) (E : WEnv W x p ps) (hb : Below W.heap.size W w) (hk : NodeOk p ps.l y) :
    Calls Tryz.prog 22 #[.agg #[.int .i64 y.op, .int .i64 y.n, .int .i64 y.w], .agg (scopeCells p ps)] w fun e w' => e = .returned (.bool (resM p ps.l y)) ∧ Below w.heap.size w w' := by
  obtain ⟨op, n, wd⟩ := y
  by_cases h2 : op = 2
  · subst h2
    obtain ⟨hn, w0, w1⟩ : (n = -1 ∨ (0 ≤ n ∧ n.toNat < p.headers.l.length)) ∧ 0 ≤ wd ∧ wd.toNat < (fldsL p n).l.length := hk.c2 rfl
    obtain ⟨f, rfl⟩ : ∃ f : Nat, wd = f := ⟨wd.toNat, (Int.toNat_of_nonneg w0).symm⟩
    have hf : f < (fldsL p n).l.length := by simpa using w1
    have hF : LOk W 2 FieldD.cells (fldsL p n) ∧ ∀ z ∈ (fldsL p n).l, z.name.size ≤ 1000 := by
      rcases hn with rfl | ⟨h0, h1⟩
      · exact ⟨E.prog.metadata, E.nm.met⟩
      · obtain ⟨k, rfl⟩ : ∃ k : Nat, n = k := ⟨n.toNat, (Int.toNat_of_nonneg h0).symm⟩
        have hk1 : k < p.headers.l.length := by simpa using h1
        rw [(hdr_at' p hk1).2]
        exact ⟨(E.prog.hdr _ (List.getElem_mem hk1)).fields, E.nm.fld _ (List.getElem_mem hk1)⟩
    rcases h1 : rightH p n with _ | _
    · exact rres_fld_no1 x p ps n f W w E hb hn _ rfl hF.1 hf h1
    · rcases h2 : ident (fldsL p n).l[f].name with _ | _
      · exact rres_fld_no2 x p ps n f W w E hb hn _ rfl hF.1 hf (hF.2 _ (List.getElem_mem hf)) h1 h2
      · exact rres_fld_yes x p ps n f W w E hb hn _ rfl hF.1 hf (hF.2 _ (List.getElem_mem hf)) h1 h2
  by_cases h3 : op = 3
  · subst h3
    obtain ⟨n0, n1⟩ : 0 ≤ n ∧ n.toNat < ps.l.length := hk.c3 rfl
    obtain ⟨k, rfl⟩ : ∃ k : Nat, n = k := ⟨n.toNat, (Int.toNat_of_nonneg n0).symm⟩
    exact rres_par x p ps k wd W w E hb (by simpa using n1)
  by_cases h4 : op = 4
  · subst h4
    exact rres_valid x p ps n wd W w E hb (hk.c4 rfl)
  exact rres_other p ps op n wd w h2 h3 h4
theorem tx_ok {p : ProgD} {ps : List FieldD} {l : List NodeD} {i j : Nat} {s : ByteArray} (h : Tx p ps l i j s) : ∀ k (hk : k < l.length), i ≤ k → k < j → NodeOk p ps l[k] := by
  have hd : ∀ {i : Nat} {x : NodeD}, l[i]? = some x → ∀ k (hk : k < l.length), k = i → NodeOk p ps x → NodeOk p ps l[k] := fun {i x} h k hk e o => by
    subst e
    rw [List.getElem?_eq_getElem hk] at h
    injection h with h
    rw [h]; exact o
  induction h with
  | @leaf i x h ha ho => intro k hk h1 h2; exact hd h k hk (by omega) ho
  | @un i j x y s h ha ho hy t1 ih =>
    intro k hk h1 h2
    rcases Nat.lt_or_ge i k with h3 | h3
    · exact ih k hk (by omega) h2
    · exact hd h k hk (by omega) ho
  | @bi i m j x y z s t h ha ho hy t1 hz t2 ih1 ih2 =>
    intro k hk h1 h2
    rcases Nat.lt_or_ge i k with h3 | h3
    · rcases Nat.lt_or_ge k m with h4 | h4
      · exact ih1 k hk (by omega) h4
      · exact ih2 k hk h4 h2
    · exact hd h k hk (by omega) ho
  | @tri i m n j x y z u s t r h ha ho hy t1 hz t2 hu t3 ih1 ih2 ih3 =>
    intro k hk h1 h2
    rcases Nat.lt_or_ge i k with h3 | h3
    · rcases Nat.lt_or_ge k m with h4 | h4
      · exact ih1 k hk (by omega) h4
      · rcases Nat.lt_or_ge k n with h5 | h5
        · exact ih2 k hk h4 h5
        · exact ih3 k hk h5 h2
    · exact hd h k hk (by omega) ho
end Go.Proofs.YtpomjcndeanjgaaGreatDoor
namespace Go.Proofs.YtpomjcndeanjgaaGreatDoor
open Go.RowKit
set_option maxRecDepth 100000 in
set_option maxHeartbeats 4000000 in
theorem rformat_any (p : ProgD) (ps : L FieldD) (x : L NodeD) (w : World) (o : ProgOk w p) (hps : LOk w 2 FieldD.cells ps) (hx : LOk w 3 NodeD.cells x) (ht : Tab w) (nm : Names p ps.l) :
    Calls Tryz.prog 9 #[.slice x.A x.l.length x.c, .agg (scopeCells p ps)] w fun e w' => e = .returned (.tuple #[.string (fmtM p ps.l x.l).1, .int .i64 (fmtM p ps.l x.l).2]) ∧ Below w.heap.size w w' := by
  have HE : Hid (WEnv w x p ps) := Lib.hid ⟨ht, hx, o, hps, nm⟩
  clear o hps hx ht nm
  obtain ⟨W, hW, hw, HB, hp⟩ := box1 w (scopeCells p ps) 44
  have HW := Lib.hid hw
  clear hw
  have HR : Hid (fmtM p ps.l x.l = _) := Lib.hid (by rw [fmtM])
  generalize fmtM p ps.l x.l = R at *
  go_enter Tryz.func9, Tryz.ntmps9
  go_upto_region 1 with fail
  rw [← hW]
  clear hW
  go_wp2_with fail
  refine (rexprCheck_any p ps x _ (HE.out.prog.below (below_step HW.out (by first | exact HB | exact below_alloc HB _ | exact below_alloc (below_alloc HB _) _ | exact below_alloc (below_alloc (below_alloc HB _) _) _))) (HE.out.pars.below (below_step HW.out (by first | exact HB | exact below_alloc HB _ | exact below_alloc (below_alloc HB _) _ | exact below_alloc (below_alloc (below_alloc HB _) _) _)) (Nat.le_refl _)) (HE.out.nodes.below (below_step HW.out (by first | exact HB | exact below_alloc HB _ | exact below_alloc (below_alloc HB _) _ | exact below_alloc (below_alloc (below_alloc HB _) _) _)) (Nat.le_refl _))).mono ?_
  rintro e w1 ⟨rfl, hbN⟩
  replace HB := below_step (by first | exact HB | exact below_alloc HB _ | exact below_alloc (below_alloc HB _) _ | exact below_alloc (below_alloc (below_alloc HB _) _) _) hbN
  clear hbN
  generalize hr : exprM p ps.l x.l = r at *
  obtain ⟨a, c⟩ := r
  simp only at HR
  by_cases k5 : c = 0
  case neg =>
    have k5' : (c != 0) = true := bne_iff_ne.2 k5
    replace HR : Hid (R = (⟨#[]⟩, c)) := Lib.hid (by rw [HR.out]; simp [k5])
    go_wp2
    go_ret2
    exact ⟨ret_se HR.out, below_step HW.out HB⟩
  subst k5
  obtain ⟨htx, hlen⟩ := expr_tx (by rw [hr])
  have HTX : Hid (TxtC w x p ps 0 (txtM p ps.l x.l (x.l.length + 1) 0).1) := Lib.hid (tx_text HE.out hlen htx)
  have HOK : Hid (∀ k (hk : k < x.l.length), NodeOk p ps.l x.l[k]) := Lib.hid (fun k hk => tx_ok htx k hk (Nat.zero_le _) hk)
  replace HR : Hid (R = if badB p ps.l x.l 0 x.l.length = true then (⟨#[]⟩, 6) else ((txtM p ps.l x.l (x.l.length + 1) 0).1, 0)) := Lib.hid (by rw [HR.out]; simp)
  generalize (txtM p ps.l x.l (x.l.length + 1) 0).1 = s at *
  have HX := Lib.hid HE.out.nodes
  clear hr htx
  go_wp2
  go_loopw [8] (fun iv wr => ∃ k : Nat, k ≤ x.l.length ∧ iv = .int .i64 k ∧ Hid (∀ j (hj : j < x.l.length), j < k → resM p ps.l x.l[j] = true) ∧ Below W.heap.size W wr) (fun iv _ => x.l.length - (intOf iv).toNat)
  case atStart => exact ⟨0, Nat.zero_le _, rfl, Lib.hid (fun j _ h => absurd h (Nat.not_lt_zero _)), HB⟩
  case round =>
  obtain ⟨k, hk, rfl, HA, hbw⟩ := hrel
  have HBw := Lib.hid hbw
  have hps := fun u (h : Below wr.heap.size wr u) => hp u (below_step HBw.out h)
  have H0 := Lib.hid (Below.refl wr.heap.size wr)
  clear hp hbw HB
  by_cases hlt : k < x.l.length
  · obtain ⟨g, of, hA, hq⟩ := NodeD.atA HX.out hlt
    have hqs := fun u (h : Below wr.heap.size wr u) => hq u (below_step HW.out (below_step HBw.out h))
    clear hq
    have hlt' : (k : Int) < (x.l.length : Int) := by omega
    have HC : Hid (∀ u, Below w.heap.size w u → Calls Tryz.prog 22 #[.agg #[.int .i64 x.l[k].op, .int .i64 x.l[k].n, .int .i64 x.l[k].w], .agg (scopeCells p ps)] u fun e w' => e = .returned (.bool (resM p ps.l x.l[k])) ∧ Below u.heap.size u w') := Lib.hid (fun u hb => rres_any x p ps x.l[k] w u HE.out hb (HOK.out k hlt))
    have HS : Hid (∀ u, Below wr.heap.size wr u → Below w.heap.size w u) := Lib.hid (fun u h => below_step HW.out (below_step HBw.out h))
    have HQ : Hid (resM p ps.l x.l[k] = true → ∀ j (hj : j < x.l.length), j < k + 1 → resM p ps.l x.l[j] = true) := Lib.hid (fun hw j hj h => by
      rcases Nat.lt_succ_iff_lt_or_eq.1 h with h | h
      · exact HA.out j hj h
      · subst h; exact hw)
    have HF : Hid (resM p ps.l x.l[k] = false → R = (⟨#[]⟩, 6)) := Lib.hid (fun hw => by rw [HR.out, if_pos (bad_iff.2 ⟨k, Nat.zero_le _, hlt, x.l[k], List.getElem?_eq_getElem hlt, hw⟩)])
    generalize x.l[k] = y at *
    obtain ⟨op, n, wd⟩ := y
    simp only at hqs HC
    generalize resM p ps.l ⟨op, n, wd⟩ = b at *
    have HAA := Lib.hid hA
    clear hA HA HR HTX HOK HX HE hlt
    simp only [HAA.out]
    cases b with
    | false =>
      have HR2 := Lib.hid (HF.out rfl)
      clear HQ HF
      go_upto_region 7 with fail
      go_region_held3 (fun w' => Below wr.heap.size wr w') (first | exact H0.out | exact below_drew H0.out | (exact below_step (by assumption) (by assumption)) | assumption)
        (first | (go_at_call 22; refine (HC.out _ (HS.out _ (by assumption))).mono ?_; rintro r w5 ⟨rfl, hb5⟩))
      all_goals
        have HB5 : Hid (Below wr.heap.size wr _) := Lib.hid (by assumption)
        go_wp2
        go_ret2
        exact ⟨ret_se HR2.out, HS.out _ HB5.out⟩
    | true =>
      have HQ2 := Lib.hid (HQ.out rfl)
      clear HQ HF
      go_upto_region 7 with fail
      go_region_held3 (fun w' => Below wr.heap.size wr w') (first | exact H0.out | exact below_drew H0.out | (exact below_step (by assumption) (by assumption)) | assumption)
        (first | (go_at_call 22; refine (HC.out _ (HS.out _ (by assumption))).mono ?_; rintro r w5 ⟨rfl, hb5⟩))
      all_goals
        have HB5 : Hid (Below wr.heap.size wr _) := Lib.hid (by assumption)
        go_wp2
        go_roundw
        case rel => exact ⟨k + 1, by omega, by go_num, HQ2, below_step HBw.out HB5.out⟩
        case measure => simp [intOf]; omega
  · have hk' : k = x.l.length := by omega
    subst hk'
    have HR2 : Hid (R = (s, 0)) := Lib.hid (by
      rw [HR.out, if_neg (fun h => ?_)]
      obtain ⟨j, _, h2, y, h3, h4⟩ := bad_iff.1 h
      rw [List.getElem?_eq_getElem h2] at h3
      injection h3 with h3
      rw [← h3, HA.out j h2 h2] at h4
      cases h4)
    have HT : Hid (Calls Tryz.prog 23 #[.slice x.A x.l.length x.c, .int .i64 0, .agg (scopeCells p ps)] wr fun e w' => e = .returned (.string s) ∧ Below wr.heap.size wr w') := Lib.hid (HTX.out wr (below_step HW.out HBw.out))
    have hp2 := hps wr H0.out
    clear HR HA hlt HOK hps
    go_wp2_with fail
    refine HT.out.mono ?_
    rintro e w5 ⟨rfl, hb5⟩
    have HB5 := Lib.hid hb5
    clear hb5 hp2 HT
    go_wp2
    go_ret2
    exact ⟨ret_se HR2.out, below_step HW.out (below_step HBw.out HB5.out)⟩
end Go.Proofs.YtpomjcndeanjgaaGreatDoor
namespace Go.Proofs.YtpomjcndeanjgaaGreatDoor
open Go.RowKit
set_option maxRecDepth 100000 in
set_option maxHeartbeats 400000 in
theorem rdig5_any (c : Int) (w : World) :
    Calls Tryz.prog 83 #[.int .u8 c] w fun e w' => e = .returned (.bool (isDig c)) ∧ w = w' := by
  go_enter Tryz.func83, Tryz.ntmps83
  go_wp2
  all_goals (go_ret; exact ⟨ret_bool (by rw [Bool.eq_iff_iff]; simp [isDig]; omega), rfl⟩)
set_option maxRecDepth 100000 in
set_option maxHeartbeats 400000 in
theorem rhexd_any (c : Int) (w : World) :
    Calls Tryz.prog 111 #[.int .u8 c] w fun e w' => e = .returned (.bool (isHexd c)) ∧ w = w' := by
  go_enter Tryz.func111, Tryz.ntmps111
  go_wp2_with (first
    | (go_at_call 83; refine (rdig5_any _ _).mono ?_; rintro e w' ⟨rfl, rfl⟩))
  all_goals (go_ret; exact ⟨ret_bool (by rw [Bool.eq_iff_iff]; simp [isHexd, *]; try omega), rfl⟩)
theorem ext_step {p : Int → Bool} {l : List UInt8} {k : Nat} (hk : k ≤ ext p l) (hlt : k < l.length) (hp : p ((l[k]'hlt).toNat : Nat) = true) : k + 1 ≤ ext p l := by
  rcases Nat.lt_or_ge k (ext p l) with h | h
  · exact h
  · have e : ext p l = k := by omega
    have := ext_stop p l (by omega)
    simp only [e] at this
    rw [hp] at this
    cases this
theorem ext_end {p : Int → Bool} {l : List UInt8} {k : Nat} (hk : k ≤ ext p l) (hlt : k < l.length) (hp : p ((l[k]'hlt).toNat : Nat) = false) : ext p l = k := by
  rcases Nat.lt_or_ge k (ext p l) with h | h
  · have := ext_all p l k h
    rw [hp] at this; cases this
  · omega
def symList : List (List UInt8) := twos ++ [[40], [41], [91], [93], [123], [125], [44], [59], [58], [46], [60], [62], [43], [45], [38], [124], [94], [126], [33], [42], [47], [61], [63], [64], [37]]
def symStr : List Value := symList.map fun l => .string ⟨l.toArray⟩
set_option maxRecDepth 100000 in
set_option maxHeartbeats 400000 in
theorem symbols_any (w : World) :
    Calls Tryz.prog 87 #[] w fun e w' => e = .returned (.slice (some ⟨w.heap.size, 0, none⟩) 34 34) ∧ w' = w.alloc (.cells symStr.toArray 9) := by
  go_enter Tryz.func87, Tryz.ntmps87
  go_wp2
  go_ret
  exact ⟨rfl, rfl⟩
def rtooGreat (l : List UInt8) : Bool :=
  if 2 < l.length ∧ l.take 2 = [48, 120] then decide (ext isHexd (l.drop 2) = l.length - 2)
  else decide (ext isDig l = l.length) && decide (l.head? ≠ some 48)
set_option maxRecDepth 100000 in
set_option maxHeartbeats 1000000 in
theorem tooGreat_hex (s : ByteArray) (w : World) (hs : s.size ≤ 1048576) (h2 : 2 < s.size) (hp : s.data.toList.take 2 = [48, 120]) :
    Calls Tryz.prog 88 #[.string s] w fun e w' => e = .returned (.bool (decide (ext isHexd (s.data.toList.drop 2) = s.size - 2))) ∧ w = w' := by
  have hp' : ((s.extract 0 2).toList == [48, 120]) = true := by rw [ext2]; simp [hp]
  clear hp
  have hle : ext isHexd (s.data.toList.drop 2) ≤ s.size - 2 := Nat.le_trans (ext_le _ _) (by rw [List.length_drop]; exact Nat.le_refl _)
  go_enter Tryz.func88, Tryz.ntmps88
  go_wp2
  go_loop [3] (fun i => ∃ k : Nat, 2 ≤ k ∧ k - 2 ≤ ext isHexd (s.data.toList.drop 2) ∧ i = .int .i64 k) (fun i => s.size - (intOf i).toNat)
  case atStart => exact ⟨2, Nat.le_refl _, by omega, rfl⟩
  case round =>
    obtain ⟨k, hk2, hk, rfl⟩ := hrel
    by_cases hlt : k < s.size
    · have hlt' : k - 2 < (s.data.toList.drop 2).length := by rw [List.length_drop]; show k - 2 < s.size - 2; omega
      have e : (s.data.toList.drop 2)[k - 2]'hlt' = s[k] := by rw [List.getElem_drop]; simp only [show 2 + (k - 2) = k from by omega]; rfl
      have HE := Lib.hid e
      clear e
      rcases hb : isHexd (s[k].toNat : Int) with _ | _
      · have HB := Lib.hid hb
        clear hb
        go_wp2_with fail
        refine (rhexd_any _ _).mono ?_
        rintro e w' ⟨rfl, rfl⟩
        have hb := HB.out
        go_wp2
        go_ret
        refine ⟨ret_bool ?_, rfl⟩
        have := ext_end hk hlt' (by rw [HE.out]; exact HB.out)
        show false = _
        rw [eq_comm, decide_eq_false_iff_not]; omega
      · have HB := Lib.hid hb
        clear hb
        go_wp2_with fail
        refine (rhexd_any _ _).mono ?_
        rintro e w' ⟨rfl, rfl⟩
        have hb := HB.out
        go_wp2
        go_round
        case rel =>
          have := ext_step hk hlt' (by rw [HE.out]; exact HB.out)
          exact ⟨k + 1, by omega, by omega, by go_num⟩
        case measure => simp [intOf]; omega
    · go_wp2
      go_ret
      refine ⟨ret_bool ?_, rfl⟩
      show true = _
      rw [eq_comm, decide_eq_true_iff]; omega
set_option maxRecDepth 100000 in
set_option maxHeartbeats 1000000 in
theorem tooGreat_dec (s : ByteArray) (w : World) (hs : s.size ≤ 1048576) (h0 : 0 < s.size) (hp : ¬ (2 < s.size ∧ s.data.toList.take 2 = [48, 120])) :
    Calls Tryz.prog 88 #[.string s] w fun e w' => e = .returned (.bool (decide (ext isDig s.data.toList = s.size) && decide (s.data.toList.head? ≠ some 48))) ∧ w = w' := by
  have hcase : ¬ 2 < s.size ∨ (2 < s.size ∧ ((s.extract 0 2).toList == [48, 120]) = false) := by
    by_cases h : 2 < s.size
    · refine .inr ⟨h, ?_⟩
      rw [beq_eq_false_iff_ne, ext2]
      exact fun e => hp ⟨h, e⟩
    · exact .inl h
  clear hp
  have HH := Lib.hid (head_ne s h0)
  have hle : ext isDig s.data.toList ≤ s.size := ext_le _ _
  rcases hcase with h2 | ⟨h2, hp'⟩
  all_goals
    go_enter Tryz.func88, Tryz.ntmps88
    go_wp2
    go_loop [4] (fun i => ∃ k : Nat, k ≤ ext isDig s.data.toList ∧ i = .int .i64 k) (fun i => s.size - (intOf i).toNat)
    case atStart => exact ⟨0, Nat.zero_le _, rfl⟩
    case round =>
      obtain ⟨k, hk, rfl⟩ := hrel
      by_cases hlt : k < s.size
      · rcases hb : isDig (s[k].toNat : Int) with _ | _
        · have HB := Lib.hid hb
          clear hb
          go_wp2_with fail
          refine (rdig5_any _ _).mono ?_
          rintro e w' ⟨rfl, rfl⟩
          have hb := HB.out
          go_wp2
          go_ret
          refine ⟨ret_bool ?_, rfl⟩
          have := ext_end hk hlt HB.out
          show false = _
          rw [eq_comm, Bool.and_eq_false_iff, decide_eq_false_iff_not]; left; omega
        · have HB := Lib.hid hb
          clear hb
          go_wp2_with fail
          refine (rdig5_any _ _).mono ?_
          rintro e w' ⟨rfl, rfl⟩
          have hb := HB.out
          go_wp2
          go_round
          case rel => exact ⟨k + 1, ext_step hk hlt HB.out, by go_num⟩
          case measure => simp [intOf]; omega
      · go_wp2
        go_ret
        refine ⟨ret_bool ?_, rfl⟩
        show ((s[0].toNat : Int) != 48) = _
        rw [HH.out, show decide (ext isDig s.data.toList = s.size) = true from by rw [decide_eq_true_iff]; omega, Bool.true_and]; simp
theorem tooGreat_any (s : ByteArray) (w : World) (hs : s.size ≤ 1048576) (h0 : 0 < s.size) :
    Calls Tryz.prog 88 #[.string s] w fun e w' => e = .returned (.bool (rtooGreat s.data.toList)) ∧ w = w' := by
  by_cases h : 2 < s.size ∧ s.data.toList.take 2 = [48, 120]
  · rw [rtooGreat, if_pos (show 2 < s.data.toList.length ∧ _ from h)]
    exact tooGreat_hex s w hs h.1 h.2
  · rw [rtooGreat, if_neg (show ¬ (2 < s.data.toList.length ∧ _) from h)]
    exact tooGreat_dec s w hs h0 h
end Go.Proofs.YtpomjcndeanjgaaGreatDoor
namespace Go.Proofs.YtpomjcndeanjgaaGreatDoor
open Go.RowKit
def firstM (l : List UInt8) : Tk :=
  match l with
  | [] => Tk.zero
  | c :: _ =>
    if isLet c.toNat = true then ⟨1, l.take (ext isWord l), 0, 0⟩
    else if isDig c.toNat = true then ⟨2, l.take (ext isAlnum l), (pu32 (l.take (ext isAlnum l))).getD 0, 0⟩
    else match symList.find? (fun x => x.isPrefixOf l) with
      | none => Tk.zero
      | some x => ⟨3, x, 0, 0⟩
theorem firstM_head (s : ByteArray) (h0 : 0 < s.size) : firstM s.data.toList =
    if isLet s[0].toNat = true then ⟨1, s.data.toList.take (ext isWord s.data.toList), 0, 0⟩
    else if isDig s[0].toNat = true then ⟨2, s.data.toList.take (ext isAlnum s.data.toList), (pu32 (s.data.toList.take (ext isAlnum s.data.toList))).getD 0, 0⟩
    else match symList.find? (fun x => x.isPrefixOf s.data.toList) with
      | none => Tk.zero
      | some x => ⟨3, x, 0, 0⟩ := by
  generalize hl : s.data.toList = l
  rw [list_one s h0] at hl
  subst hl
  rfl
def firstEnd (l : List UInt8) : Ending := .returned (.agg (firstM l).cells)
set_option maxRecDepth 100000 in
set_option maxHeartbeats 2000000 in
theorem first_let (s : ByteArray) (w : World) (hs : s.size ≤ 1048576) (h0 : 0 < s.size) (hl : isLet (s[0].toNat : Int) = true) :
    Calls Tryz.prog 49 #[.string s] w fun e w' => e = firstEnd s.data.toList ∧ Below w.heap.size w w' := by
  have hle : ext isWord s.data.toList ≤ s.size := ext_le _ _
  have h1 : 1 ≤ ext isWord s.data.toList := by rw [list_one s h0, ext, if_pos (isWord_let hl)]; omega
  have HN := Lib.hid (firstM_head s h0)
  have HL := Lib.hid hl
  clear hl
  go_enter Tryz.func49, Tryz.ntmps49
  go_wp2_with fail
  refine (rletter_any _ _).mono ?_
  rintro e w' ⟨rfl, rfl⟩
  have hl := HL.out
  go_wp2
  clear hl
  go_loop [3] (fun i => ∃ k : Nat, 1 ≤ k ∧ k ≤ ext isWord s.data.toList ∧ i = .int .i64 k) (fun i => s.size - (intOf i).toNat)
  case atStart => exact ⟨1, Nat.le_refl _, h1, rfl⟩
  case round =>
    obtain ⟨k, hk1, hk, rfl⟩ := hrel
    by_cases hlt : k < s.size
    · rcases hb1 : isLet (s[k].toNat : Int) with _ | _
      · have HB1 := Lib.hid hb1
        clear hb1
        rcases hb2 : isDig (s[k].toNat : Int) with _ | _
        · have HB2 := Lib.hid hb2
          clear hb2
          rcases hb3 : ((s[k].toNat : Int) == 95) with _ | _
          · have HW : Hid (isWord (s[k].toNat : Int) = false) := Lib.hid (by rw [isWord, HB1.out, HB2.out, hb3]; rfl)
            go_wp2_with fail
            refine (rletter_any _ _).mono ?_
            rintro e w' ⟨rfl, rfl⟩
            have hb1 := HB1.out
            go_wp2_with fail
            refine (rdig5_any _ _).mono ?_
            rintro e w' ⟨rfl, rfl⟩
            have hb2 := HB2.out
            go_wp2
            have he := ext_end hk hlt HW.out
            refine bodyPost_ret (v := .agg #[.int .i64 1, .string (s.extract 0 k), .int .u32 0, .int .i64 0]) (by simp [results, Tryz.results49, go_sem]) rfl ⟨?_, (Below.refl _ _).alloc (Nat.le_refl _) _⟩
            rw [firstEnd, HN.out, if_pos HL.out, take_str, he]
            rfl
          · have HW : Hid (isWord (s[k].toNat : Int) = true) := Lib.hid (by rw [isWord, hb3, Bool.or_true])
            go_wp2_with fail
            refine (rletter_any _ _).mono ?_
            rintro e w' ⟨rfl, rfl⟩
            have hb1 := HB1.out
            go_wp2_with fail
            refine (rdig5_any _ _).mono ?_
            rintro e w' ⟨rfl, rfl⟩
            have hb2 := HB2.out
            go_wp2
            go_round
            case rel => exact ⟨k + 1, by omega, ext_step hk hlt HW.out, by go_num⟩
            case measure => simp [intOf]; omega
        · have HB2 := Lib.hid hb2
          clear hb2
          have HW : Hid (isWord (s[k].toNat : Int) = true) := Lib.hid (by rw [isWord, HB2.out, Bool.or_true, Bool.true_or])
          go_wp2_with fail
          refine (rletter_any _ _).mono ?_
          rintro e w' ⟨rfl, rfl⟩
          have hb1 := HB1.out
          go_wp2_with fail
          refine (rdig5_any _ _).mono ?_
          rintro e w' ⟨rfl, rfl⟩
          have hb2 := HB2.out
          go_wp2
          go_round
          case rel => exact ⟨k + 1, by omega, ext_step hk hlt HW.out, by go_num⟩
          case measure => simp [intOf]; omega
      · have HB1 := Lib.hid hb1
        clear hb1
        have HW : Hid (isWord (s[k].toNat : Int) = true) := Lib.hid (isWord_let HB1.out)
        go_wp2_with fail
        refine (rletter_any _ _).mono ?_
        rintro e w' ⟨rfl, rfl⟩
        have hb1 := HB1.out
        go_wp2
        go_round
        case rel => exact ⟨k + 1, by omega, ext_step hk hlt HW.out, by go_num⟩
        case measure => simp [intOf]; omega
    · have he : ext isWord s.data.toList = k := by omega
      have HE := Lib.hid he
      clear he
      go_wp2
      refine bodyPost_ret (v := .agg #[.int .i64 1, .string (s.extract 0 k), .int .u32 0, .int .i64 0]) (by simp [results, Tryz.results49, go_sem]) rfl ⟨?_, (Below.refl _ _).alloc (Nat.le_refl _) _⟩
      rw [firstEnd, HN.out, if_pos HL.out, take_str, HE.out]
      rfl
def DigEnd (s : ByteArray) (w : World) (e : Ending) (w' : World) : Prop := e = firstEnd s.data.toList ∧ Below w.heap.size w w'
set_option maxRecDepth 100000 in
set_option maxHeartbeats 2000000 in
theorem first_dig (s : ByteArray) (w : World) (hs : s.size ≤ 1048576) (h0 : 0 < s.size) (hl : isLet (s[0].toNat : Int) = false) (hd : isDig (s[0].toNat : Int) = true) :
    Calls Tryz.prog 49 #[.string s] w fun e w' => DigEnd s w e w' := by
  have hle : ext isAlnum s.data.toList ≤ s.size := ext_le _ _
  have h1 : 1 ≤ ext isAlnum s.data.toList := by rw [list_one s h0, ext, if_pos (by rw [isAlnum, hd, Bool.or_true])]; omega
  have HN := Lib.hid (firstM_head s h0)
  have HL := Lib.hid hl
  have HD := Lib.hid hd
  clear hl hd
  go_enter Tryz.func49, Tryz.ntmps49
  go_wp2_with fail
  refine (rletter_any _ _).mono ?_
  rintro e w' ⟨rfl, rfl⟩
  have hl := HL.out
  go_wp2_with fail
  refine (rdig5_any _ _).mono ?_
  rintro e w' ⟨rfl, rfl⟩
  have hd := HD.out
  go_wp2
  clear hl hd
  go_loop [3] (fun i => ∃ k : Nat, 1 ≤ k ∧ k ≤ ext isAlnum s.data.toList ∧ i = .int .i64 k) (fun i => s.size - (intOf i).toNat)
  case atStart => exact ⟨1, Nat.le_refl _, h1, rfl⟩
  case round =>
    obtain ⟨k, hk1, hk, rfl⟩ := hrel
    have hcase : (k < s.size ∧ ∃ h : k < s.size, isLet ((s[k]'h).toNat : Int) = true) ∨ (k < s.size ∧ ∃ h : k < s.size, isLet ((s[k]'h).toNat : Int) = false ∧ isDig ((s[k]'h).toNat : Int) = true) ∨
        (ext isAlnum s.data.toList = k ∧ k < s.size ∧ ∃ h : k < s.size, isLet ((s[k]'h).toNat : Int) = false ∧ isDig ((s[k]'h).toNat : Int) = false) ∨ (ext isAlnum s.data.toList = k ∧ ¬ k < s.size) := by
      by_cases hlt : k < s.size
      · rcases hb1 : isLet (s[k].toNat : Int) with _ | _
        · rcases hb2 : isDig (s[k].toNat : Int) with _ | _
          · exact .inr (.inr (.inl ⟨ext_end hk hlt (by show isAlnum (s[k].toNat : Int) = false; rw [isAlnum, hb1, hb2]; rfl), hlt, hlt, hb1, hb2⟩))
          · exact .inr (.inl ⟨hlt, hlt, hb1, hb2⟩)
        · exact .inl ⟨hlt, hlt, hb1⟩
      · exact .inr (.inr (.inr ⟨by omega, hlt⟩))
    have HEND : Hid (ext isAlnum s.data.toList = k → firstM s.data.toList = ⟨2, s.data.toList.take k, (pu32 (s.data.toList.take k)).getD 0, 0⟩) := Lib.hid fun e => by
      rw [HN.out, if_neg (by rw [HL.out]; decide), if_pos HD.out, e]
    rcases hcase with ⟨hlt, hlt', hb1⟩ | ⟨hlt, hlt', hb1, hb2⟩ | hfin
    · have HB1 := Lib.hid hb1
      clear hb1
      go_wp2_with fail
      refine (rletter_any _ _).mono ?_
      rintro e w' ⟨rfl, rfl⟩
      have hb1 := HB1.out
      go_wp2
      go_round
      case rel => exact ⟨k + 1, by omega, ext_step hk hlt (by show isAlnum (s[k].toNat : Int) = true; rw [isAlnum, hb1]; rfl), by go_num⟩
      case measure => simp [intOf]; omega
    · have HB1 := Lib.hid hb1
      have HB2 := Lib.hid hb2
      clear hb1 hb2
      go_wp2_with fail
      refine (rletter_any _ _).mono ?_
      rintro e w' ⟨rfl, rfl⟩
      have hb1 := HB1.out
      go_wp2_with fail
      refine (rdig5_any _ _).mono ?_
      rintro e w' ⟨rfl, rfl⟩
      have hb2 := HB2.out
      go_wp2
      go_round
      case rel => exact ⟨k + 1, by omega, ext_step hk hlt (by show isAlnum (s[k].toNat : Int) = true; rw [isAlnum, hb2, Bool.or_true]), by go_num⟩
      case measure => simp [intOf]; omega
    · have hks : k ≤ s.size := by omega
      have hsz : (s.extract 0 k).size ≤ 1048576 := by rw [size_take s hks]; omega
      have HS := Lib.hid hsz
      clear hsz
      have HF : Hid (firstM s.data.toList = ⟨2, s.data.toList.take k, (pu32 (s.data.toList.take k)).getD 0, 0⟩) := Lib.hid (HEND.out (by rcases hfin with h | h; exact h.1; exact h.1))
      have hfin' : (k < s.size ∧ ∃ h : k < s.size, isLet ((s[k]'h).toNat : Int) = false ∧ isDig ((s[k]'h).toNat : Int) = false) ∨ ¬ k < s.size := by
        rcases hfin with h | h
        · exact .inl h.2
        · exact .inr h.2
      clear hfin
      rcases hv : pu32 (s.data.toList.take k) with _ | v
      all_goals
        have HV := Lib.hid hv
        clear hv
        rcases hfin' with ⟨hlt, hlt', hb1, hb2⟩ | hlt
      all_goals first
        | (have HB1 := Lib.hid hb1
           have HB2 := Lib.hid hb2
           clear hb1 hb2
           go_wp2_with fail
           refine (rletter_any _ _).mono ?_
           rintro e w' ⟨rfl, rfl⟩
           have hb1 := HB1.out
           go_wp2_with fail
           refine (rdig5_any _ _).mono ?_
           rintro e w' ⟨rfl, rfl⟩
           have hb2 := HB2.out
           go_wp2_with fail)
        | go_wp2_with fail
      all_goals
        refine (rparseUint32_any _ _ HS.out).mono ?_
        rintro e w1 ⟨rfl, hb⟩
        rw [take_data, rpu32_eq, HV.out, u32v]
        have hz : w.heap.size + 1 ≤ w1.heap.size := by have := hb.size; simpa using this
        have hc : ∀ i, w1.cell? ⟨w.heap.size, i, none⟩ = (w.alloc (.cells #[.int .i64 0, .string ⟨#[]⟩, .int .u32 0, .int .i64 0] 90)).cell? ⟨w.heap.size, i, none⟩ := fun i => hb.cell (by simp)
        have hf : ∀ i, w1.frozen? ⟨w.heap.size, i, none⟩ = (w.alloc (.cells #[.int .i64 0, .string ⟨#[]⟩, .int .u32 0, .int .i64 0] 90)).frozen? ⟨w.heap.size, i, none⟩ := fun i => hb.frozen (by simp)
        go_wp2
        have hbk : Blk w1 w.heap.size 90 #[.int .i64 0, .string ⟨#[]⟩, .int .u32 0, .int .i64 0] := (Blk.new w 90 _).below hb (by simp)
        have hbel : Below w.heap.size w w1 := ((Below.refl _ _).alloc (Nat.le_refl _) _).trans (hb.mono (by simp))
        refine bodyPost_ret (results_cell_row rfl _ _ w.heap.size 90 _ _ _ rfl ((((hbk.set_ 0 _).set_ 1 _).set_ 2 _).set_ 3 _) Tryz.underlying90 rfl (by kernel_rfl)) rfl ⟨?_, ?_⟩
        · rw [firstEnd, HF.out, HV.out, take_str]
          rfl
        · exact (((hbel.setCell (p := ⟨w.heap.size, 0, none⟩) (Nat.le_refl _) _).setCell (p := ⟨w.heap.size, 1, none⟩) (Nat.le_refl _) _).setCell (p := ⟨w.heap.size, 2, none⟩) (Nat.le_refl _) _).setCell (p := ⟨w.heap.size, 3, none⟩) (Nat.le_refl _) _
end Go.Proofs.YtpomjcndeanjgaaGreatDoor
namespace Go.Proofs.YtpomjcndeanjgaaGreatDoor
open Go.RowKit
theorem below_set4 {B g : Nat} {a w : World} (h : Below B a w) (hg : B ≤ g) (x0 x1 x2 x3 : Value) : Below B a ((((w.setCell ⟨g, 0, none⟩ x0).setCell ⟨g, 1, none⟩ x1).setCell ⟨g, 2, none⟩ x2).setCell ⟨g, 3, none⟩ x3) :=
  (((h.setCell (p := ⟨g, 0, none⟩) hg _).setCell (p := ⟨g, 1, none⟩) hg _).setCell (p := ⟨g, 2, none⟩) hg _).setCell (p := ⟨g, 3, none⟩) hg _
theorem symList_len : symList.length = 34 := by decide +kernel
theorem symStr_at (k : Nat) (hk : k < 34) : ∃ x : ByteArray, symStr.toArray[k]? = some (.string x) ∧ symList[k]? = some x.data.toList ∧ x.size ≤ 2 := by
  have hl : k < symList.length := by rw [symList_len]; exact hk
  refine ⟨⟨(symList[k]'hl).toArray⟩, ?_, ?_, ?_⟩
  · simp [symStr, List.getElem?_eq_getElem hl]
  · simp [List.getElem?_eq_getElem hl]
  · have h : ∀ x ∈ symList, x.length ≤ 2 := by decide +kernel
    exact h _ (List.getElem_mem hl)
theorem prefix_take (x l : List UInt8) : x.isPrefixOf l = decide (x.length ≤ l.length ∧ l.take x.length = x) := by
  rw [Bool.eq_iff_iff, decide_eq_true_iff, List.isPrefixOf_iff_prefix, List.prefix_iff_eq_take]
  constructor
  · intro h
    refine ⟨?_, h.symm⟩
    have := congrArg List.length h
    rw [List.length_take] at this
    omega
  · intro h; exact h.2.symm
theorem find_hit {p : List UInt8 → Bool} {k : Nat} {x : List UInt8} (hx : symList[k]? = some x) (hno : ∀ j < k, ∀ y, symList[j]? = some y → p y = false) (hp : p x = true) : symList.find? p = some x := by
  rw [List.find?_eq_some_iff_getElem]
  obtain ⟨hk, e⟩ := List.getElem?_eq_some_iff.1 hx
  refine ⟨hp, k, hk, e, fun j hj => ?_⟩
  have := hno j hj _ (List.getElem?_eq_getElem (by omega))
  simpa using this
theorem find_miss {p : List UInt8 → Bool} (hno : ∀ j < 34, ∀ y, symList[j]? = some y → p y = false) : symList.find? p = none := by
  rw [List.find?_eq_none]
  intro x hx
  obtain ⟨j, hj, e⟩ := List.mem_iff_getElem.1 hx
  have := hno j (by rw [← symList_len]; exact hj) x (by rw [List.getElem?_eq_getElem hj, e])
  simpa using this
set_option maxRecDepth 100000 in
set_option maxHeartbeats 2000000 in
theorem first_sym (s : ByteArray) (w : World) (_hs : s.size ≤ 1048576) (h0 : 0 < s.size) (hl : isLet (s[0].toNat : Int) = false) (hd : isDig (s[0].toNat : Int) = false) :
    Calls Tryz.prog 49 #[.string s] w fun e w' => DigEnd s w e w' := by
  have HN := Lib.hid (firstM_head s h0)
  have HL := Lib.hid hl
  have HD := Lib.hid hd
  clear hl hd
  go_enter Tryz.func49, Tryz.ntmps49
  go_wp2_with fail
  refine (rletter_any _ _).mono ?_
  rintro e w' ⟨rfl, rfl⟩
  have hl := HL.out
  go_wp2_with fail
  refine (rdig5_any _ _).mono ?_
  rintro e w' ⟨rfl, rfl⟩
  have hd := HD.out
  go_wp2_with fail
  clear hl hd
  refine (symbols_any _).mono ?_
  rintro e w' ⟨rfl, rfl⟩
  go_wp2
  have hbel : Below w.heap.size w ((w.alloc (.cells #[.int .i64 0, .string ⟨#[]⟩, .int .u32 0, .int .i64 0] 90)).alloc (.cells symStr.toArray 9)) := below_alloc (below_alloc (Below.refl _ _) _) _
  have HB := Lib.hid hbel
  clear hbel
  go_loopw [7] (fun i wr => ∃ k n : Nat, k ≤ 34 ∧ i = .int .i64 k ∧ Hid (∀ j < k, ∀ y, symList[j]? = some y → y.isPrefixOf s.data.toList = false) ∧
      wr = ((w.alloc (.cells #[.int .i64 0, .string ⟨#[]⟩, .int .u32 0, .int .i64 0] 90)).alloc (.cells symStr.toArray 9)).drewN n) (fun i _ => 34 - (intOf i).toNat)
  case atStart => exact ⟨0, 0, by omega, rfl, Lib.hid (fun j hj => absurd hj (Nat.not_lt_zero _)), rfl⟩
  case round =>
    obtain ⟨k, n, hk, rfl, HNO, rfl⟩ := hrel
    by_cases hlt : k < 34
    · obtain ⟨x, hx1, hx2, hx3⟩ := symStr_at k hlt
      have hcell : ((w.alloc (.cells #[.int .i64 0, .string ⟨#[]⟩, .int .u32 0, .int .i64 0] 90)).alloc (.cells symStr.toArray 9)).cell? ⟨w.heap.size + 1, k, none⟩ = some (.string x) := by
        have := (Blk.new (w.alloc (.cells #[.int .i64 0, .string ⟨#[]⟩, .int .u32 0, .int .i64 0] 90)) 9 symStr.toArray).cell k
        rw [hx1] at this
        simpa using this
      have HX2 := Lib.hid hx2
      clear hx1 hx2
      by_cases hge : x.size ≤ s.size
      · have hge' : decide (x.size ≤ s.size) = true := by simpa using hge
        rcases hq : ((s.extract 0 x.size).toList == x.toList) with _ | _
        · have HNP : Hid (x.data.toList.isPrefixOf s.data.toList = false) := by
            refine Lib.hid ?_
            rw [prefix_take, decide_eq_false_iff_not]
            rintro ⟨_, h⟩
            rw [beq_eq_false_iff_ne, toList_data, toList_data, take_data] at hq
            exact hq h
          go_wp2
          go_quiet (fail)
          go_wp2
          go_roundw
          case rel =>
            refine ⟨k + 1, _, by omega, by go_num, Lib.hid fun j hj y hy => ?_, rfl⟩
            rcases Nat.lt_or_ge j k with h | h
            · exact HNO.out j h y hy
            · have e : j = k := by omega
              subst e
              rw [HX2.out] at hy
              injection hy with hy
              rw [← hy]
              exact HNP.out
          case measure => simp [intOf]; omega
        · have HP : Hid (symList.find? (fun y => y.isPrefixOf s.data.toList) = some x.data.toList) := by
            refine Lib.hid (find_hit HX2.out HNO.out ?_)
            rw [prefix_take, decide_eq_true_iff]
            refine ⟨hge, ?_⟩
            rw [beq_iff_eq, toList_data, toList_data, take_data] at hq
            exact hq
          go_wp2
          go_quiet (fail)
          go_wp2
          refine bodyPost_ret (v := .agg #[.int .i64 3, .string x, .int .u32 0, .int .i64 0]) (by simp [results, Tryz.results49, go_sem]) rfl ⟨?_, ?_⟩
          · rw [firstEnd, HN.out, if_neg (by rw [HL.out]; decide), if_neg (by rw [HD.out]; decide), HP.out]
            rfl
          · exact below_set4 (below_drewN HB.out _) (Nat.le_refl _) _ _ _ _
      · have hge' : decide (x.size ≤ s.size) = false := by simpa using hge
        have HNP : Hid (x.data.toList.isPrefixOf s.data.toList = false) := by
          refine Lib.hid ?_
          rw [prefix_take, decide_eq_false_iff_not]
          rintro ⟨h, _⟩
          exact hge h
        · go_wp2
          go_quiet (fail)
          go_wp2
          go_roundw
          case rel =>
            refine ⟨k + 1, _, by omega, by go_num, Lib.hid fun j hj y hy => ?_, rfl⟩
            rcases Nat.lt_or_ge j k with h | h
            · exact HNO.out j h y hy
            · have e : j = k := by omega
              subst e
              rw [HX2.out] at hy
              injection hy with hy
              rw [← hy]
              exact HNP.out
          case measure => simp [intOf]; omega
    · have HP : Hid (symList.find? (fun y => y.isPrefixOf s.data.toList) = none) := by
        refine Lib.hid (find_miss fun j hj => HNO.out j (by omega))
      go_wp2
      refine bodyPost_ret (v := .agg #[.int .i64 0, .string ⟨#[]⟩, .int .u32 0, .int .i64 0]) (by simp [results, Tryz.results49, go_sem]) rfl ⟨?_, below_set4 (below_drewN HB.out _) (Nat.le_refl _) _ _ _ _⟩
      rw [firstEnd, HN.out, if_neg (by rw [HL.out]; decide), if_neg (by rw [HD.out]; decide), HP.out]
      rfl
theorem first_any (s : ByteArray) (w : World) (hs : s.size ≤ 1048576) (h0 : 0 < s.size) :
    Calls Tryz.prog 49 #[.string s] w fun e w' => e = firstEnd s.data.toList ∧ Below w.heap.size w w' := by
  rcases hl : isLet (s[0].toNat : Int) with _ | _
  · rcases hd : isDig (s[0].toNat : Int) with _ | _
    · exact first_sym s w hs h0 hl hd
    · exact first_dig s w hs h0 hl hd
  · exact first_let s w hs h0 hl
end Go.Proofs.YtpomjcndeanjgaaGreatDoor
namespace Go.Proofs.YtpomjcndeanjgaaGreatDoor
open Go.RowKit
def tkChk (t : Tk) : Nat :=
  if t.kind = 1 then (if 16 < t.text.length then 4 else 0)
  else if t.kind = 2 then (match pu32 t.text with
    | some _ => 0
    | none => if rtooGreat t.text = true then 9 else 5)
  else if t.kind = 3 then 0 else 5
set_option maxRecDepth 100000 in
set_option maxHeartbeats 1000000 in
theorem check_1 (x : ByteArray) (v n : Int) (w : World) (hx : x.size ≤ 1048576) :
    Calls Tryz.prog 50 #[.agg #[.int .i64 1, .string x, .int .u32 v, .int .i64 n]] w fun e w' => e = .returned (.int .i64 (if 16 < x.size then 4 else 0)) ∧ Below w.heap.size w w' := by
  by_cases h : 16 < x.size
  · rw [if_pos h]
    go_enter Tryz.func50, Tryz.ntmps50
    go_wp2
    go_ret
    exact ⟨rfl, (Below.refl _ _).alloc (Nat.le_refl _) _⟩
  · rw [if_neg h]
    go_enter Tryz.func50, Tryz.ntmps50
    go_wp2
    go_ret
    exact ⟨rfl, (Below.refl _ _).alloc (Nat.le_refl _) _⟩
set_option maxRecDepth 100000 in
set_option maxHeartbeats 1000000 in
theorem check_3 (x : ByteArray) (v n : Int) (w : World) :
    Calls Tryz.prog 50 #[.agg #[.int .i64 3, .string x, .int .u32 v, .int .i64 n]] w fun e w' => e = .returned (.int .i64 0) ∧ Below w.heap.size w w' := by
  go_enter Tryz.func50, Tryz.ntmps50
  go_wp2
  go_ret
  exact ⟨rfl, (Below.refl _ _).alloc (Nat.le_refl _) _⟩
set_option maxRecDepth 100000 in
set_option maxHeartbeats 1000000 in
theorem check_0 (x : ByteArray) (v n : Int) (w : World) :
    Calls Tryz.prog 50 #[.agg #[.int .i64 0, .string x, .int .u32 v, .int .i64 n]] w fun e w' => e = .returned (.int .i64 5) ∧ Below w.heap.size w w' := by
  go_enter Tryz.func50, Tryz.ntmps50
  go_wp2
  go_ret
  exact ⟨rfl, (Below.refl _ _).alloc (Nat.le_refl _) _⟩
def numCheck (l : List UInt8) : Nat := match pu32 l with
  | some _ => 0
  | none => if rtooGreat l = true then 9 else 5
set_option maxRecDepth 100000 in
set_option maxHeartbeats 1000000 in
theorem check_2 (x : ByteArray) (v n : Int) (w : World) (hx : x.size ≤ 1048576) (h0 : 0 < x.size) :
    Calls Tryz.prog 50 #[.agg #[.int .i64 2, .string x, .int .u32 v, .int .i64 n]] w fun e w' => e = .returned (.int .i64 (numCheck x.data.toList)) ∧ Below w.heap.size w w' := by
  have hbel : Below w.heap.size w (w.alloc (.cells #[.int .i64 2, .string x, .int .u32 v, .int .i64 n] 90)) := (Below.refl _ _).alloc (Nat.le_refl _) _
  have HB := Lib.hid hbel
  clear hbel
  have HX := Lib.hid hx
  rcases hv : pu32 x.data.toList with _ | u
  · rcases ht : rtooGreat x.data.toList with _ | _
    all_goals
      have HV := Lib.hid hv
      have HT := Lib.hid ht
      clear hv ht
      go_enter Tryz.func50, Tryz.ntmps50
      go_wp2_with fail
      refine (rparseUint32_any x _ HX.out).mono ?_
      rintro e w1 ⟨rfl, hb⟩
      rw [rpu32_eq, HV.out, u32v]
      have hz : w.heap.size + 1 ≤ w1.heap.size := by have := hb.size; simpa using this
      have hc : ∀ i, w1.cell? ⟨w.heap.size, i, none⟩ = (w.alloc (.cells #[.int .i64 2, .string x, .int .u32 v, .int .i64 n] 90)).cell? ⟨w.heap.size, i, none⟩ := fun i => hb.cell (by simp)
      go_wp2_with fail
      refine (tooGreat_any x _ HX.out h0).mono ?_
      rintro e w' ⟨rfl, rfl⟩
      have ht := HT.out
      go_wp2
      go_ret
      refine ⟨?_, HB.out.trans (hb.mono (by simp))⟩
      rw [numCheck, HV.out, HT.out]
      rfl
  · have HV := Lib.hid hv
    clear hv
    go_enter Tryz.func50, Tryz.ntmps50
    go_wp2_with fail
    refine (rparseUint32_any x _ HX.out).mono ?_
    rintro e w1 ⟨rfl, hb⟩
    rw [rpu32_eq, HV.out, u32v]
    go_wp2
    go_ret
    refine ⟨?_, HB.out.trans (hb.mono (by simp))⟩
    rw [numCheck, HV.out]
    rfl
theorem firstM_props (l : List UInt8) (h : l ≠ []) : ((firstM l).kind = 1 ∨ (firstM l).kind = 2 ∨ (firstM l).kind = 3 ∨ (firstM l).kind = 0) ∧ (firstM l).text.length ≤ l.length ∧ ((firstM l).kind = 2 → 0 < (firstM l).text.length) ∧ (firstM l).value ≤ 4294967295 ∧ (firstM l).line = 0 := by
  match l, h with
  | c :: r, _ =>
    simp only [firstM]
    by_cases h1 : isLet c.toNat = true
    · rw [if_pos h1]
      refine ⟨.inl rfl, by rw [List.length_take]; omega, fun h => by simp at h, by simp, rfl⟩
    · rw [if_neg h1]
      by_cases h2 : isDig c.toNat = true
      · rw [if_pos h2]
        have h3 : 0 < ext isAlnum (c :: r) := by rw [ext, if_pos (by rw [isAlnum, h2, Bool.or_true])]; omega
        refine ⟨.inr (.inl rfl), by rw [List.length_take]; omega, fun _ => by rw [List.length_take]; simp only [List.length_cons]; omega, ?_, rfl⟩
        rcases hv : pu32 ((c :: r).take (ext isAlnum (c :: r))) with _ | v
        · simp
        · simp only [Option.getD_some]
          unfold pu32 at hv
          split at hv
          · split at hv
            · cases hv
            · exact horner_le 16 _ 0 v (by omega) hv
          · split at hv
            · exact horner_le 10 _ 0 v (by omega) hv
            · cases hv
      · rw [if_neg h2]
        rcases hf : symList.find? (fun x => x.isPrefixOf (c :: r)) with _ | x
        · simp only [hf]
          exact ⟨.inr (.inr (.inr rfl)), Nat.zero_le _, fun h => by simp [Tk.zero] at h, by simp [Tk.zero], rfl⟩
        · have hp := List.find?_some hf
          have := (List.isPrefixOf_iff_prefix.1 hp).length_le
          simp only [hf]
          refine ⟨by simp, this, fun h => by omega, by omega, trivial⟩
theorem check_first (l : List UInt8) (h : l ≠ []) (hl : l.length ≤ 1048576) (n : Int) (w : World) :
    Calls Tryz.prog 50 #[.agg #[.int .i64 (firstM l).kind, .string ⟨(firstM l).text.toArray⟩, .int .u32 (firstM l).value, .int .i64 n]] w
      fun e w' => e = .returned (.int .i64 (tkChk (firstM l))) ∧ Below w.heap.size w w' := by
  obtain ⟨hk, hlen, h2, _, _⟩ := firstM_props l h
  have hsz : (⟨(firstM l).text.toArray⟩ : ByteArray).size = (firstM l).text.length := rfl
  rcases hk with hk | hk | hk | hk
  · have e : tkChk (firstM l) = if 16 < (⟨(firstM l).text.toArray⟩ : ByteArray).size then 4 else 0 := by rw [tkChk, if_pos hk, hsz]
    rw [e, hk]
    refine (check_1 _ _ _ _ (by rw [hsz]; omega)).mono fun e w' h => ⟨?_, h.2⟩
    rw [h.1]; split <;> rfl
  · have e : tkChk (firstM l) = numCheck (⟨(firstM l).text.toArray⟩ : ByteArray).data.toList := by rw [tkChk, if_neg (by omega), if_pos hk]; rfl
    rw [e, hk]
    exact check_2 _ _ _ _ (by rw [hsz]; omega) (by rw [hsz]; exact h2 hk)
  · have e : tkChk (firstM l) = 0 := by rw [tkChk, if_neg (by omega), if_neg (by omega), if_pos hk]
    rw [e, hk]
    exact check_3 _ _ _ _
  · have e : tkChk (firstM l) = 5 := by rw [tkChk, if_neg (by omega), if_neg (by omega), if_neg (by omega)]
    rw [e, hk]
    exact check_0 _ _ _ _
end Go.Proofs.YtpomjcndeanjgaaGreatDoor
namespace Go.Proofs.YtpomjcndeanjgaaGreatDoor
open Go.RowKit
theorem Tryz.infoTok5 : (Tryz.prog.info? 90).map (fun i => (i.zero, i.size, i.bytes)) = some (some (.agg #[.int .i64 0, .string ⟨#[]⟩, .int .u32 0, .int .i64 0]), 4, 40) := by kernel_rfl
def rtokM : Nat → List UInt8 → Nat → Bool → List Tk → List Tk × Nat × Nat
  | 0, _, _, _, out => (out, 0, 0)
  | n + 1, l, at_, cm, out => match l with
    | [] => (out, 0, 0)
    | c :: r =>
      if c = 10 then rtokM n r (at_ + 1) false out
      else if cm = true ∨ c = 35 then rtokM n r at_ true out
      else if c = 32 ∨ c = 9 then rtokM n r at_ false out
      else if 4096 ≤ out.length then ([], at_, 12)
      else if tkChk (firstM (c :: r)) = 0 then rtokM n ((c :: r).drop (firstM (c :: r)).text.length) at_ false (out ++ [{ firstM (c :: r) with line := at_ }])
      else ([], at_, tkChk (firstM (c :: r)))
def rtokenize (l : List UInt8) : List Tk × Nat × Nat := if 16384 < l.length then ([], 0, 4) else rtokM l.length l 1 false []
theorem check_pos (l : List UInt8) (h : l ≠ []) (h0 : tkChk (firstM l) = 0) : 0 < (firstM l).text.length := by
  match l, h with
  | c :: r, _ =>
    simp only [firstM] at h0 ⊢
    by_cases h1 : isLet c.toNat = true
    · rw [if_pos h1]
      have h3 : 0 < ext isWord (c :: r) := by rw [ext, if_pos (isWord_let h1)]; omega
      show 0 < (List.take _ _).length
      rw [List.length_take]; simp only [List.length_cons]; omega
    · rw [if_neg h1] at h0 ⊢
      by_cases h2 : isDig c.toNat = true
      · rw [if_pos h2]
        have h3 : 0 < ext isAlnum (c :: r) := by rw [ext, if_pos (by rw [isAlnum, h2, Bool.or_true])]; omega
        show 0 < (List.take _ _).length
        rw [List.length_take]; simp only [List.length_cons]; omega
      · rw [if_neg h2] at h0 ⊢
        rcases hf : symList.find? (fun x => x.isPrefixOf (c :: r)) with _ | x
        · simp only [hf] at h0
          simp [tkChk, Tk.zero] at h0
        · simp only [hf]
          have hx : ∀ x ∈ symList, 0 < x.length := by decide +kernel
          exact hx x (List.mem_of_find?_eq_some hf)
theorem rtokM_fuel : ∀ (n m : Nat) (l : List UInt8) (at_ : Nat) (cm : Bool) (out : List Tk), l.length ≤ n → l.length ≤ m → rtokM n l at_ cm out = rtokM m l at_ cm out
  | 0, 0, _, _, _, _, _, _ => rfl
  | 0, m + 1, [], _, _, _, _, _ => rfl
  | n + 1, 0, [], _, _, _, _, _ => rfl
  | 0, m + 1, c :: r, _, _, _, h, _ => by simp at h
  | n + 1, 0, c :: r, _, _, _, _, h => by simp at h
  | n + 1, m + 1, [], _, _, _, _, _ => rfl
  | n + 1, m + 1, c :: r, at_, cm, out, hn, hm => by
    have hn' : r.length ≤ n := by simpa using hn
    have hm' : r.length ≤ m := by simpa using hm
    simp only [rtokM]
    split
    · exact rtokM_fuel n m r _ _ _ hn' hm'
    · split
      · exact rtokM_fuel n m r _ _ _ hn' hm'
      · split
        · exact rtokM_fuel n m r _ _ _ hn' hm'
        · split
          · rfl
          · split
            · rename_i h0
              have hx := check_pos (c :: r) (by simp) h0
              refine rtokM_fuel n m _ _ _ _ ?_ ?_ <;> (rw [List.length_drop]; simp only [List.length_cons]; omega)
            · rfl
theorem news_alloc (W : World) (g : Nat) (hg : g = W.heap.size) (cs : List Value) (t : TypeId) : ∀ j u, cs[j]? = some u → (W.alloc (.cells cs.toArray t)).cell? ((⟨g, 0, none⟩ : Addr).add j) = some u := by
  intro j u hj
  subst hg
  have h := (Blk.new W t cs.toArray).cell j
  have e : (⟨W.heap.size, 0, none⟩ : Addr).add j = ⟨W.heap.size, j, none⟩ := by unfold Addr.add; split <;> simp_all
  rw [e, h]
  simpa using hj
theorem own_set {w : World} {base : Nat} {e : TypeId} {size : Nat} {v : Value} {n : Nat} {xs : List Value} (h : w.ownsRow base e size v n xs) {p : Addr} (hp : v.ownBlock ≠ some p.block) (u : Value) : (w.setCell p u).ownsRow base e size v n xs := by
  refine h.kept (row := some p.block) ⟨rfl, rfl, rfl, by simp [World.setCell], fun k _ hk => Below.heap_setCell w p u k (fun e => hk (by rw [e]))⟩ (.inr hp)
def RTokRel (s : ByteArray) (w : World) (lv nv cv iv : Value) (wr : World) : Prop :=
  ∃ (k at_ : Nat) (cm : Bool) (out : List Tk) (A : Option Addr) (c : Nat), iv = .int .i64 k ∧ k ≤ s.size ∧ nv = .int .i64 at_ ∧ at_ ≤ k + 1 ∧ out.length ≤ k ∧ cv = .bool cm ∧
    lv = .slice A out.length c ∧ out.length ≤ c ∧ wr.ownsRow w.heap.size 90 4 (.slice A out.length c) out.length (tkCells out) ∧ Below w.heap.size w wr ∧
    rtokM s.data.toList.length s.data.toList 1 false [] = rtokM s.data.toList.length (s.data.toList.drop k) at_ cm out
def RTokEnd (s : ByteArray) (w : World) (e : Ending) (w' : World) : Prop :=
  ∃ (A : Option Addr) (c : Nat), e = .returned (.tuple #[.slice A (rtokenize s.data.toList).1.length c, .int .i64 (rtokenize s.data.toList).2.1, .int .i64 (rtokenize s.data.toList).2.2]) ∧ (rtokenize s.data.toList).1.length ≤ c ∧
    w'.ownsRow w.heap.size 90 4 (.slice A (rtokenize s.data.toList).1.length c) (rtokenize s.data.toList).1.length (tkCells (rtokenize s.data.toList).1) ∧ Below w.heap.size w w'
theorem rtok_step {s : ByteArray} {k at_ : Nat} {cm : Bool} {out : List Tk} (h : rtokM s.data.toList.length s.data.toList 1 false [] = rtokM s.data.toList.length (s.data.toList.drop k) at_ cm out) (h0 : k < s.size)
    {j : Nat} (hj : 0 < j) {b : Nat} {cm' : Bool} {out' : List Tk} (hs : ∀ n, rtokM (n + 1) (s.data.toList.drop k) at_ cm out = rtokM n (s.data.toList.drop (k + j)) b cm' out') :
    rtokM s.data.toList.length s.data.toList 1 false [] = rtokM s.data.toList.length (s.data.toList.drop (k + j)) b cm' out' := by
  rw [h]
  obtain ⟨n, hn⟩ : ∃ n, s.data.toList.length = n + 1 := ⟨s.data.toList.length - 1, by have : s.data.toList.length = s.size := rfl; omega⟩
  have e : (s.data.toList.drop (k + j)).length = s.size - (k + j) := by rw [List.length_drop]; rfl
  have e2 : s.data.toList.length = s.size := rfl
  have hs' := hs n
  rw [← hn] at hs'
  rw [hs']
  exact rtokM_fuel _ _ _ _ _ _ (by omega) (by omega)
set_option maxRecDepth 100000 in
set_option maxHeartbeats 4000000 in
theorem rtokenize_any (s : ByteArray) (w : World) (hs0 : s.size ≤ maxLen) :
    Calls Tryz.prog 24 #[.string s] w fun e w' => RTokEnd s w e w' := by
  unfold maxLen at hs0
  by_cases hlong : 16384 < s.size
  · go_enter Tryz.func24, Tryz.ntmps24
    go_wp2
    go_ret3
    have e : rtokenize s.data.toList = ([], 0, 4) := by rw [rtokenize, if_pos (show 16384 < s.data.toList.length from hlong)]
    refine ⟨none, 0, ?_⟩
    rw [e]
    exact ⟨rfl, Nat.le_refl _, World.ownsRow_nil _ _ _ _, Below.refl _ _⟩
  · obtain ⟨i0, hi, hz0, hz1, hz2'⟩ := info_parts Tryz.infoTok5
    have hs : s.size ≤ 16384 := by omega
    have HT : Hid (rtokenize s.data.toList = rtokM s.data.toList.length s.data.toList 1 false []) := by
      refine Lib.hid ?_
      rw [rtokenize, if_neg (show ¬ 16384 < s.data.toList.length from hlong)]
    clear hs0
    go_enter Tryz.func24, Tryz.ntmps24
    go_wp2
    go_loopw [5, 6, 7, 8] (fun lv nv cv iv wr => RTokRel s w lv nv cv iv wr) (fun _ _ _ iv _ => s.size - (intOf iv).toNat)
    case atStart => exact ⟨0, 1, false, [], none, 0, rfl, Nat.zero_le _, rfl, by omega, by simp, rfl, rfl, Nat.le_refl _, World.ownsRow_nil _ _ _ _, Below.refl _ _, rfl⟩
    case round =>
      obtain ⟨k, at_, cm, out, A, c, rfl, hk, rfl, hat, hout, rfl, rfl, hc, hown, hbel, hrun⟩ := hrel
      have HR := Lib.hid hrun
      clear hrun
      by_cases h0 : k < s.size
      · have HD := Lib.hid (drop_cons s k h0)
        by_cases h1 : s[k] = 10
        · have H1 := Lib.hid h1
          have h1' : ((s[k].toNat : Int) == 10) = true := by rw [h1]; rfl
          have h1a : ((s[k].toNat : Int) == 35) = false := by rw [h1]; rfl
          have h1b : ((s[k].toNat : Int) == 32) = false := by rw [h1]; rfl
          have h1c : ((s[k].toNat : Int) == 9) = false := by rw [h1]; rfl
          clear h1
          go_wp2
          go_roundw
          case rel =>
            refine ⟨k + 1, at_ + 1, false, out, A, c, by go_num, by omega, by go_num, by omega, by omega, rfl, rfl, hc, hown, hbel, ?_⟩
            refine rtok_step HR.out h0 (j := 1) (by omega) fun n => ?_
            rw [HD.out, rtokM, if_pos H1.out]
          case measure => simp [intOf]; omega
        · have H1 := Lib.hid h1
          have h1' : ((s[k].toNat : Int) == 10) = false := byte_ne h1
          clear h1
          by_cases h2 : cm = true ∨ s[k] = 35
          · have H2 := Lib.hid h2
            have h2' : cm = true ∨ (cm = false ∧ ((s[k].toNat : Int) == 35) = true) := by
              rcases h2 with h | h
              · exact .inl h
              · cases cm
                · exact .inr ⟨rfl, by rw [h]; rfl⟩
                · exact .inl rfl
            clear h2
            have HS : Hid (rtokM s.data.toList.length s.data.toList 1 false [] = rtokM s.data.toList.length (s.data.toList.drop (k + 1)) at_ true out) := by
              refine Lib.hid (rtok_step HR.out h0 (j := 1) (by omega) fun n => ?_)
              rw [HD.out, rtokM, if_neg H1.out, if_pos H2.out]
            rcases h2' with rfl | ⟨rfl, h2'⟩
            all_goals
              go_wp2
              go_roundw
              case rel => exact ⟨k + 1, at_, true, out, A, c, by go_num, by omega, rfl, by omega, by omega, rfl, rfl, hc, hown, hbel, HS.out⟩
              case measure => simp [intOf]; omega
          · have H2 := Lib.hid h2
            have hcm : cm = false := by cases cm; rfl; exact absurd (.inl rfl) h2
            subst hcm
            have h2' : ((s[k].toNat : Int) == 35) = false := byte_ne (fun h => h2 (.inr h))
            clear h2
            by_cases h3 : s[k] = 32 ∨ s[k] = 9
            · have H3 := Lib.hid h3
              have h3' : ((s[k].toNat : Int) == 32) = true ∨ (((s[k].toNat : Int) == 32) = false ∧ ((s[k].toNat : Int) == 9) = true) := by
                rcases h3 with h | h
                · left; rw [h]; rfl
                · right; rw [h]; exact ⟨rfl, rfl⟩
              clear h3
              have HS : Hid (rtokM s.data.toList.length s.data.toList 1 false [] = rtokM s.data.toList.length (s.data.toList.drop (k + 1)) at_ false out) := by
                refine Lib.hid (rtok_step HR.out h0 (j := 1) (by omega) fun n => ?_)
                rw [HD.out, rtokM, if_neg H1.out, if_neg H2.out, if_pos H3.out]
              rcases h3' with h3' | ⟨h3', h4'⟩
              all_goals
                go_wp2
                go_roundw
                case rel => exact ⟨k + 1, at_, false, out, A, c, by go_num, by omega, rfl, by omega, by omega, rfl, rfl, hc, hown, hbel, HS.out⟩
                case measure => simp [intOf]; omega
            · have h3a : ((s[k].toNat : Int) == 32) = false := byte_ne (fun h => h3 (.inl h))
              have h3b : ((s[k].toNat : Int) == 9) = false := byte_ne (fun h => h3 (.inr h))
              have H3 := Lib.hid h3
              clear h3
              by_cases h5 : 4096 ≤ out.length
              · go_wp2
                go_ret3
                have e : rtokenize s.data.toList = ([], at_, 12) := by
                  obtain ⟨n, hn⟩ : ∃ n, s.data.toList.length = n + 1 := ⟨s.data.toList.length - 1, by have : s.data.toList.length = s.size := rfl; omega⟩
                  rw [HT.out, HR.out, hn, HD.out, rtokM, if_neg H1.out, if_neg H2.out, if_neg H3.out, if_pos h5]
                refine ⟨none, 0, ?_⟩
                rw [e]
                exact ⟨rfl, Nat.le_refl _, World.ownsRow_nil _ _ _ _, hbel⟩
              · have hsz : (s.extract k s.size).size ≤ 1048576 := by rw [size_rest]; omega
                have hps : 0 < (s.extract k s.size).size := by rw [size_rest]; omega
                have HX := Lib.hid (show (s.extract k s.size).size ≤ 1048576 ∧ 0 < (s.extract k s.size).size from ⟨hsz, hps⟩)
                clear hsz hps
                go_wp2_with fail
                refine (first_any _ _ HX.out.1 HX.out.2).mono ?_
                rintro e w1 ⟨rfl, hb⟩
                rw [firstEnd, Lib.extract_to_end]
                have hne : s.data.toList.drop k ≠ [] := by rw [HD.out]; simp
                have hll : (s.data.toList.drop k).length ≤ 1048576 := by rw [List.length_drop]; show s.size - k ≤ _; omega
                have HP := Lib.hid (firstM_props _ hne)
                have HCH := Lib.hid (check_first _ hne hll)
                have HPOS := Lib.hid (check_pos _ hne)
                have HLL : Hid ((firstM (s.data.toList.drop k)).text.length ≤ s.size - k) := Lib.hid (Nat.le_trans (firstM_props _ hne).2.1 (by rw [List.length_drop]; exact Nat.le_refl _))
                clear hne hll
                have HSTEP : Hid (∀ n, rtokM (n + 1) (s.data.toList.drop k) at_ false out = if tkChk (firstM (s.data.toList.drop k)) = 0 then rtokM n ((s.data.toList.drop k).drop (firstM (s.data.toList.drop k)).text.length) at_ false (out ++ [{ firstM (s.data.toList.drop k) with line := at_ }])
                    else ([], at_, tkChk (firstM (s.data.toList.drop k)))) := by
                  refine Lib.hid fun n => ?_
                  conv => lhs; rw [HD.out, rtokM, if_neg H1.out, if_neg H2.out, if_neg H3.out, if_neg h5, ← HD.out]
                generalize hT : firstM (s.data.toList.drop k) = tk at *
                clear hT
                have hown1 := own_below hown hb
                have hbel1 := hbel.trans (hb.mono hbel.size)
                clear hown hbel hb
                rw [show tk.cells = #[.int .i64 tk.kind, .string ⟨tk.text.toArray⟩, .int .u32 tk.value, .int .i64 tk.line] from rfl]
                have hw1 := hbel1.size
                have hbk1 := Blk.new w1 90 #[.int .i64 tk.kind, .string ⟨tk.text.toArray⟩, .int .u32 tk.value, .int .i64 tk.line]
                have hbA := below_alloc hbel1 (.cells #[.int .i64 tk.kind, .string ⟨tk.text.toArray⟩, .int .u32 tk.value, .int .i64 tk.line] 90)
                have HA := Lib.hid (And.intro hbk1 hbA)
                clear hbk1 hbA
                go_wp2_with fail
                refine (HCH.out _ _).mono ?_
                rintro e w2 ⟨rfl, hb2⟩
                have hz2 : w1.heap.size < w2.heap.size := by have := hb2.size; simp at this; omega
                have hbk2 : Blk w2 w1.heap.size 90 #[.int .i64 tk.kind, .string ⟨tk.text.toArray⟩, .int .u32 tk.value, .int .i64 tk.line] := HA.out.1.below hb2 (by simp)
                have hown2 : w2.ownsRow w.heap.size 90 4 (.slice A out.length c) out.length (tkCells out) := own_below (hown1.alloc _) hb2
                have hbel2 : Below w.heap.size w w2 := HA.out.2.trans (hb2.mono HA.out.2.size)
                have HW := Lib.hid (And.intro hbk2 (And.intro hown2 (And.intro hbel2 hown1)))
                have k0 : w2.cell? ⟨w1.heap.size, 0, none⟩ = some (.int .i64 tk.kind) := hbk2.cell 0
                have k1 : w2.cell? ⟨w1.heap.size, 1, none⟩ = some (.string ⟨tk.text.toArray⟩) := hbk2.cell 1
                have k2 : w2.cell? ⟨w1.heap.size, 2, none⟩ = some (.int .u32 tk.value) := hbk2.cell 2
                have k3 : w2.cell? ⟨w1.heap.size, 3, none⟩ = some (.int .i64 tk.line) := hbk2.cell 3
                have kf : w2.frozen? ⟨w1.heap.size, 3, none⟩ = false := hbk2.frozen 3
                clear hbk2 hown2 hbel2 hown1 hb2 hbel1
                by_cases h6 : tkChk tk = 0
                · have H6 := Lib.hid h6
                  have h6' : ((tkChk tk : Int) != 0) = false := by rw [h6]; rfl
                  have hpl0 := HPOS.out h6
                  have hpl1 := HLL.out
                  clear h6
                  have hbk3 := HW.out.1.set_ 3 (.int .i64 at_)
                  have hob : (Value.slice A out.length c).ownBlock ≠ some w1.heap.size := by
                    intro e
                    have := (HW.out.2.2.2.lt _ e).2
                    omega
                  have hown3 := own_set HW.out.2.1 (p := ⟨w1.heap.size, 3, none⟩) hob (.int .i64 at_)
                  have H3W := Lib.hid (And.intro hbk3 hown3)
                  clear hbk3 hown3
                  go_wp2_with (first
                    | (at_builtin; refine wpList_append_own _ rfl _ _ 56 rfl w.heap.size 90 i0 _ 4 40 Tryz.underlying56 hi hz0 hz1 hz2' rfl (by decide) _ _ _ rfl (H3W.out.2.alloc _) ⟨w2.heap.size, 0, none⟩ 1 1 [.int .i64 tk.kind, .string ⟨tk.text.toArray⟩, .int .u32 tk.value, .int .i64 at_] rfl rfl ?c1 ?c2 ?c3 ?c4 ?c5 ?_))
                  case c1 => exact news_alloc _ _ (by simp [World.setCell]) [_, _, _, _] _
                  case c2 => intro u hu; simp at hu; rcases hu with rfl | rfl | rfl | rfl <;> rfl
                  case c3 => unfold maxLen; omega
                  case c4 => omega
                  case c5 => have := HW.out.2.2.1.size; simp [World.setCell]; omega
                  intro v' w3 hown3 hgrow _
                  have hbel3 : Below w.heap.size w w3 := by
                    have hA := below_alloc (Below.setCell (p := ⟨w1.heap.size, 3, none⟩) HW.out.2.2.1 hw1 (.int .i64 at_)) (.cells #[.int .i64 tk.kind, .string ⟨tk.text.toArray⟩, .int .u32 tk.value, .int .i64 at_] 90)
                    exact hA.grown hgrow hA.size fun k hk => (HW.out.2.2.2.lt k hk).1
                  have hbk3 := (H3W.out.1.alloc (.cells #[.int .i64 tk.kind, .string ⟨tk.text.toArray⟩, .int .u32 tk.value, .int .i64 at_] 90)).grown hgrow (fun e => hob e.symm)
                  have k1' : w3.cell? ⟨w1.heap.size, 1, none⟩ = some (.string ⟨tk.text.toArray⟩) := hbk3.cell 1
                  have HB := Lib.hid hbel3
                  have HO := Lib.hid hown3
                  obtain ⟨A', c', hv, hc'⟩ := own_slice hown3
                  have HC := Lib.hid hc'
                  have HV := Lib.hid hv
                  clear hbel3 hown3 hgrow hc' hbk3 hv
                  go_wp2
                  go_roundw
                  case rel =>
                    have hl : (out ++ [({ tk with line := at_ } : Tk)]).length = out.length + 1 := by simp
                    refine ⟨k + tk.text.length, at_, false, out ++ [{ tk with line := at_ }], A', c', by go_num, by omega, rfl, by omega, by rw [hl]; omega, rfl, by rw [hl]; exact HV.out, by rw [hl]; exact HC.out, ?_, HB.out, ?_⟩
                    · rw [hl, tkCells_snoc, ← HV.out]
                      exact HO.out
                    · refine rtok_step HR.out h0 hpl0 fun n => ?_
                      rw [HSTEP.out, if_pos H6.out, List.drop_drop]
                  case measure => simp [intOf]; omega
                · have h6' : ((tkChk tk : Int) != 0) = true := by rw [bne_iff_ne]; omega
                  go_wp2_with fail
                  refine (HCH.out _ _).mono ?_
                  rintro e w3 ⟨rfl, hb3⟩
                  go_wp2
                  go_ret3
                  have e : rtokenize s.data.toList = ([], at_, tkChk tk) := by
                    obtain ⟨n, hn⟩ : ∃ n, s.data.toList.length = n + 1 := ⟨s.data.toList.length - 1, by have : s.data.toList.length = s.size := rfl; omega⟩
                    rw [HT.out, HR.out, hn, HSTEP.out, if_neg h6]
                  refine ⟨none, 0, ?_⟩
                  rw [e]
                  exact ⟨rfl, Nat.le_refl _, World.ownsRow_nil _ _ _ _, HW.out.2.2.1.trans (hb3.mono HW.out.2.2.1.size)⟩
      · have hz : s.data.toList.drop k = [] := List.drop_of_length_le (by show s.size ≤ k; omega)
        have HZ := Lib.hid hz
        clear hz
        go_wp2
        go_ret3
        have e : rtokenize s.data.toList = (out, 0, 0) := by
          rw [HT.out, HR.out, HZ.out]
          cases s.data.toList.length <;> rfl
        refine ⟨A, c, ?_⟩
        rw [e]
        exact ⟨rfl, hc, hown, hbel⟩
end Go.Proofs.YtpomjcndeanjgaaGreatDoor
namespace Go.Proofs.YtpomjcndeanjgaaGreatDoor
theorem numErr_eq (l : List UInt8) : numErr l = if rtooGreat l = true then 9 else 5 := by
  unfold numErr rtooGreat
  by_cases h : 2 < l.length ∧ l.take 2 = [48, 120]
  · rw [if_pos h]
    by_cases h2 : ext isHexd (l.drop 2) = l.length - 2
    · rw [if_pos ⟨h.1, h.2, h2⟩, if_pos (by simpa using h2)]
    · have hh : l.head? = some 48 := by
        match l, h.2 with
        | a :: b :: r, h3 =>
          have h4 : [a, b] = [48, 120] := h3
          injection h4 with h5 h6
          rw [h5]; rfl
      have e : decide (ext isHexd (l.drop 2) = l.length - 2) = false := by simpa using h2
      rw [e, if_neg (fun h3 => h2 h3.2.2), if_neg (fun h3 => h3.1 hh), if_neg (by decide)]
  · rw [if_neg h, if_neg (fun h3 => h ⟨h3.1, h3.2.1⟩)]
    by_cases h1 : l.head? ≠ some 48 ∧ ext isDig l = l.length
    · rw [if_pos h1, if_pos (by rw [Bool.and_eq_true, decide_eq_true_iff, decide_eq_true_iff]; exact ⟨h1.2, h1.1⟩)]
    · rw [if_neg h1, if_neg (by rw [Bool.and_eq_true, decide_eq_true_iff, decide_eq_true_iff]; exact fun h3 => h1 ⟨h3.2, h3.1⟩)]
theorem first_mem {α : Type} [DecidableEq α] {a : α} : ∀ {l : List α}, a ∈ l → ∃ u v, l = u ++ a :: v ∧ a ∉ u
  | b :: l, h => by
    by_cases e : b = a
    · exact ⟨[], l, by rw [e]; rfl, by simp⟩
    · have h' : a ∈ l := by
        rcases List.mem_cons.1 h with h | h
        · exact absurd h.symm e
        · exact h
      obtain ⟨u, v, huv, hn⟩ := first_mem h'
      exact ⟨b :: u, v, by rw [huv]; rfl, by simp [hn, Ne.symm e]⟩
theorem find_twos (l : List UInt8) : twos.find? (fun x => x.isPrefixOf l) = if l.take 2 ∈ twos then some (l.take 2) else none := by
  have h2 : ∀ x ∈ twos, x.length = 2 := by decide +kernel
  by_cases h : l.take 2 ∈ twos
  · rw [if_pos h]
    have hl : 2 ≤ l.length := by
      have := h2 _ h
      rw [List.length_take] at this; omega
    have key : ∀ x ∈ twos, x.isPrefixOf l = (x == l.take 2) := by
      intro x hx
      rw [prefix_take, h2 x hx, Bool.eq_iff_iff, decide_eq_true_iff, beq_iff_eq]
      constructor
      · intro h; exact h.2.symm
      · intro h; exact ⟨hl, h.symm⟩
    generalize l.take 2 = y at h key
    rw [List.find?_eq_some_iff_append]
    obtain ⟨u, v, huv, hn⟩ := first_mem h
    refine ⟨by rw [key y h]; simp, u, v, huv, fun a ha => ?_⟩
    rw [key a (by rw [huv]; exact List.mem_append_left _ ha)]
    simpa using fun e : a = y => hn (e ▸ ha)
  · rw [if_neg h, List.find?_eq_none]
    intro x hx hp
    rw [prefix_take, h2 x hx, decide_eq_true_iff] at hp
    exact h (by rw [hp.2]; exact hx)
theorem find_ones (c : UInt8) (r : List UInt8) : (symList.drop 9).find? (fun x => x.isPrefixOf (c :: r)) = if c ∈ ones then some [c] else none := by
  have e : symList.drop 9 = ones.map fun k => [k] := by decide +kernel
  rw [e, List.find?_map]
  have key : ((fun x : List UInt8 => x.isPrefixOf (c :: r)) ∘ fun k => [k]) = fun k => k == c := by
    funext k; simp [List.isPrefixOf]
  rw [key]
  by_cases h : c ∈ ones
  · rw [if_pos h]
    have : ones.find? (fun k => k == c) = some c := by
      rw [List.find?_eq_some_iff_append]
      obtain ⟨u, v, hab, hn⟩ := first_mem h
      exact ⟨by simp, u, v, hab, fun a ha => by simpa using fun e : a = c => hn (e ▸ ha)⟩
    simp only [this]; rfl
  · rw [if_neg h]
    have : ones.find? (fun k => k == c) = none := by
      rw [List.find?_eq_none]
      intro x hx hp
      rw [beq_iff_eq] at hp
      exact h (hp ▸ hx)
    simp only [this]; rfl
theorem find_sym (c : UInt8) (r : List UInt8) : symList.find? (fun x => x.isPrefixOf (c :: r)) = if sym (c :: r) = 0 then none else some ((c :: r).take (sym (c :: r))) := by
  have e : symList = twos ++ symList.drop 9 := by decide +kernel
  rw [e, List.find?_append, find_twos, find_ones]
  by_cases h : (c :: r).take 2 ∈ twos
  · have hs : sym (c :: r) = 2 := by unfold sym; rw [if_pos h]
    rw [if_pos h, hs]; rfl
  · rw [if_neg h, sym_cons c r h]
    by_cases h1 : c ∈ ones
    · rw [if_pos h1, if_pos h1, if_neg (by omega)]; rfl
    · rw [if_neg h1, if_neg h1, if_pos rfl]; rfl
theorem next_first (c : UInt8) (r : List UInt8) : (nextM (c :: r)).2 = tkChk (firstM (c :: r)) ∧ (tkChk (firstM (c :: r)) = 0 → (nextM (c :: r)).1 = firstM (c :: r)) := by
  simp only [nextM, firstM]
  by_cases h1 : isLet c.toNat = true
  · rw [if_pos h1, if_pos h1]
    have hl : ((c :: r).take (ext isWord (c :: r))).length = ext isWord (c :: r) := by
      have := ext_le isWord (c :: r)
      rw [List.length_take]; omega
    simp only [tkChk, if_true, hl]
    split <;> simp
  · rw [if_neg h1, if_neg h1]
    by_cases h2 : isDig c.toNat = true
    · rw [if_pos h2, if_pos h2]
      rcases hv : pu32 ((c :: r).take (ext isAlnum (c :: r))) with _ | v
      · have e : tkChk ⟨2, (c :: r).take (ext isAlnum (c :: r)), (none : Option Nat).getD 0, 0⟩ = numErr ((c :: r).take (ext isAlnum (c :: r))) := by
          rw [tkChk, if_neg (show ¬ (2 : Nat) = 1 by decide), if_pos rfl, numErr_eq, hv]
        rw [e]
        refine ⟨rfl, fun h => ?_⟩
        exfalso
        rw [numErr_eq] at h
        split at h <;> cases h
      · simp [tkChk, hv]
    · rw [if_neg h2, if_neg h2, find_sym]
      by_cases h3 : sym (c :: r) = 0
      · rw [if_pos h3, if_pos h3]; simp [tkChk, Tk.zero]
      · rw [if_neg h3, if_neg h3]; simp [tkChk]
theorem rtok_comment : ∀ (n m : Nat) (l : List UInt8) (at_ : Nat) (out : List Tk), l.length ≤ n → l.length ≤ m → rtokM n l at_ true out = rtokM m (l.drop (ext notNl l)) at_ false out
  | 0, m, [], at_, out, _, _ => by cases m <;> rfl
  | n + 1, m, [], at_, out, _, _ => by cases m <;> rfl
  | 0, _, _ :: _, _, _, h, _ => by simp at h
  | n + 1, 0, _ :: _, _, _, _, h => by simp at h
  | n + 1, m + 1, c :: r, at_, out, hn, hm => by
    have hn' : r.length ≤ n := by simpa using hn
    have hm' : r.length ≤ m := by simpa using hm
    by_cases hc : c = 10
    · subst hc
      have e : ext notNl (10 :: r) = 0 := by rw [ext, if_neg (by decide)]
      rw [e, List.drop_zero, rtokM, rtokM, if_pos rfl, if_pos rfl]
      exact rtokM_fuel _ _ _ _ _ _ hn' hm'
    · have e : ext notNl (c :: r) = ext notNl r + 1 := by
        rw [ext, if_pos]
        show ((c.toNat : Int) != 10) = true
        rw [bne_iff_ne]
        intro e
        exact hc (UInt8.toNat_inj.1 (by show c.toNat = 10; omega))
      rw [e, List.drop_succ_cons, rtokM, if_neg hc, if_pos (.inl rfl)]
      exact rtok_comment n (m + 1) r at_ out hn' (by omega)
theorem tok_rtok : ∀ (n : Nat) (l : List UInt8) (at_ : Nat) (out : List Tk), l.length ≤ n → tokM n l at_ out = rtokM n l at_ false out
  | 0, _, _, _, _ => rfl
  | n + 1, [], _, _, _ => rfl
  | n + 1, c :: r, at_, out, hn => by
    have hn' : r.length ≤ n := by simpa using hn
    rw [tokM, rtokM]
    by_cases h1 : c = 10
    · rw [if_pos h1, if_pos h1]; exact tok_rtok n r _ _ hn'
    · rw [if_neg h1, if_neg h1]
      by_cases h3 : c = 35
      · rw [if_neg (by subst h3; decide), if_pos h3, if_pos (.inr h3)]
        have e : ext notNl (c :: r) = ext notNl r + 1 := by rw [ext, if_pos (by subst h3; decide)]
        rw [e, List.drop_succ_cons, rtok_comment n n r at_ out hn' hn']
        exact tok_rtok n _ _ _ (by rw [List.length_drop]; omega)
      · rw [if_neg (show ¬ (false = true ∨ c = 35) by simp [h3])]
        by_cases h2 : c = 32 ∨ c = 9
        · rw [if_pos h2, if_pos h2]; exact tok_rtok n r _ _ hn'
        · rw [if_neg h2, if_neg h2, if_neg h3]
          by_cases h4 : 4096 ≤ out.length
          · rw [if_pos h4, if_pos h4]
          · rw [if_neg h4, if_neg h4]
            obtain ⟨e1, e2⟩ := next_first c r
            rw [e1]
            by_cases h5 : tkChk (firstM (c :: r)) = 0
            · rw [if_pos h5, if_pos h5, e2 h5]
              have hp := check_pos (c :: r) (by simp) h5
              exact tok_rtok n _ _ _ (by rw [List.length_drop]; simp only [List.length_cons]; omega)
            · rw [if_neg h5, if_neg h5]
theorem tokenize_eq (l : List UInt8) : tokenize l = rtokenize l := by
  unfold tokenize rtokenize
  rw [tok_rtok _ _ _ _ (Nat.le_refl _)]
end Go.Proofs.YtpomjcndeanjgaaGreatDoor
namespace Go.Proofs.YtpomjcndeanjgaaGreatDoor
open Go.RowKit
set_option maxRecDepth 100000 in
set_option maxHeartbeats 8000000 in
theorem rparse_any (p : ProgD) (ps : L FieldD) (s : ByteArray) (w : World) (o : ProgOk w p) (hps : LOk w 2 FieldD.cells ps) (ht : Tab w) (nm : Names p ps.l) (hs : s.size ≤ maxLen) :
    Calls Tryz.prog 12 #[.string s, .agg (scopeCells p ps)] w (PaOk w (parseM p ps.l s)) := by
  obtain ⟨W, hW, hw, HB, hp⟩ := box1 w (scopeCells p ps) 44
  have HW := Lib.hid hw
  have HO := Lib.hid (o.below hw)
  have HPS := Lib.hid (hps.below hw (Nat.le_refl _))
  have HT := Lib.hid (ht.base hw)
  have HN := Lib.hid nm
  have HR : Hid (parseM p ps.l s = _) := Lib.hid (parseM.eq_1 p ps.l s)
  generalize parseM p ps.l s = R at *
  have HTK := Lib.hid (rtokenize_any s W hs)
  have hok := tokenize_ok s.data.toList
  clear o hps ht nm hw
  unfold RTokEnd at HTK
  rw [← tokenize_eq] at HTK
  generalize tokenize s.data.toList = t at *
  obtain ⟨ts, ln, er⟩ := t
  simp only at HTK hok HR
  go_enter Tryz.func12, Tryz.ntmps12
  go_upto_region 1 with fail
  rw [← hW]
  clear hW
  go_wp2_with fail
  refine HTK.out.mono ?_
  intro r w1 hT
  obtain ⟨A, c, rfl, hlc, hown, hb1⟩ := hT
  have E1 : REnv w1 ⟨ts, A, c⟩ p ps := ⟨own_tk hown (by unfold maxLen; omega), hok.1, hok.2, HO.out.below hb1, HPS.out.below hb1 (Nat.le_refl _)⟩
  have HPT : Hid (Calls Tryz.prog 16 #[.slice A ts.length c, .int .i64 0, .agg (scopeCells p ps)] w1 (PtOk w1 (parseTokM p ps.l ts 0).1 (parseTokM p ps.l ts 0).2.1 (parseTokM p ps.l ts 0).2.2)) := Lib.hid (rparseTok_any p ps ⟨ts, A, c⟩ 0 w1 E1)
  have HB1 := Lib.hid hb1
  generalize parseTokM p ps.l ts 0 = q at *
  obtain ⟨qn, qi, qe⟩ := q
  simp only at HPT HR
  have hp1 := hp w1 hb1
  clear hown hb1 hok E1 HTK hlc
  by_cases h1 : er = 0
  case neg =>
    replace HR : Hid (R = ([], (er : Int))) := Lib.hid (HR.out.trans (if_pos h1))
    have h1' : ((er : Int) != 0) = true := bne_iff_ne.2 (by omega)
    clear h1 hp hp1
    go_wp2
    go_ret2
    exact PaOk.nil HR.out (below_step HW.out HB1.out)
  subst h1
  replace HR := Lib.hid (HR.out.trans (if_neg (by simp)))
  go_wp2_with fail
  refine HPT.out.mono ?_
  rintro r w2 ⟨A2, c2, rfl, hl2, hb2⟩
  have HB2 := Lib.hid (below_step HB1.out hb2)
  have HL2 := Lib.hid hl2
  have hp2 := hp w2 (below_step HB1.out hb2)
  clear hl2 hb2 hp1 HPT
  by_cases h2 : qe = 0
  case neg =>
    replace HR : Hid (R = ([], qe)) := Lib.hid (HR.out.trans (if_pos h2))
    have h2' : (qe != 0) = true := bne_iff_ne.2 h2
    clear h2 hp hp2
    go_wp2
    go_ret2
    exact PaOk.nil HR.out (below_step HW.out HB2.out)
  subst h2
  replace HR := Lib.hid (HR.out.trans (if_neg (by simp)))
  by_cases h3 : qi < (ts.length : Int)
  · replace HR : Hid (R = ([], 4)) := Lib.hid (HR.out.trans (if_pos h3))
    have h3' : decide (qi < (ts.length : Int)) = true := decide_eq_true h3
    clear hp hp2
    go_wp2
    go_ret2
    exact PaOk.nil HR.out (below_step HW.out HB2.out)
  replace HR := Lib.hid (HR.out.trans (if_neg h3))
  have h3' : decide (qi < (ts.length : Int)) = false := decide_eq_false h3
  have HF : Hid (Calls Tryz.prog 9 #[.slice A2 qn.length c2, .agg (scopeCells p ps)] w2 fun e w' => e = .returned (.tuple #[.string (fmtM p ps.l qn).1, .int .i64 (fmtM p ps.l qn).2]) ∧ Below w2.heap.size w2 w') := Lib.hid (rformat_any p ps ⟨qn, A2, c2⟩ w2 (HO.out.below HB2.out) (HPS.out.below HB2.out (Nat.le_refl _)) HL2.out (HT.out.base HB2.out) HN.out)
  generalize fmtM p ps.l qn = f at *
  obtain ⟨ft, fe⟩ := f
  simp only at HF HR
  go_wp2_with fail
  refine HF.out.mono ?_
  rintro r w3 ⟨rfl, hb3⟩
  have HB3 := Lib.hid (below_step HB2.out hb3)
  have HL3 := Lib.hid (HL2.out.below hb3 (Nat.le_refl _))
  clear hb3 hp hp2 HF
  by_cases h4 : fe = 0
  case neg =>
    replace HR : Hid (R = ([], 23)) := Lib.hid (HR.out.trans (if_pos (.inl h4)))
    have h4' : (fe != 0) = true := bne_iff_ne.2 h4
    clear h4
    go_wp2
    go_ret2
    exact PaOk.nil HR.out (below_step HW.out HB3.out)
  subst h4
  by_cases h5 : ft = s
  · replace HR : Hid (R = (qn, 0)) := Lib.hid (HR.out.trans (if_neg (fun h => h.elim (fun h => h rfl) (fun h => h h5))))
    have h5' := toList_true h5
    clear h5
    go_wp2
    go_ret2
    exact ⟨A2, c2, by rw [HR.out]; rfl, by rw [HR.out]; exact HL3.out, below_step HW.out HB3.out⟩
  · replace HR : Hid (R = ([], 23)) := Lib.hid (HR.out.trans (if_pos (.inr h5)))
    have h5' := toList_false h5
    clear h5
    go_wp2
    go_ret2
    exact PaOk.nil HR.out (below_step HW.out HB3.out)
end Go.Proofs.YtpomjcndeanjgaaGreatDoor
namespace Go.Proofs.YtpomjcndeanjgaaGreatDoor
open Go.RowKit
set_option maxRecDepth 100000 in
set_option maxHeartbeats 8000000 in
theorem law_parses (p : ProgD) (ps : L FieldD) (ns : L NodeD) (src : ByteArray) (at_ : Int) (w : World) (o : ProgOk w p) (hps : LOk w 2 FieldD.cells ps) (hsz : src.size ≤ maxLen) (ht : Tab w) :
    Calls Tryz.prog 4 #[.agg (c14Cells p ps ns), .string src, .int .i64 at_] w fun e w' => e = .returned (.bool true) ∧ Below w.heap.size w w' := by
  obtain ⟨W, hW, hw, HB, hp⟩ := box1 w (c14Cells p ps ns) 34
  have HW := Lib.hid hw
  have HO := Lib.hid (o.below hw)
  have HPS := Lib.hid (hps.below hw (Nat.le_refl _))
  have HT := Lib.hid (ht.base hw)
  have HSM := Lib.hid (small14_any p ps ns W HO.out HPS.out)
  have HWK := Lib.hid (fun u (h : Below W.heap.size W u) => works14_any u (HT.out.base h))
  clear hw o hps ht
  unfold maxLen at hsz
  go_enter Tryz.func4, Tryz.ntmps4
  go_upto_region 1 with fail
  rw [← hW]
  clear hW
  have hp1 := hp W HB
  go_wp2_with fail
  refine HSM.out.mono ?_
  rintro r w1 ⟨⟨b, rfl, hb⟩, hb1⟩
  have H1 := Lib.hid hb1
  have HBN := Lib.hid hb
  clear hb1 hb HSM hp1
  cases b with
  | false =>
    go_wp2_with fail
    refine (HWK.out w1 H1.out).mono ?_
    rintro r w9 ⟨rfl, hb9⟩
    have H9 := Lib.hid (below_step H1.out hb9)
    clear hb9
    go_wp2
    go_ret
    exact ⟨rfl, below_step HW.out H9.out⟩
  | true =>
    by_cases h400 : 400 < src.size
    · have e1 : decide ((400 : Int) < (src.size : Int)) = true := decide_eq_true (by omega)
      have e2 : decide (400 < src.size) = true := decide_eq_true h400
      go_wp2_with fail
      refine (HWK.out w1 H1.out).mono ?_
      rintro r w9 ⟨rfl, hb9⟩
      have H9 := Lib.hid (below_step H1.out hb9)
      clear hb9
      go_wp2
      go_ret
      exact ⟨rfl, below_step HW.out H9.out⟩
    have e1 : decide ((400 : Int) < (src.size : Int)) = false := decide_eq_false (by omega)
    have e2 : decide (400 < src.size) = false := decide_eq_false h400
    have HNM := Lib.hid (HBN.out rfl)
    have hsm : src.size ≤ maxLen := by unfold maxLen; omega
    have HEP : Hid (∀ u, Below W.heap.size W u → Calls Tryz.prog 11 #[.string src, .agg (scopeCells p ps)] u (PaOk u (parseM p ps.l src))) := Lib.hid (fun u h => eparse_any p ps src u (HO.out.below h) (HPS.out.below h (Nat.le_refl _)) (HT.out.base h) HNM.out hsm)
    have HRP : Hid (∀ u, Below W.heap.size W u → Calls Tryz.prog 12 #[.string src, .agg (scopeCells p ps)] u (PaOk u (parseM p ps.l src))) := Lib.hid (fun u h => rparse_any p ps src u (HO.out.below h) (HPS.out.below h (Nat.le_refl _)) (HT.out.base h) HNM.out hsm)
    generalize parseM p ps.l src = f at *
    obtain ⟨fn, fe⟩ := f
    have HTK := Lib.hid (fun u => tokenize_any src u hsm)
    have hok := tokenize_ok src.data.toList
    unfold TokEnd at HTK
    generalize tokenize src.data.toList = t at *
    obtain ⟨ts, ln, er⟩ := t
    simp only at HTK hok
    have hfew := hok.2
    have HTO := Lib.hid hok.1
    have HOW := Lib.hid (own14_any p ps ns)
    have HSC := Lib.hid (scope14_any p ps ns)
    clear hok hsm
    have hp1 := hp w1 H1.out
    go_wp2_with fail
    refine (HOW.out w1).mono ?_
    rintro r w2 ⟨rfl, hb2⟩
    have H2 := Lib.hid (below_step H1.out hb2)
    clear hb2 hp1 e1 e2
    go_wp2_with fail
    refine (HEP.out w2 H2.out).mono ?_
    rintro r w3 ⟨A1, c1, rfl, hl1, hb3⟩
    have H3 := Lib.hid (below_step H2.out hb3)
    have HL1 := Lib.hid hl1
    clear hb3 hl1 HEP
    have hp1 := hp w3 H3.out
    go_wp2_with fail
    refine (HSC.out w3).mono ?_
    rintro r w4 ⟨rfl, hb4⟩
    have H4 := Lib.hid (below_step H3.out hb4)
    have HL1 := Lib.hid (HL1.out.below hb4 (Nat.le_refl _))
    clear hb4 hp1
    go_wp2_with fail
    refine (HRP.out w4 H4.out).mono ?_
    rintro r w5 ⟨A2, c2, rfl, hl2, hb5⟩
    have H5 := Lib.hid (below_step H4.out hb5)
    have HEQ := Lib.hid (equal14_any fn A1 A2 c1 c2 w5 (HL1.out.below hb5 (Nat.le_refl _)) hl2)
    clear hb5 hl2 HRP
    go_wp2_with fail
    refine HEQ.out.mono ?_
    rintro r w6 ⟨rfl, hb6⟩
    have H6 := Lib.hid (below_step H5.out hb6)
    clear hb6 HEQ
    go_wp2_with fail
    refine (HTK.out w6).mono ?_
    rintro r w7 ⟨A3, c3, rfl, hlc, hown, hb7⟩
    have H7 := Lib.hid (below_step H6.out hb7)
    have HL3 := Lib.hid (own_tk hown (by unfold maxLen; omega))
    clear hb7 hlc hown HTK
    by_cases her : er = 0
    case neg =>
      have h2 : ((er : Int) != 0) = true := bne_iff_ne.2 (by omega)
      clear her hp
      go_wp2_with fail
      refine (HWK.out w7 H7.out).mono ?_
      rintro r w9 ⟨rfl, hb9⟩
      have H9 := Lib.hid (below_step H7.out hb9)
      clear hb9
      go_wp2
      go_ret
      exact ⟨rfl, below_step HW.out H9.out⟩
    subst her
    have hp1 := hp w7 H7.out
    go_wp2_with fail
    refine (HOW.out w7).mono ?_
    rintro r w8' ⟨rfl, hb8⟩
    have H8' := Lib.hid (below_step H7.out hb8)
    have E8 : Hid (REnv w8' ⟨ts, A3, c3⟩ p ps) := Lib.hid ⟨HL3.out.below hb8 (Nat.le_refl _), HTO.out, hfew, HO.out.below H8'.out, HPS.out.below H8'.out (Nat.le_refl _)⟩
    have HPT : Hid (Calls Tryz.prog 15 #[.slice A3 ts.length c3, .int .i64 at_, .agg (scopeCells p ps)] w8' (PtOk w8' (parseTokM p ps.l ts at_).1 (parseTokM p ps.l ts at_).2.1 (parseTokM p ps.l ts at_).2.2)) := Lib.hid (eparseTok_any p ps ⟨ts, A3, c3⟩ at_ w8' E8.out)
    clear hb8 hp1
    have HRT0 : Hid (∀ u (B : Option Addr) (d : Nat), Below W.heap.size W u → LOk u 4 tkL ⟨ts, B, d⟩ → Calls Tryz.prog 16 #[.slice B ts.length d, .int .i64 at_, .agg (scopeCells p ps)] u (PtOk u (parseTokM p ps.l ts at_).1 (parseTokM p ps.l ts at_).2.1 (parseTokM p ps.l ts at_).2.2)) := Lib.hid (fun u B d h hl =>
      rparseTok_any p ps ⟨ts, B, d⟩ at_ u ⟨hl, HTO.out, hfew, HO.out.below h, HPS.out.below h (Nat.le_refl _)⟩)
    generalize parseTokM p ps.l ts at_ = q at *
    obtain ⟨qn, qi, qe⟩ := q
    simp only at HPT HRT0
    go_wp2_with fail
    refine HPT.out.mono ?_
    rintro r w8 ⟨A5, c5, rfl, hl5, hb8⟩
    have H8 := Lib.hid (below_step H8'.out hb8)
    have HLn := Lib.hid hl5
    have HTS := Lib.hid (fun u (h : Below w8.heap.size w8 u) => (E8.out.toks.below hb8 (Nat.le_refl _)).below h (Nat.le_refl _))
    have HRT := Lib.hid (fun u (B : Option Addr) (d : Nat) (h : Below w8.heap.size w8 u) (hl : LOk u 4 tkL ⟨ts, B, d⟩) => HRT0.out u B d (below_step H8.out h) hl)
    clear hb8 hl5 HPT
    have H0 := Lib.hid (Below.refl w8.heap.size w8)
    have hpu := fun u (h : Below w8.heap.size w8 u) => hp u (below_step H8.out h)
    clear hp
    go_upto_region 11 with fail
    refine wp_region_held_drew (S := (fun w' => Below w8.heap.size w8 w')) (by kernel_rfl) (below_drew H0.out) (fun hHeld => ?_)
    refine wpAnyH_take (i := 0) (oi := { dst := some 71, op := Op.move (Operand.tmp 11), type := 50, pos := "law.go:95", after := #[], guard := none }) (v := ?tv0) rfl (by kernel_rfl) (by kernel_rfl) (by kernel_rfl) (fun _ _ _ h => h) (Or.inl ⟨by rfl, ?ty0⟩) (by assumption) ?tr0
    case ty0 => (intro w hSw; (try dsimp only at hSw); go_simp; try (with_reducible rfl))
    try simp only [Act.put, List.setIfInBounds_toArray, List.set_cons_zero, List.set_cons_succ]
    refine wpAnyH_take (i := 2) (oi := { dst := some 73, op := Op.move (Operand.tmp 2), type := 3, pos := "law.go:95", after := #[], guard := none }) (v := ?tv2) rfl (by kernel_rfl) (by kernel_rfl) (by kernel_rfl) (fun _ _ _ h => h) (Or.inl ⟨by rfl, ?ty2⟩) (by assumption) ?tr2
    case ty2 => (intro w hSw; (try dsimp only at hSw); go_simp; try (with_reducible rfl))
    try simp only [Act.put, List.setIfInBounds_toArray, List.set_cons_zero, List.set_cons_succ]
    refine wpAnyH_take (i := 3) (oi := { dst := some 74, op := Op.load 34 (Operand.tmp 3), type := 34, pos := "law.go:95", after := #[], guard := none }) (v := ?tv3) rfl (by kernel_rfl) (by kernel_rfl) (by kernel_rfl) (fun _ _ _ h => h) (Or.inl ⟨by rfl, ?ty3⟩) (by assumption) ?tr3
    case ty3 => (intro w hSw; (try dsimp only at hSw); go_simp; try (with_reducible rfl))
    try simp only [Act.put, List.setIfInBounds_toArray, List.set_cons_zero, List.set_cons_succ]
    refine wpAnyH_ready (rs := [1]) (by kernel_rfl) (by simp) ?_
    refine AllReadyH.cons (o := { dst := some 72, op := Op.call { callee := Callee.value (Operand.func 17), args := #[Operand.tmp 71], argTypes := #[50] }, type := 56, pos := "law.go:95", after := #[{ on := 0, ground := Ground.data }], guard := none }) rfl (fun K hK => ?_) AllReadyH.nil
    go_simp
    go_at_call 17
    refine (tokens_any ⟨ts, A3, c3⟩ _ (HTS.out _ (below_drew H0.out)) hfew).mono ?_
    rintro r w10 ⟨A4, c4, rfl, hl4, hb4⟩
    have HL4 := Lib.hid hl4
    have HB10 : Hid (Below w8.heap.size w8 w10) := Lib.hid (below_step (below_drew H0.out) hb4)
    have hNEW := HB10.out
    refine hK.out _ _ hNEW (fun hHeld4 => ?_)
    clear hK K hl4 hb4 hNEW
    refine wpAnyH_ready (rs := [4]) (by kernel_rfl) (by simp) ?_
    refine AllReadyH.cons (o := { dst := some 75, op := Op.call { callee := Callee.value (Operand.func 10), args := #[Operand.tmp 74], argTypes := #[34] }, type := 44, pos := "law.go:95", after := #[{ on := 3, ground := Ground.data }, { on := 1, ground := Ground.chain }], guard := none }) rfl (fun K hK => ?_) AllReadyH.nil
    go_simp
    go_at_call 10
    refine (HSC.out _).mono ?_
    rintro r w11 ⟨rfl, hb5⟩
    have HL5 := Lib.hid (HL4.out.below hb5 (Nat.le_refl _))
    have HB11 : Hid (Below w8.heap.size w8 w11) := Lib.hid (below_step HB10.out hb5)
    have hNEW := HB11.out
    refine hK.out _ _ hNEW (fun hHeld5 => ?_)
    clear hK K hb5 hNEW
    try simp only [Act.put, List.setIfInBounds_toArray, List.set_cons_zero, List.set_cons_succ]
    refine wpAnyH_ready (rs := [5]) (by kernel_rfl) (by simp) ?_
    refine AllReadyH.cons (o := { dst := some 76, op := Op.call { callee := Callee.value (Operand.func 16), args := #[Operand.tmp 72, Operand.tmp 73, Operand.tmp 75], argTypes := #[56, 3, 44] }, type := 53, pos := "law.go:95", after := #[{ on := 1, ground := Ground.data }, { on := 2, ground := Ground.data }, { on := 4, ground := Ground.data }, { on := 4, ground := Ground.chain }], guard := none }) rfl (fun K hK => ?_) AllReadyH.nil
    go_simp
    go_at_call 16
    refine (HRT.out w11 A4 c4 HB11.out HL5.out).mono ?_
    rintro r w12 ⟨A6, c6, rfl, hl6, hb6⟩
    have HL6 := Lib.hid hl6
    have HB12 : Hid (Below w8.heap.size w8 w12) := Lib.hid (below_step HB11.out hb6)
    have hNEW := HB12.out
    refine hK.out _ _ hNEW (fun hHeld6 => ?_)
    clear hK K hl6 hb6 hNEW
    try simp only [Act.put, List.setIfInBounds_toArray, List.set_cons_zero, List.set_cons_succ]
    refine wpAnyH_take (i := 6) (oi := { dst := some 70, op := Op.move (Operand.tmp 76), type := 53, pos := "law.go:95", after := #[{ on := 5, ground := Ground.data }], guard := none }) (v := ?tv6) rfl (by kernel_rfl) (by kernel_rfl) (by kernel_rfl) (fun _ _ _ h => h) (Or.inl ⟨by rfl, ?ty6⟩) (by assumption) ?tr6
    case ty6 => (intro w hSw; (try dsimp only at hSw); go_simp; try (with_reducible rfl))
    try simp only [Act.put, List.setIfInBounds_toArray, List.set_cons_zero, List.set_cons_succ]
    refine wpAnyH_take (i := 7) (oi := { dst := some 77, op := Op.extract (Operand.tmp 70) 0, type := 32, pos := "law.go:95", after := #[{ on := 6, ground := Ground.data }], guard := none }) (v := ?tv7) rfl (by kernel_rfl) (by kernel_rfl) (by kernel_rfl) (fun _ _ _ h => h) (Or.inl ⟨by rfl, ?ty7⟩) (by assumption) ?tr7
    case ty7 => (intro w hSw; (try dsimp only at hSw); go_simp; try (with_reducible rfl))
    try simp only [Act.put, List.setIfInBounds_toArray, List.set_cons_zero, List.set_cons_succ]
    refine wpAnyH_take (i := 8) (oi := { dst := some 78, op := Op.extract (Operand.tmp 70) 1, type := 3, pos := "law.go:95", after := #[{ on := 6, ground := Ground.data }, { on := 10, ground := Ground.gcOnly Departure.lateStores }], guard := none }) (v := ?tv8) rfl (by kernel_rfl) (by kernel_rfl) (by kernel_rfl) (fun _ _ _ h => h) (Or.inl ⟨by rfl, ?ty8⟩) (by assumption) ?tr8
    case ty8 => (intro w hSw; (try dsimp only at hSw); go_simp; try (with_reducible rfl))
    try simp only [Act.put, List.setIfInBounds_toArray, List.set_cons_zero, List.set_cons_succ]
    refine wpAnyH_take (i := 9) (oi := { dst := some 79, op := Op.extract (Operand.tmp 70) 2, type := 37, pos := "law.go:95", after := #[{ on := 6, ground := Ground.data }, { on := 11, ground := Ground.gcOnly Departure.lateStores }], guard := none }) (v := ?tv9) rfl (by kernel_rfl) (by kernel_rfl) (by kernel_rfl) (fun _ _ _ h => h) (Or.inl ⟨by rfl, ?ty9⟩) (by assumption) ?tr9
    case ty9 => (intro w hSw; (try dsimp only at hSw); go_simp; try (with_reducible rfl))
    try simp only [Act.put, List.setIfInBounds_toArray, List.set_cons_zero, List.set_cons_succ]
    refine wpAnyH_take (i := 10) (oi := { dst := some 17, op := Op.assign (Operand.tmp 77), type := 32, pos := "law.go:95", after := #[{ on := 7, ground := Ground.data }, { on := 5, ground := Ground.chain }, { on := 0, ground := Ground.phase }, { on := 1, ground := Ground.phase }, { on := 2, ground := Ground.phase }, { on := 3, ground := Ground.phase }, { on := 4, ground := Ground.phase }, { on := 5, ground := Ground.phase }, { on := 6, ground := Ground.phase }, { on := 7, ground := Ground.phase }, { on := 8, ground := Ground.textOnly Departure.lateStores }, { on := 9, ground := Ground.textOnly Departure.lateStores }], guard := none }) (v := ?tv10) rfl (by kernel_rfl) (by kernel_rfl) (by kernel_rfl) (fun _ _ _ h => h) (Or.inl ⟨by rfl, ?ty10⟩) (by assumption) ?tr10
    case ty10 => (intro w hSw; (try dsimp only at hSw); go_simp; try (with_reducible rfl))
    try simp only [Act.put, List.setIfInBounds_toArray, List.set_cons_zero, List.set_cons_succ]
    refine wpAnyH_take (i := 11) (oi := { dst := some 18, op := Op.assign (Operand.tmp 78), type := 3, pos := "law.go:95", after := #[{ on := 8, ground := Ground.data }, { on := 10, ground := Ground.chain }, { on := 0, ground := Ground.phase }, { on := 1, ground := Ground.phase }, { on := 2, ground := Ground.phase }, { on := 3, ground := Ground.phase }, { on := 4, ground := Ground.phase }, { on := 5, ground := Ground.phase }, { on := 6, ground := Ground.phase }, { on := 7, ground := Ground.phase }, { on := 8, ground := Ground.phase }, { on := 9, ground := Ground.textOnly Departure.lateStores }, { on := 10, ground := Ground.phase }], guard := none }) (v := ?tv11) rfl (by kernel_rfl) (by kernel_rfl) (by kernel_rfl) (fun _ _ _ h => h) (Or.inl ⟨by rfl, ?ty11⟩) (by assumption) ?tr11
    case ty11 => (intro w hSw; (try dsimp only at hSw); go_simp; try (with_reducible rfl))
    try simp only [Act.put, List.setIfInBounds_toArray, List.set_cons_zero, List.set_cons_succ]
    refine wpAnyH_take (i := 12) (oi := { dst := some 19, op := Op.assign (Operand.tmp 79), type := 37, pos := "law.go:95", after := #[{ on := 9, ground := Ground.data }, { on := 11, ground := Ground.chain }, { on := 0, ground := Ground.phase }, { on := 1, ground := Ground.phase }, { on := 2, ground := Ground.phase }, { on := 3, ground := Ground.phase }, { on := 4, ground := Ground.phase }, { on := 5, ground := Ground.phase }, { on := 6, ground := Ground.phase }, { on := 7, ground := Ground.phase }, { on := 8, ground := Ground.phase }, { on := 9, ground := Ground.phase }, { on := 10, ground := Ground.phase }, { on := 11, ground := Ground.phase }], guard := none }) (v := ?tv12) rfl (by kernel_rfl) (by kernel_rfl) (by kernel_rfl) (fun _ _ _ h => h) (Or.inl ⟨by rfl, ?ty12⟩) (by assumption) ?tr12
    case ty12 => (intro w hSw; (try dsimp only at hSw); go_simp; try (with_reducible rfl))
    try simp only [Act.put, List.setIfInBounds_toArray, List.set_cons_zero, List.set_cons_succ]
    refine wpAnyH_done (by kernel_rfl) ?_ _
    have HEQ := Lib.hid (equal14_any qn A5 A6 c5 c6 w12 (HLn.out.below HB12.out (Nat.le_refl _)) HL6.out)
    have H12 := Lib.hid (below_step H8.out HB12.out)
    clear hpu
    go_wp2_with fail
    refine HEQ.out.mono ?_
    rintro r w13 ⟨rfl, hb13⟩
    have H13 := Lib.hid (below_step H12.out hb13)
    clear hb13 HEQ
    go_wp2_with fail
    refine (HWK.out w13 H13.out).mono ?_
    rintro r w9 ⟨rfl, hb9⟩
    have H9 := Lib.hid (below_step H13.out hb9)
    clear hb9
    go_wp2
    go_ret
    exact ⟨rfl, below_step HW.out H9.out⟩
end Go.Proofs.YtpomjcndeanjgaaGreatDoor
