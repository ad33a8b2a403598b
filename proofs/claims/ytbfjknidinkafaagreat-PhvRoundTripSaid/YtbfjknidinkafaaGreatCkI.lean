/- Walks of package action's checks on any program: width, value, the closure of declaration, declaration. No condition but that the program lies in memory. -/
import Derived.Test.YtbfjknidinkafaaGreatCkH
namespace Go.Proofs.YtbfjknidinkafaaGreat
open Go.RowKit

/-- a width found or nought, and whether it was found -/
def widthV (d : Option Int) : Value := .tuple #[.int .i64 (d.getD 0), .bool d.isSome]
theorem declM_some {p : ProgD} {h f : Int} {y : FieldD} (hd : declF p h f = some y) : declM p h f = some y.width := by rw [declM, hd]; rfl
theorem declM_none {p : ProgD} {h f : Int} (hd : declF p h f = none) : declM p h f = none := by rw [declM, hd]; rfl

set_option maxRecDepth 100000 in
set_option maxHeartbeats 4000000 in
theorem awidth_any (p : ProgD) (h f : Int) (w : World) (o : ProgOk w p) :
    Calls Tryz.prog 199 #[.agg (progCells p), .agg #[.int .i64 h, .int .i64 f]] w fun e w' => e = .returned (widthV (declM p h f)) ∧ Below w.heap.size w w' := by
  have HO := Lib.hid o
  clear o
  have hca := @World.cell?_alloc_some
  rcases fieldsOf_cases p h with ⟨rfl, hx⟩ | ⟨h1, h2, hx⟩ | ⟨k, hk, rfl, hx⟩
  · rcases declF_cases hx f with ⟨h3, hd⟩ | ⟨j, hj, rfl, hd⟩
    · have HR := Lib.hid (declM_none hd)
      clear hd hx
      rcases h3 with h3 | h3
      all_goals
        go_enter Tryz.func199, Tryz.ntmps199
        go_wp2
        go_ret2
        exact ⟨by rw [HR.out]; rfl, below2 _ _ _⟩
    · have HR := Lib.hid (declM_some hd)
      obtain ⟨g, of, hA, d0, d1⟩ := FieldD.at HO.out.metadata hj
      simp only [progCells, hA]
      clear hd hx hA
      generalize p.metadata.l[j] = y at *
      go_enter Tryz.func199, Tryz.ntmps199
      go_wp2
      go_ret2
      exact ⟨by rw [HR.out]; rfl, below2 _ _ _⟩
  · have HR := Lib.hid (declM_none (declF_none hx f))
    have h1' : (h == -1) = false := beq_eq_false_iff_ne.2 h1
    clear hx
    rcases h2 with h2 | h2
    all_goals
      go_enter Tryz.func199, Tryz.ntmps199
      go_wp2
      go_ret2
      exact ⟨by rw [HR.out]; rfl, below2 _ _ _⟩
  · obtain ⟨g, of, hA, d0, d1⟩ := HeaderD.at HO.out.headers hk
    have HF := Lib.hid (HO.out.hdr _ (List.getElem_mem hk)).fields
    have h1' : ((k : Int) == -1) = false := beq_eq_false_iff_ne.2 (by omega)
    simp only [progCells, hA]
    clear hA
    generalize p.headers.l[k] = x at *
    obtain ⟨xn, ⟨fl, fA, fc⟩⟩ := x
    simp only [L.v] at d1
    rcases declF_cases hx f with ⟨h3, hd⟩ | ⟨j, hj, rfl, hd⟩
    · have HR := Lib.hid (declM_none hd)
      simp only at h3
      clear hd hx
      rcases h3 with h3 | h3
      all_goals
        go_enter Tryz.func199, Tryz.ntmps199
        go_wp2
        go_ret2
        exact ⟨by rw [HR.out]; rfl, below2 _ _ _⟩
    · have HR := Lib.hid (declM_some hd)
      obtain ⟨g2, of2, hA, e0, e1⟩ := FieldD.at HF.out hj
      simp only at hA hj e0 e1
      subst hA
      clear hd hx
      generalize fl[j] = y at *
      go_enter Tryz.func199, Tryz.ntmps199
      go_wp2
      go_ret2
      exact ⟨by rw [HR.out]; rfl, below2 _ _ _⟩

set_option maxRecDepth 100000 in
set_option maxHeartbeats 2000000 in
theorem avalue_any (p : ProgD) (ps : L FieldD) (x : L NodeD) (n : Int) (w : World) (o : ProgOk w p) (hps : LOk w 2 FieldD.cells ps) (hx : LOk w 3 NodeD.cells x) :
    Calls Tryz.prog 200 #[.agg (scopeCells p ps), .slice x.A x.l.length x.c, .int .i64 n] w fun e w' => e = .returned (.int .i64 (sizedM p ps.l x.l n)) ∧ Below w.heap.size w w' := by
  have HO := Lib.hid o
  have HP := Lib.hid hps
  have HX := Lib.hid hx
  clear o hps hx
  obtain ⟨W, hW, hw, HB, hp⟩ := box1 w (scopeCells p ps) 219
  have HW := Lib.hid hw
  clear hw
  have HR := Lib.hid (sizedM.eq_1 p ps.l x.l n)
  go_enter Tryz.func200, Tryz.ntmps200
  go_upto_region 1 with fail
  rw [← hW]
  clear hW
  go_wp2_with fail
  refine (exprCheck_any p ps x _ (HO.out.below (below_step HW.out (by first | exact HB | exact below_alloc HB _ | exact below_alloc (below_alloc HB _) _ | exact below_alloc (below_alloc (below_alloc HB _) _) _))) (HP.out.below (below_step HW.out (by first | exact HB | exact below_alloc HB _ | exact below_alloc (below_alloc HB _) _ | exact below_alloc (below_alloc (below_alloc HB _) _) _)) (Nat.le_refl _)) (HX.out.below (below_step HW.out (by first | exact HB | exact below_alloc HB _ | exact below_alloc (below_alloc HB _) _ | exact below_alloc (below_alloc (below_alloc HB _) _) _)) (Nat.le_refl _))).mono ?_
  rintro e w1 ⟨rfl, hbN⟩
  replace HB := below_step (by first | exact HB | exact below_alloc HB _ | exact below_alloc (below_alloc HB _) _ | exact below_alloc (below_alloc (below_alloc HB _) _) _) hbN
  clear hbN
  generalize exprM p ps.l x.l = r at *
  obtain ⟨a, c⟩ := r
  simp only at HR
  by_cases k1 : c = 0
  · subst k1
    by_cases k2 : a = n
    · subst k2
      replace HR : Hid (sizedM p ps.l x.l a = 0) := Lib.hid (by rw [HR.out]; simp)
      go_wp2
      go_ret
      exact ⟨by rw [HR.out]; rfl, below_step HW.out HB⟩
    · have k2' : (a == n) = false := beq_eq_false_iff_ne.2 k2
      replace HR : Hid (sizedM p ps.l x.l n = 10) := Lib.hid (by rw [HR.out]; simp [k2])
      go_wp2
      go_ret
      exact ⟨by rw [HR.out]; rfl, below_step HW.out HB⟩
  · have k1' : (c == 0) = false := beq_eq_false_iff_ne.2 k1
    replace HR : Hid (sizedM p ps.l x.l n = c) := Lib.hid (by rw [HR.out]; simp [k1])
    go_wp2
    go_ret
    exact ⟨by rw [HR.out]; rfl, below_step HW.out HB⟩

theorem sameName_any (g : Nat) (nf nm : ByteArray) (n : Int) (w : World) (h : w.cell? ⟨g, 0, none⟩ = some (.string nm)) :
    Calls Tryz.prog 198 #[.agg #[.string nf, .int .i64 n], .pointer (some ⟨g, 0, none⟩)] w fun e w' => e = .returned (.bool (nf.toList == nm.toList)) ∧ Below w.heap.size w w' := by
  have hca := @World.cell?_alloc_some
  go_enter Tryz.func198, Tryz.ntmps198
  go_wp2
  go_ret
  exact ⟨rfl, below1 _ _⟩

set_option maxRecDepth 100000 in
set_option maxHeartbeats 2000000 in
theorem indexFunc_any (x : L FieldD) (k c g : Nat) (nm : ByteArray) (w : World) (hk : k ≤ x.l.length) (hx : LOk w 2 FieldD.cells x) (h : w.cell? ⟨g, 0, none⟩ = some (.string nm)) :
    Calls Tryz.prog 210 #[.slice x.A k c, .func (.func 198) #[] #[.pointer (some ⟨g, 0, none⟩)]] w fun e w' =>
      ∃ n : Int, e = .returned (.int .i64 n) ∧ decide (0 ≤ n) = Lib.containsS ((x.l.map FieldD.name).take k) nm ∧ Below w.heap.size w w' := by
  have HX := Lib.hid hx
  have hm := hx.1
  unfold maxLen at hm
  have hq : ∀ w', Below w.heap.size w w' → w'.cell? ⟨g, 0, none⟩ = some (.string nm) := fun w' hb => below_cell hb h
  have hcl : Hid (∀ n : Int, 0 ≤ n ∧ (∃ j, ∃ hj : j < x.l.length, j < k ∧ x.l[j].name = nm) → decide (0 ≤ n) = Lib.containsS ((x.l.map FieldD.name).take k) nm) := Lib.hid (by
    rintro n ⟨h0, j, hj, hjk, he⟩
    rw [decide_eq_true h0, eq_comm, Lib.containsS_iff, List.mem_take_iff_getElem]
    exact ⟨j, by simp; omega, by simp [he]⟩)
  have hcn : Hid ((∀ j (hj : j < x.l.length), j < k → x.l[j].name ≠ nm) → false = Lib.containsS ((x.l.map FieldD.name).take k) nm) := Lib.hid (by
    intro hn
    rw [eq_comm, Bool.eq_false_iff, Ne, Lib.containsS_iff, List.mem_take_iff_getElem]
    rintro ⟨j, hj, he⟩
    simp at hj he
    exact hn j (by omega) (by omega) he)
  clear hx h
  go_enter Tryz.func210, Tryz.ntmps210
  go_wp2
  go_loopw [5, 8] (fun _ iv wr => ∃ j : Nat, j ≤ k ∧ iv = .int .i64 j ∧ (∀ t (ht : t < x.l.length), t < j → x.l[t].name ≠ nm) ∧ Below w.heap.size w wr) (fun _ i _ => k - (intOf i).toNat)
  case atStart => exact ⟨0, Nat.zero_le _, rfl, fun t _ h => absurd h (Nat.not_lt_zero _), Below.refl _ _⟩
  case round =>
    obtain ⟨j, hj, rfl, hpre, hbel⟩ := hrel
    have HPre := Lib.hid hpre
    clear hpre
    by_cases hlt : j < k
    · obtain ⟨g2, of, hA, d0, d1⟩ := FieldD.at (HX.out.below hbel (Nat.le_refl _)) (show j < x.l.length by omega)
      simp only [hA]
      have hcell := hq wr hbel
      by_cases hy : x.l[j].name = nm
      · have HC := Lib.hid (hcl.out j ⟨by omega, j, by omega, hlt, hy⟩)
        have hy' := toList_true hy
        clear hy
        generalize x.l[j] = y at *
        go_wp2_with fail
        refine (sameName_any g y.name nm y.width _ hcell).mono ?_
        rintro e w1 ⟨rfl, hb1⟩
        rw [hy']
        go_wp2
        refine bodyPost_ret (v := .int .i64 (j : Int)) (by simp [results, Tryz.results210, go_sem]) rfl ⟨(j : Int), rfl, HC.out, below_step hbel hb1⟩
      · have hy' := toList_false hy
        have HN : Hid (∀ t (ht : t < x.l.length), t < j + 1 → x.l[t].name ≠ nm) := Lib.hid (fun t ht h => by
          rcases Nat.lt_succ_iff_lt_or_eq.1 h with h | rfl
          · exact HPre.out t ht h
          · exact hy)
        clear hy
        generalize x.l[j] = y at *
        go_wp2_with fail
        refine (sameName_any g y.name nm y.width _ hcell).mono ?_
        rintro e w1 ⟨rfl, hb1⟩
        rw [hy']
        have HB := Lib.hid (below_step hbel hb1)
        go_wp2
        go_roundw
        case rel => exact ⟨j + 1, by omega, by go_num, HN.out, HB.out⟩
        case measure => simp [intOf]; omega
    · have HC := Lib.hid (hcn.out (fun t ht h => HPre.out t ht (by omega)))
      go_wp2
      refine bodyPost_ret (v := .int .i64 (-1)) (by simp [results, Tryz.results210, go_sem]) rfl ⟨-1, rfl, HC.out, hbel⟩
theorem containsFunc_any (x : L FieldD) (k c g : Nat) (nm : ByteArray) (w : World) (hk : k ≤ x.l.length) (hx : LOk w 2 FieldD.cells x) (h : w.cell? ⟨g, 0, none⟩ = some (.string nm)) :
    Calls Tryz.prog 197 #[.slice x.A k c, .func (.func 198) #[] #[.pointer (some ⟨g, 0, none⟩)]] w fun e w' =>
      e = .returned (.bool (Lib.containsS ((x.l.map FieldD.name).take k) nm)) ∧ Below w.heap.size w w' := by
  go_enter Tryz.func197, Tryz.ntmps197
  go_wp2_with fail
  refine (indexFunc_any x k c g nm _ hk hx h).mono ?_
  rintro e w1 ⟨n, rfl, hn, hb1⟩
  have HN := Lib.hid hn
  have HB := Lib.hid hb1
  clear hn hb1
  go_wp2
  all_goals
    go_ret
    exact ⟨ret_bool HN.out, HB.out⟩

/-- the field at k of a list of fields passes or not -/
theorem fldM_at (l : List FieldD) (i : Nat) (h : i < l.length) : fldM l i = if ident l[i].name = false then some 6 else if okW l[i].width = false then some 10 else if dupB (l.map FieldD.name) i = true then some 7 else none := by
  rw [fldM, List.getElem?_eq_getElem h]
theorem dup_at (l : List FieldD) (i : Nat) (h : i < l.length) : Lib.containsS ((l.map FieldD.name).take i) l[i].name = dupB (l.map FieldD.name) i := by
  rw [dupB]; congr 1; simp [h]
theorem firstE_step {α : Type} {f : Nat → Option α} {k : Nat} (h : ∀ j, j < k → f j = none) (hk : f k = none) : ∀ j, j < k + 1 → f j = none := by
  intro j hj
  rcases Nat.lt_succ_iff_lt_or_eq.1 hj with h1 | rfl
  · exact h j h1
  · exact hk

set_option maxRecDepth 100000 in
set_option maxHeartbeats 4000000 in
theorem declaration_any (a : ActD) (w : World) (o : ActOk w a) (hc : a.params.l.length ≤ a.params.c) :
    Calls Tryz.prog 170 #[.agg #[.string a.name, .slice a.params.A a.params.l.length a.params.c, .slice a.body.A a.body.l.length a.body.c]] w fun e w' => e = .returned (.int .i64 (declarM a)) ∧ Below w.heap.size w w' := by
  have HS : Hid (a.name.size ≤ maxLen) := Lib.hid o.name
  have HP := Lib.hid o.params
  have HN : Hid (∀ f ∈ a.params.l, f.name.size ≤ maxLen) := Lib.hid o.pnames
  obtain ⟨W, hW, hw, HB, hp⟩ := box1 w #[.string a.name, .slice a.params.A a.params.l.length a.params.c, .slice a.body.A a.body.l.length a.body.c] 124
  have HW := Lib.hid hw
  clear hw o
  have HR := Lib.hid (declarM.eq_1 a)
  have hmf : ∀ (fn : Fn) (first cap : Array Value) (w : World), (Instr.makeFunc fn first cap).run Tryz.prog w = .ok (.func fn first cap) w := fun _ _ _ _ => rfl
  go_enter Tryz.func170, Tryz.ntmps170
  go_upto_region 1 with fail
  rw [← hW]
  clear hW
  go_wp2_with fail
  refine (isIdent_any a.name _ HS.out).mono ?_
  rintro e w' ⟨rfl, rfl⟩
  cases h1 : identM a.name.data.toList
  · replace HR := Lib.hid (HR.out.trans (if_pos (show ident a.name = false from h1)))
    go_wp2
    go_ret
    exact ⟨by rw [HR.out]; rfl, below_step HW.out HB⟩
  replace HR := Lib.hid (HR.out.trans (if_neg (show ¬ ident a.name = false by rw [show ident a.name = true from h1]; simp)))
  clear h1
  by_cases h2 : 4 < a.params.l.length ∨ 12 < a.body.l.length
  · replace HR := Lib.hid (HR.out.trans (if_pos h2))
    rcases h2 with h2 | h2
    all_goals
      go_wp2
      all_goals
        go_ret
        exact ⟨by rw [HR.out]; rfl, below_step HW.out HB⟩
  replace HR := Lib.hid (HR.out.trans (if_neg h2))
  have h3 : a.params.l.length ≤ 4 := by omega
  have h4 : a.body.l.length ≤ 12 := by omega
  clear h2
  have H0 := Lib.hid HB
  go_wp2
  go_loopw [3, 4, 24] (fun _ _ iv wr => ∃ k : Nat, k ≤ a.params.l.length ∧ iv = .int .i64 k ∧ (∀ j, j < k → fldM a.params.l j = none) ∧ Below W.heap.size W wr) (fun _ _ i _ => a.params.l.length - (intOf i).toNat)
  case atStart => exact ⟨0, Nat.zero_le _, rfl, fun j h => absurd h (Nat.not_lt_zero _), H0.out⟩
  case round =>
    clear HB
    obtain ⟨k, hk, rfl, hpre, HB⟩ := hrel
    have HPre := Lib.hid hpre
    clear hpre
    by_cases hlt : k < a.params.l.length
    · obtain ⟨g, of, hA, d0, d1⟩ := FieldD.at (HP.out.below (below_step HW.out HB) (Nat.le_refl _)) hlt
      have HF := Lib.hid (fldM_at a.params.l k hlt)
      have HD := Lib.hid (dup_at a.params.l k hlt)
      have HNk := Lib.hid (HN.out _ (List.getElem_mem hlt))
      have hca := @World.cell?_alloc_some
      generalize hAA : a.params.A = pA at *
      subst hA
      generalize a.params.l[k] = y at *
      go_wp2_with fail
      refine (isIdent_any y.name _ HNk.out).mono ?_
      rintro e w' ⟨rfl, rfl⟩
      cases h1 : identM y.name.data.toList
      · have HE := Lib.hid (HF.out.trans (if_pos (show ident y.name = false from h1)))
        have HR2 : Hid (declarM a = 6) := Lib.hid (by rw [HR.out, firstE_some hlt HPre.out HE.out])
        go_wp2
        go_ret
        exact ⟨by rw [HR2.out]; rfl, below_step HW.out (by first | exact HB | exact below_alloc HB _ | exact below_alloc (below_alloc HB _) _ | exact below_alloc (below_alloc (below_alloc HB _) _) _)⟩
      have HF1 := Lib.hid (HF.out.trans (if_neg (show ¬ ident y.name = false by rw [show ident y.name = true from h1]; simp)))
      clear HF h1
      cases h2 : okW y.width
      · have HE := Lib.hid (HF1.out.trans (if_pos h2))
        have HR2 : Hid (declarM a = 10) := Lib.hid (by rw [HR.out, firstE_some hlt HPre.out HE.out])
        rcases okW_not.1 h2 with h3 | h3
        all_goals
          go_wp2
          go_ret
          exact ⟨by rw [HR2.out]; rfl, below_step HW.out (by first | exact HB | exact below_alloc HB _ | exact below_alloc (below_alloc HB _) _ | exact below_alloc (below_alloc (below_alloc HB _) _) _)⟩
      have HF2 := Lib.hid (HF1.out.trans (if_neg (by rw [h2]; simp)))
      clear HF1
      obtain ⟨w1, w2⟩ := okW_iff.1 h2
      have hi1 : (k : Int) ≤ (a.params.l.length : Int) := by omega
      have hi2 : k ≤ a.params.c := by omega
      go_wp2_with fail
      have hcf := containsFunc_any a.params k a.params.c wr.heap.size y.name (wr.alloc (.cells #[.string y.name, .int .i64 y.width] 135)) hk (HP.out.below (below_step HW.out (by first | exact HB | exact below_alloc HB _ | exact below_alloc (below_alloc HB _) _ | exact below_alloc (below_alloc (below_alloc HB _) _) _)) (Nat.le_refl _)) (by simp)
      rw [hAA] at hcf
      refine hcf.mono ?_
      clear hcf
      rintro e w3 ⟨rfl, hbN⟩
      replace HB := below_step (by first | exact HB | exact below_alloc HB _ | exact below_alloc (below_alloc HB _) _ | exact below_alloc (below_alloc (below_alloc HB _) _) _) hbN
      clear hbN
      rw [HD.out]
      cases h4 : dupB (a.params.l.map FieldD.name) k
      · have HE := Lib.hid (HF2.out.trans (if_neg (by rw [h4]; simp)))
        go_wp2
        go_roundw
        case rel => exact ⟨k + 1, by omega, by go_num, firstE_step HPre.out HE.out, HB⟩
        case measure => simp [intOf]; omega
      · have HE := Lib.hid (HF2.out.trans (if_pos h4))
        have HR2 : Hid (declarM a = 7) := Lib.hid (by rw [HR.out, firstE_some hlt HPre.out HE.out])
        go_wp2
        go_ret
        exact ⟨by rw [HR2.out]; rfl, below_step HW.out HB⟩
    · have e : k = a.params.l.length := by omega
      have HR2 : Hid (declarM a = 0) := Lib.hid (by rw [HR.out, firstE_none (by rw [← e]; exact HPre.out)])
      go_wp2
      go_ret
      exact ⟨by rw [HR2.out]; rfl, below_step HW.out HB⟩
end Go.Proofs.YtbfjknidinkafaaGreat

