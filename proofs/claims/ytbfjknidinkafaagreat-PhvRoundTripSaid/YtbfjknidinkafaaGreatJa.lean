/- The walk of package program's check of headers on any program, with its errors. No condition but that the program lies in memory, with at most a hundred headers. Walks of small checks: register.Check. No condition but the lengths of texts. The walk of program.checkLimits with its errors. No condition but the length of the name. The walk of package program's check of registers, actions and tables on any program, with its errors. No condition but that the program lies in memory, within the limits of its lists. The walk of package program's check of parser, control flow and deparser on any program, with its errors. No condition but that the program lies in memory, with at most ninety thousand control nodes. The walk of package program's check of the metadata on any program, with its errors. No condition but that the program lies in memory. The walk of program.Check on any program: it returns the first error. No condition but that the program lies in memory, its numbers are of their kinds, and it has at most ninety thousand control nodes. What a check of a program names is an error. No code in sight. No condition. -/
import Derived.Test.YtbfjknidinkafaaGreatCkY
import Derived.Test.YtbfjknidinkafaaGreatCkK
import Derived.StillTailTactics
import Derived.Defers
import Derived.Recover
import Derived.Laws.OwnMore
namespace Go.Proofs.YtbfjknidinkafaaGreat
open Go.RowKit

theorem rep_at (l : List ByteArray) (n g c i : Nat) (w0 w : World) (hn : l.length = n) (hi : i < n) (hm : n ≤ 1000)
    (hg : g < w0.heap.size ∧ l.length ≤ c ∧ ∀ j, j < l.length → w0.cell? ⟨g, 0 + j, none⟩ = some (.string (l.getD j ByteArray.empty))) (hb : Below w0.heap.size w0 w) :
    Calls Tryz.prog 122 #[.slice (some ⟨g, 0, none⟩) n c, .int .i64 i] w fun e w' => e = .returned (.bool (dupB l i)) ∧ Below w.heap.size w w' := by
  subst hn
  exact repeated_any l g c i w hi hm hg.2.1 (fun j hj => below_cell hb (hg.2.2 j hj))
theorem meta_list : metaName.toList = [109, 101, 116, 97] := by rw [toList_data]; rfl
theorem meta_true {s : ByteArray} (h : s = metaName) : (s.toList == [109, 101, 116, 97]) = true := by rw [h, meta_list]; rfl
theorem meta_false {s : ByteArray} (h : ¬ s = metaName) : (s.toList == [109, 101, 116, 97]) = false := beq_eq_false_iff_ne.2 fun e => h (toList_inj.1 (e.trans meta_list.symm))
theorem hdrAtM_at (l : List HeaderD) (k : Nat) (h : k < l.length) : hdrAtM l k = if hdrM l[k] ≠ 0 then some ⟨hdrM l[k], 1, k, 0⟩ else if l[k].name = metaName then some ⟨6, 1, k, 0⟩ else if dupB (l.map HeaderD.name) k = true then some ⟨7, 1, k, 0⟩ else none := by
  rw [hdrAtM, List.getElem?_eq_getElem h]

set_option maxRecDepth 100000 in
set_option maxHeartbeats 4000000 in
theorem checkHeaders_any (p : ProgD) (w : World) (o : ProgOk w p) (hl : p.headers.l.length ≤ 100) (hc : ∀ h ∈ p.headers.l, h.fields.l.length ≤ h.fields.c) :
    Calls Tryz.prog 85 #[.agg (progCells p)] w fun e w' => e = outE (hdrsM p) ∧ Below w.heap.size w w' := by
  obtain ⟨W, hW, hw, HB, hp⟩ := box1 w (progCells p) 31
  have HW := Lib.hid hw
  have HOW := Lib.hid (o.below hw)
  have HC := Lib.hid hc
  have HR := Lib.hid (hdrsM.eq_1 p)
  have HS := Lib.hid (hdrAtM_at p.headers.l)
  have HL := Lib.hid hl
  clear o hw hc
  have hn := names_header p.headers W HOW.out.headers hl
  simp only [L.v] at hn
  by_cases h0 : p.headers.l.length = 0
  · have HR2 := Lib.hid (HR.out.trans (show _ = (none : Option DiagD) by rw [h0]; rfl))
    have HNm := Lib.hid hn
    have h1 : ¬ ((0 : Int) < (p.headers.l.length : Int)) := by omega
    have h2 : (p.headers.l.length : Int) ≤ 0 := by omega
    clear h0 hn
    go_enter Tryz.func85, Tryz.ntmps85
    go_upto_region 1 with fail
    rw [← hW]
    clear hW
    go_wp2_with fail
    refine HNm.out.mono ?_
    rintro e w1 ⟨A, c, rfl, _, hb1⟩
    replace HB := below_step HB hb1
    clear hb1
    go_wp2
    refine wp_loop_rounds 1 ?_
    rw [rounds_succ]
    go_wp2
    go_end0
    exact ⟨by rw [HR2.out]; rfl, below_step HW.out HB⟩
  obtain ⟨g, of, hA, hall⟩ := HeaderD.allA HOW.out.headers (show 0 < p.headers.l.length by omega)
  have HAL := Lib.hid hall
  have HAA := Lib.hid hA
  rw [hA] at hn
  simp only [progCells, hA] at hp hW ⊢
  have HNm := Lib.hid hn
  clear hA hall hn
  go_enter Tryz.func85, Tryz.ntmps85
  go_upto_region 1 with fail
  rw [← hW]
  clear hW
  go_wp2_with fail
  refine HNm.out.mono ?_
  rintro e w1 ⟨A, c, rfl, hown, hb1⟩
  obtain ⟨gn, rfl, hg⟩ := OwnStrs.form hown (by rw [List.length_map]; omega)
  have HG := Lib.hid hg
  replace HB := below_step HB hb1
  have HB1 := Lib.hid HB
  clear hb1 hown hg HNm h0
  go_wp2
  clear HB
  go_loopw [3, 4, 11] (fun _ _ iv wr => ∃ k : Nat, k ≤ p.headers.l.length ∧ iv = .int .i64 k ∧ (∀ j, j < k → hdrAtM p.headers.l j = none) ∧ Below w1.heap.size w1 wr) (fun _ _ i _ => p.headers.l.length - (intOf i).toNat)
  case atStart => exact ⟨0, Nat.zero_le _, rfl, fun j h => absurd h (Nat.not_lt_zero _), Below.refl _ _⟩
  case round =>
    obtain ⟨k, hk, rfl, hpre, HB⟩ := hrel
    have HPre := Lib.hid hpre
    clear hpre
    by_cases hlt : k < p.headers.l.length
    · obtain ⟨d0, d1⟩ := HAL.out wr (below_step HB1.out HB) k hlt
      have HE := Lib.hid (HS.out k hlt)
      have HX : Hid (HeaderOk W p.headers.l[k]) := Lib.hid (HOW.out.hdr _ (List.getElem_mem hlt))
      have HCk := Lib.hid (HC.out _ (List.getElem_mem hlt))
      generalize p.headers.l[k] = y at *
      obtain ⟨yn, ⟨yl, yA, yc⟩⟩ := y
      simp only at HE HCk d0 d1
      have hca := @World.cell?_alloc_some
      go_wp2_with fail
      refine (headerCheck_any ⟨yn, ⟨yl, yA, yc⟩⟩ (wr.alloc (.cells #[.string yn, .slice yA yl.length yc] 96)) (HX.out.below (below_step HB1.out (by first | exact HB | exact below_alloc HB _ | exact below_alloc (below_alloc HB _) _ | exact below_alloc (below_alloc (below_alloc HB _) _) _))) HCk.out).mono ?_
      rintro e w2 ⟨rfl, hbN⟩
      have f0 : w2.cell? ⟨wr.heap.size, 0, none⟩ = some (.string yn) := below_cell hbN (by simp)
      replace HB := below_step (by first | exact HB | exact below_alloc HB _ | exact below_alloc (below_alloc HB _) _ | exact below_alloc (below_alloc (below_alloc HB _) _) _) hbN
      clear hbN d0 d1 hca
      generalize hdrM ⟨yn, ⟨yl, yA, yc⟩⟩ = hc at *
      by_cases k1 : hc = 0
      case neg =>
        have HE2 := Lib.hid (HE.out.trans (if_pos k1))
        have HR2 := Lib.hid (HR.out.trans (firstE_some hlt HPre.out HE2.out))
        go_wp2_with fail
        refine (require_bad hc 1 k 0 _ (beq_eq_false_iff_ne.2 k1)).mono ?_
        rintro e w' ⟨rfl, rfl⟩
        go_wp2
        exact ⟨rfl, by rw [HR2.out]; rfl, below_step HW.out (below_step HB1.out HB)⟩
      subst k1
      have HE2 := Lib.hid (HE.out.trans (if_neg (by simp)))
      go_wp2_with fail
      refine (require_ok _ _ _ _).mono ?_
      rintro e w' ⟨rfl, rfl⟩
      by_cases he : yn = metaName
      case pos =>
        have HE3 := Lib.hid (HE2.out.trans (if_pos he))
        have HR2 := Lib.hid (HR.out.trans (firstE_some hlt HPre.out HE3.out))
        have he' := meta_true he
        clear he
        go_wp2_with fail
        refine (when_true _ _ _ rfl).mono ?_
        rintro e w' ⟨rfl, rfl⟩
        go_wp2_with fail
        refine (require_bad 6 1 k 0 _ rfl).mono ?_
        rintro e w' ⟨rfl, rfl⟩
        go_wp2
        exact ⟨rfl, by rw [HR2.out]; rfl, below_step HW.out (below_step HB1.out HB)⟩
      have HE3 := Lib.hid (HE2.out.trans (if_neg he))
      have he' := meta_false he
      clear he
      go_wp2_with fail
      refine (when_false _ _ _ rfl).mono ?_
      rintro e w' ⟨rfl, rfl⟩
      go_wp2_with fail
      refine (require_ok _ _ _ _).mono ?_
      rintro e w' ⟨rfl, rfl⟩
      go_wp2_with fail
      refine (rep_at (p.headers.l.map HeaderD.name) p.headers.l.length gn c k w1 _ (by simp) hlt (by have := HL.out; omega) HG.out HB).mono ?_
      rintro e w3 ⟨rfl, hbN⟩
      replace HB := below_step (by first | exact HB | exact below_alloc HB _ | exact below_alloc (below_alloc HB _) _ | exact below_alloc (below_alloc (below_alloc HB _) _) _) hbN
      clear hbN
      cases hd : dupB (p.headers.l.map HeaderD.name) k
      case true =>
        have HE4 := Lib.hid (HE3.out.trans (if_pos hd))
        have HR2 := Lib.hid (HR.out.trans (firstE_some hlt HPre.out HE4.out))
        go_wp2_with fail
        refine (when_true _ _ _ rfl).mono ?_
        rintro e w' ⟨rfl, rfl⟩
        go_wp2_with fail
        refine (require_bad 7 1 k 0 _ rfl).mono ?_
        rintro e w' ⟨rfl, rfl⟩
        go_wp2
        exact ⟨rfl, by rw [HR2.out]; rfl, below_step HW.out (below_step HB1.out HB)⟩
      have HE4 := Lib.hid (HE3.out.trans (if_neg (by rw [hd]; simp)))
      go_wp2_with fail
      refine (when_false _ _ _ rfl).mono ?_
      rintro e w' ⟨rfl, rfl⟩
      go_wp2_with fail
      refine (require_ok _ _ _ _).mono ?_
      rintro e w' ⟨rfl, rfl⟩
      go_wp2
      go_roundw
      case rel => exact ⟨k + 1, by omega, by go_num, firstE_step HPre.out HE4.out, HB⟩
      case measure => simp [intOf]; omega
    · have e : k = p.headers.l.length := by omega
      have HR2 := Lib.hid (HR.out.trans (firstE_none (by rw [← e]; exact HPre.out)))
      go_wp2
      go_end0
      exact ⟨by rw [HR2.out]; rfl, below_step HW.out (below_step HB1.out HB)⟩
end Go.Proofs.YtbfjknidinkafaaGreat
namespace Go.Proofs.YtbfjknidinkafaaGreat
open Go.RowKit

theorem sized_any (nm : ByteArray) (wd sz : Int) (w : World) :
    Calls Tryz.prog 169 #[.agg #[.string nm, .int .i64 wd, .int .i64 sz]] w fun e w' => e = .returned (.bool (decide (1 ≤ sz) && decide (sz ≤ 64))) ∧ Below w.heap.size w w' := by
  go_enter Tryz.func169, Tryz.ntmps169
  go_wp2
  all_goals (go_ret; exact ⟨ret_bool (by rw [Bool.eq_iff_iff]; simp; omega), below1 _ _⟩)

set_option maxRecDepth 100000 in
set_option maxHeartbeats 1000000 in
theorem registerCheck_any (r : RegD) (w : World) (hs : r.name.size ≤ maxLen) :
    Calls Tryz.prog 128 #[.agg #[.string r.name, .int .i64 r.width, .int .i64 r.size]] w fun e w' => e = .returned (.int .i64 (regM r)) ∧ Below w.heap.size w w' := by
  obtain ⟨nm, wd, sz⟩ := r
  have HS := Lib.hid hs
  obtain ⟨W, hW, hw, HB, hp⟩ := box1 w #[.string nm, .int .i64 wd, .int .i64 sz] 120
  have HW := Lib.hid hw
  clear hs hw
  have HR : Hid (regM ⟨nm, wd, sz⟩ = if ident nm = false then 6 else if okW wd = false then 10 else if sz < 1 ∨ 64 < sz then 9 else 0) := Lib.hid rfl
  have hz := mask_zero wd
  go_enter Tryz.func128, Tryz.ntmps128
  go_wp2_with fail
  rw [← hW]
  clear hW
  refine (isIdent_any nm _ HS.out).mono ?_
  rintro e w' ⟨rfl, rfl⟩
  cases h1 : identM nm.data.toList
  · replace HR := Lib.hid (HR.out.trans (if_pos (show ident nm = false from h1)))
    go_wp2
    go_ret
    exact ⟨by rw [HR.out]; rfl, below_step HW.out HB⟩
  replace HR := Lib.hid (HR.out.trans (if_neg (show ¬ ident nm = false by rw [show ident nm = true from h1]; simp)))
  go_wp2_with fail
  refine (mask_any wd _).mono ?_
  rintro e w1 ⟨rfl, hbN⟩
  replace HB := below_step (by first | exact HB | exact below_alloc HB _ | exact below_alloc (below_alloc HB _) _ | exact below_alloc (below_alloc (below_alloc HB _) _) _) hbN
  clear hbN
  cases h2 : okW wd
  · replace HR := Lib.hid (HR.out.trans (if_pos h2))
    rw [h2] at hz
    go_wp2
    go_ret
    exact ⟨by rw [HR.out]; rfl, below_step HW.out HB⟩
  replace HR := Lib.hid (HR.out.trans (if_neg (show ¬ okW wd = false by rw [h2]; simp)))
  rw [h2] at hz
  go_wp2_with fail
  refine (sized_any nm wd sz _).mono ?_
  rintro e w2 ⟨rfl, hbN⟩
  replace HB := below_step (by first | exact HB | exact below_alloc HB _ | exact below_alloc (below_alloc HB _) _ | exact below_alloc (below_alloc (below_alloc HB _) _) _) hbN
  clear hbN
  cases h3 : (decide (1 ≤ sz) && decide (sz ≤ 64))
  · replace HR := Lib.hid (HR.out.trans (if_pos (by simp at h3; omega)))
    go_wp2
    go_ret
    exact ⟨by rw [HR.out]; rfl, below_step HW.out HB⟩
  · replace HR := Lib.hid (HR.out.trans (if_neg (by simp at h3; omega)))
    go_wp2
    go_ret
    exact ⟨by rw [HR.out]; rfl, below_step HW.out HB⟩
end Go.Proofs.YtbfjknidinkafaaGreat
namespace Go.Proofs.YtbfjknidinkafaaGreat
open Go.RowKit

set_option maxRecDepth 100000 in
set_option maxHeartbeats 4000000 in
theorem checkLimits_any (p : ProgD) (w : World) (hs : p.name.size ≤ maxLen) :
    Calls Tryz.prog 84 #[p.val] w fun e w' => e = outE (limM p) ∧ Below w.heap.size w w' := by
  have HS := Lib.hid hs
  clear hs
  obtain ⟨W, hW, hb, H0, hp⟩ := prog_box w p 31
  have HB := Lib.hid hb
  clear hb
  simp only [ProgD.val, L.v]
  go_enter Tryz.func84, Tryz.ntmps84
  go_wp2_with fail
  rw [← hW]
  clear hW
  refine (identifier_any p.name _ HS.out).mono ?_
  rintro e w' ⟨rfl, rfl⟩
  by_cases k1 : ident p.name = false
  · have HR := Lib.hid (show limM p = some ⟨6, 0, 0, 0⟩ by rw [limM, if_pos k1])
    rw [k1]
    go_wp2_with fail
    refine (when_true _ _ _ rfl).mono ?_
    rintro e w' ⟨rfl, rfl⟩
    go_wp2_with fail
    refine (require_bad 6 0 0 0 _ rfl).mono ?_
    rintro e w' ⟨rfl, rfl⟩
    go_wp2
    exact ⟨rfl, by rw [HR.out]; rfl, HB.out⟩
  have k1' : ident p.name = true := by simpa using k1
  rw [k1']
  go_wp2_with fail
  refine (when_false _ _ _ rfl).mono ?_
  rintro e w' ⟨rfl, rfl⟩
  go_wp2_with fail
  refine (require_ok _ _ _ _).mono ?_
  rintro e w' ⟨rfl, rfl⟩
  by_cases k2 : 8 < p.headers.l.length
  · have HR := Lib.hid (show limM p = some ⟨12, 0, 1, 0⟩ by rw [limM, if_neg k1, if_pos k2])
    go_wp2_with fail
    refine (when_true _ _ _ (by first | rfl | (simp; omega))).mono ?_
    rintro e w' ⟨rfl, rfl⟩
    go_wp2_with fail
    refine (require_bad 12 0 1 0 _ rfl).mono ?_
    rintro e w' ⟨rfl, rfl⟩
    go_wp2
    exact ⟨rfl, by rw [HR.out]; rfl, HB.out⟩
  go_wp2_with fail
  refine (when_false _ _ _ (by first | rfl | (simp; omega))).mono ?_
  rintro e w' ⟨rfl, rfl⟩
  go_wp2_with fail
  refine (require_ok _ _ _ _).mono ?_
  rintro e w' ⟨rfl, rfl⟩
  by_cases k3 : 4 < p.registers.l.length
  · have HR := Lib.hid (show limM p = some ⟨12, 0, 3, 0⟩ by rw [limM, if_neg k1, if_neg k2, if_pos k3])
    go_wp2_with fail
    refine (when_true _ _ _ (by first | rfl | (simp; omega))).mono ?_
    rintro e w' ⟨rfl, rfl⟩
    go_wp2_with fail
    refine (require_bad 12 0 3 0 _ rfl).mono ?_
    rintro e w' ⟨rfl, rfl⟩
    go_wp2
    exact ⟨rfl, by rw [HR.out]; rfl, HB.out⟩
  go_wp2_with fail
  refine (when_false _ _ _ (by first | rfl | (simp; omega))).mono ?_
  rintro e w' ⟨rfl, rfl⟩
  go_wp2_with fail
  refine (require_ok _ _ _ _).mono ?_
  rintro e w' ⟨rfl, rfl⟩
  by_cases k4 : 16 < p.actions.l.length
  · have HR := Lib.hid (show limM p = some ⟨12, 0, 4, 0⟩ by rw [limM, if_neg k1, if_neg k2, if_neg k3, if_pos k4])
    go_wp2_with fail
    refine (when_true _ _ _ (by first | rfl | (simp; omega))).mono ?_
    rintro e w' ⟨rfl, rfl⟩
    go_wp2_with fail
    refine (require_bad 12 0 4 0 _ rfl).mono ?_
    rintro e w' ⟨rfl, rfl⟩
    go_wp2
    exact ⟨rfl, by rw [HR.out]; rfl, HB.out⟩
  go_wp2_with fail
  refine (when_false _ _ _ (by first | rfl | (simp; omega))).mono ?_
  rintro e w' ⟨rfl, rfl⟩
  go_wp2_with fail
  refine (require_ok _ _ _ _).mono ?_
  rintro e w' ⟨rfl, rfl⟩
  by_cases k5 : 12 < p.tables.l.length
  · have HR := Lib.hid (show limM p = some ⟨12, 0, 5, 0⟩ by rw [limM, if_neg k1, if_neg k2, if_neg k3, if_neg k4, if_pos k5])
    go_wp2_with fail
    refine (when_true _ _ _ (by first | rfl | (simp; omega))).mono ?_
    rintro e w' ⟨rfl, rfl⟩
    go_wp2_with fail
    refine (require_bad 12 0 5 0 _ rfl).mono ?_
    rintro e w' ⟨rfl, rfl⟩
    go_wp2
    exact ⟨rfl, by rw [HR.out]; rfl, HB.out⟩
  have HR := Lib.hid (show limM p = none by rw [limM, if_neg k1, if_neg k2, if_neg k3, if_neg k4, if_neg k5])
  go_wp2_with fail
  refine (when_false _ _ _ (by first | rfl | (simp; omega))).mono ?_
  rintro e w' ⟨rfl, rfl⟩
  go_wp2_with fail
  refine (require_ok _ _ _ _).mono ?_
  rintro e w' ⟨rfl, rfl⟩
  go_wp2
  go_end0
  exact ⟨by rw [HR.out]; rfl, HB.out⟩
end Go.Proofs.YtbfjknidinkafaaGreat
namespace Go.Proofs.YtbfjknidinkafaaGreat
open Go.RowKit

theorem regAtM_at (l : List RegD) (k : Nat) (h : k < l.length) : regAtM l k = if regM l[k] ≠ 0 then some ⟨regM l[k], 3, k, 0⟩ else if dupB (l.map RegD.name) k = true then some ⟨7, 3, k, 0⟩ else none := by
  rw [regAtM, List.getElem?_eq_getElem h]
theorem actAtM_at (p : ProgD) (k : Nat) (h : k < p.actions.l.length) : actAtM p k = if (actM p p.actions.l[k]).2 ≠ 0 then some ⟨(actM p p.actions.l[k]).2, 4, k, (actM p p.actions.l[k]).1⟩ else if dupB (p.actions.l.map ActD.name) k = true then some ⟨7, 4, k, 0⟩ else none := by
  rw [actAtM, List.getElem?_eq_getElem h]
theorem tabAtM_at (p : ProgD) (k : Nat) (h : k < p.tables.l.length) : tabAtM p k = if (tabM p p.tables.l[k]).2 ≠ 0 then some ⟨(tabM p p.tables.l[k]).2, 5, k, (tabM p p.tables.l[k]).1⟩ else if dupB (p.tables.l.map TabD.name) k = true then some ⟨7, 5, k, 0⟩ else none := by
  rw [tabAtM, List.getElem?_eq_getElem h]
/-- the checks of registers, actions, tables in their order -/
def objsM (p : ProgD) : Option DiagD := orE (regsM p) (orE (actsM p) (tabsM p))
theorem objs1 {p : ProgD} {d : DiagD} (h : regsM p = some d) : objsM p = some d := by rw [objsM, h]; rfl
theorem objs2 {p : ProgD} (h : regsM p = none) : objsM p = orE (actsM p) (tabsM p) := by rw [objsM, h]; rfl
theorem or1 {α : Type} {a b : Option α} {d : α} (h : a = some d) : orE a b = some d := by rw [h]; rfl
theorem or2 {α : Type} {a b : Option α} (h : a = none) : orE a b = b := by rw [h]; rfl

set_option maxRecDepth 100000 in
set_option maxHeartbeats 8000000 in
theorem checkObjects_any (p : ProgD) (w : World) (o : ProgOk w p) (hr : p.registers.l.length ≤ 100) (ha : p.actions.l.length ≤ 100) (ht : p.tables.l.length ≤ 100)
    (hc1 : ∀ a ∈ p.actions.l, a.params.l.length ≤ a.params.c) (hc2 : ∀ t ∈ p.tables.l, (Lit.int .i64 t.defA).wf = true) :
    Calls Tryz.prog 87 #[.agg (progCells p)] w fun e w' => e = outE (objsM p) ∧ Below w.heap.size w w' := by
  obtain ⟨W, hW, hw, HB, hp⟩ := box1 w (progCells p) 31
  have HW := Lib.hid hw
  have HOW := Lib.hid (o.below hw)
  have HRr := Lib.hid (regsM.eq_1 p)
  have HRa := Lib.hid (actsM.eq_1 p)
  have HRt := Lib.hid (tabsM.eq_1 p)
  have HSr := Lib.hid (regAtM_at p.registers.l)
  have HSa := Lib.hid (actAtM_at p)
  have HSt := Lib.hid (tabAtM_at p)
  have HL := Lib.hid (And.intro hr (And.intro ha ht))
  have HLK := Lib.hid HOW.out.registers
  have HNr := Lib.hid (fun w' (h : Below W.heap.size W w') => names_register p.registers w' (HOW.out.registers.below h (Nat.le_refl _)) hr)
  have HNa := Lib.hid (fun w' (h : Below W.heap.size W w') => names_action p.actions w' (HOW.out.actions.below h (Nat.le_refl _)) ha)
  have HNt := Lib.hid (fun w' (h : Below W.heap.size W w') => names_table p.tables w' (HOW.out.tables.below h (Nat.le_refl _)) ht)
  have HCa := Lib.hid (fun k hk w' (h : Below W.heap.size W w') => actionCheck_any p k hk w' (HOW.out.below h) hc1)
  have HCt := Lib.hid (fun k hk w' (h : Below W.heap.size W w') => tableCheck_any p k hk w' (HOW.out.below h) hc2)
  have HRN : Hid (∀ r ∈ p.registers.l, r.name.size ≤ maxLen) := Lib.hid HOW.out.rnames
  clear o hw hc1 hc2
  obtain ⟨⟨rl, rA, rc⟩, hreg⟩ : ∃ x, p.registers = x := ⟨_, rfl⟩
  simp only [progCells, hreg] at hp hW ⊢
  rw [hreg] at hr HLK HSr HRN
  have HREG := Lib.hid hreg
  simp only at hr HSr HRN
  clear hreg
  go_enter Tryz.func87, Tryz.ntmps87
  go_upto_region 1 with fail
  rw [← hW]
  clear hW
  go_wp2_with fail
  have hn := HNr.out W HB
  rw [HREG.out] at hn
  refine hn.mono ?_
  clear hn
  rintro e w1 ⟨A, c, rfl, hown, hb1⟩
  have HOwn := Lib.hid hown
  replace HB := below_step HB hb1
  have HB1 := Lib.hid HB
  clear hb1 hown
  simp only
  go_wp2
  clear HB
  go_loopw [3, 4, 17] (fun _ _ iv wr => ∃ k : Nat, k ≤ rl.length ∧ iv = .int .i64 k ∧ (∀ j, j < k → regAtM rl j = none) ∧ Below w1.heap.size w1 wr) (fun _ _ i _ => rl.length - (intOf i).toNat)
  case atStart => exact ⟨0, Nat.zero_le _, rfl, fun j h => absurd h (Nat.not_lt_zero _), Below.refl _ _⟩
  case round =>
    obtain ⟨k, hk, rfl, hpre, HB⟩ := hrel
    have HPre := Lib.hid hpre
    clear hpre
    by_cases hlt : k < rl.length
    · obtain ⟨g, of, hA, d0, d1, d2⟩ := RegD.at (HLK.out.below (below_step HB1.out HB) (Nat.le_refl _)) hlt
      have HE := Lib.hid (HSr.out k hlt)
      have HNk := Lib.hid (HRN.out _ (List.getElem_mem hlt))
      simp only at hA d0 d1 d2
      subst hA
      generalize rl[k] = y at *
      obtain ⟨yn, yw, ys⟩ := y
      simp only at HE HNk d0 d1 d2
      obtain ⟨gn, rfl, hg⟩ := OwnStrs.form HOwn.out (show 0 < (rl.map RegD.name).length by rw [List.length_map]; omega)
      have HG := Lib.hid hg
      clear hg
      have hca := @World.cell?_alloc_some
      go_wp2_with fail
      refine (registerCheck_any ⟨yn, yw, ys⟩ _ HNk.out).mono ?_
      rintro e w2 ⟨rfl, hbN⟩
      replace HB := below_step (by first | exact HB | exact below_alloc HB _ | exact below_alloc (below_alloc HB _) _ | exact below_alloc (below_alloc (below_alloc HB _) _) _) hbN
      clear hbN
      clear d0 d1 d2 hca
      generalize regM ⟨yn, yw, ys⟩ = rc at *
      by_cases k1 : rc = 0
      case neg =>
        have HE2 := Lib.hid (HE.out.trans (if_pos k1))
        have HR2 := Lib.hid (objs1 (HRr.out.trans (show _ = some (⟨rc, 3, k, 0⟩ : DiagD) by rw [HREG.out]; exact firstE_some hlt HPre.out HE2.out)))
        go_wp2_with fail
        refine (require_bad rc 3 k 0 _ (beq_eq_false_iff_ne.2 k1)).mono ?_
        rintro e w' ⟨rfl, rfl⟩
        go_wp2
        exact ⟨rfl, by rw [HR2.out]; rfl, below_step HW.out (below_step HB1.out HB)⟩
      subst k1
      have HE2 := Lib.hid (HE.out.trans (if_neg (by simp)))
      go_wp2_with fail
      refine (require_ok _ _ _ _).mono ?_
      rintro e w' ⟨rfl, rfl⟩
      go_wp2_with fail
      refine (rep_at (rl.map RegD.name) rl.length gn c k w1 _ (by simp) hlt (by omega) HG.out HB).mono ?_
      rintro e w3 ⟨rfl, hbN⟩
      replace HB := below_step (by first | exact HB | exact below_alloc HB _ | exact below_alloc (below_alloc HB _) _ | exact below_alloc (below_alloc (below_alloc HB _) _) _) hbN
      clear hbN
      cases hd : dupB (rl.map RegD.name) k
      case true =>
        have HE4 := Lib.hid (HE2.out.trans (if_pos hd))
        have HR2 := Lib.hid (objs1 (HRr.out.trans (show _ = some (⟨7, 3, k, 0⟩ : DiagD) by rw [HREG.out]; exact firstE_some hlt HPre.out HE4.out)))
        go_wp2_with fail
        refine (when_true _ _ _ rfl).mono ?_
        rintro e w' ⟨rfl, rfl⟩
        go_wp2_with fail
        refine (require_bad 7 3 k 0 _ rfl).mono ?_
        rintro e w' ⟨rfl, rfl⟩
        go_wp2
        exact ⟨rfl, by rw [HR2.out]; rfl, below_step HW.out (below_step HB1.out HB)⟩
      have HE4 := Lib.hid (HE2.out.trans (if_neg (by rw [hd]; simp)))
      go_wp2_with fail
      refine (when_false _ _ _ rfl).mono ?_
      rintro e w' ⟨rfl, rfl⟩
      go_wp2_with fail
      refine (require_ok _ _ _ _).mono ?_
      rintro e w' ⟨rfl, rfl⟩
      go_wp2
      go_roundw
      case rel => exact ⟨k + 1, by omega, by go_num, firstE_step HPre.out HE4.out, HB⟩
      case measure => simp [intOf]; omega
    have e : k = rl.length := by omega
    have HR2 := Lib.hid (objs2 (HRr.out.trans (show _ = (none : Option DiagD) by rw [HREG.out]; exact firstE_none (by rw [← e]; exact HPre.out))))
    have hkx : ¬ ((k : Int) < (rl.length : Int)) := by omega
    replace HB := below_step HB1.out HB
    clear HPre HB1 HOwn hlt e
    go_wp2_with fail
    refine (HNa.out _ HB).mono ?_
    rintro e w4 ⟨A2, c2, rfl, hown, hb1⟩
    have HOwn := Lib.hid hown
    replace HB := below_step HB hb1
    have HB4 := Lib.hid HB
    clear hb1 hown
    go_wp2
    have HBb := HB4
    clear HB4
    clear HB
    go_loopw [5, 6, 7, 39] (fun _ _ _ iv wr => ∃ k : Nat, k ≤ p.actions.l.length ∧ iv = .int .i64 k ∧ (∀ j, j < k → actAtM p j = none) ∧ Below w4.heap.size w4 wr) (fun _ _ _ i _ => p.actions.l.length - (intOf i).toNat)
    case atStart => exact ⟨0, Nat.zero_le _, rfl, fun j h => absurd h (Nat.not_lt_zero _), Below.refl _ _⟩
    case round =>
      obtain ⟨k, hk, rfl, hpre, HB⟩ := hrel
      have HPre := Lib.hid hpre
      clear hpre
      by_cases hlt : k < p.actions.l.length
      · have HE := Lib.hid (HSa.out k hlt)
        obtain ⟨gn, rfl, hg⟩ := OwnStrs.form HOwn.out (show 0 < (p.actions.l.map ActD.name).length by rw [List.length_map]; omega)
        have HG := Lib.hid hg
        clear hg
        have hp1 := hp wr (below_step HBb.out HB)
        go_wp2_with fail
        clear hp1
        have hCN := HCa.out k hlt wr (below_step HBb.out HB)
        simp only [progCells, HREG.out] at hCN
        refine hCN.mono ?_
        clear hCN
        rintro e w5 ⟨rfl, hbN⟩
        replace HB := below_step HB hbN
        clear hbN
        generalize actM p p.actions.l[k] = r at *
        obtain ⟨ra, rcd⟩ := r
        simp only at HE
        by_cases k1 : rcd = 0
        case neg =>
          have HE2 := Lib.hid (HE.out.trans (if_pos k1))
          have HR3 := Lib.hid (HR2.out.trans (or1 (HRa.out.trans (firstE_some hlt HPre.out HE2.out))))
          go_wp2_with fail
          refine (require_bad rcd 4 k ra _ (beq_eq_false_iff_ne.2 k1)).mono ?_
          rintro e w' ⟨rfl, rfl⟩
          go_wp2
          exact ⟨rfl, by rw [HR3.out]; rfl, below_step HW.out (below_step HBb.out HB)⟩
        subst k1
        have HE2 := Lib.hid (HE.out.trans (if_neg (by simp)))
        go_wp2_with fail
        refine (require_ok _ _ _ _).mono ?_
        rintro e w' ⟨rfl, rfl⟩
        go_wp2_with fail
        refine (rep_at (p.actions.l.map ActD.name) p.actions.l.length gn c2 k w4 _ (by simp) hlt (by have := HL.out; omega) HG.out HB).mono ?_
        rintro e w6 ⟨rfl, hbN⟩
        replace HB := below_step (by first | exact HB | exact below_alloc HB _ | exact below_alloc (below_alloc HB _) _ | exact below_alloc (below_alloc (below_alloc HB _) _) _) hbN
        clear hbN
        cases hd : dupB (p.actions.l.map ActD.name) k
        case true =>
          have HE4 := Lib.hid (HE2.out.trans (if_pos hd))
          have HR3 := Lib.hid (HR2.out.trans (or1 (HRa.out.trans (firstE_some hlt HPre.out HE4.out))))
          go_wp2_with fail
          refine (when_true _ _ _ rfl).mono ?_
          rintro e w' ⟨rfl, rfl⟩
          go_wp2_with fail
          refine (require_bad 7 4 k 0 _ rfl).mono ?_
          rintro e w' ⟨rfl, rfl⟩
          go_wp2
          exact ⟨rfl, by rw [HR3.out]; rfl, below_step HW.out (below_step HBb.out HB)⟩
        have HE4 := Lib.hid (HE2.out.trans (if_neg (by rw [hd]; simp)))
        go_wp2_with fail
        refine (when_false _ _ _ rfl).mono ?_
        rintro e w' ⟨rfl, rfl⟩
        go_wp2_with fail
        refine (require_ok _ _ _ _).mono ?_
        rintro e w' ⟨rfl, rfl⟩
        go_wp2
        go_roundw
        case rel => exact ⟨k + 1, by omega, by go_num, firstE_step HPre.out HE4.out, HB⟩
        case measure => simp [intOf]; omega
      have e : k = p.actions.l.length := by omega
      have HR3 := Lib.hid (HR2.out.trans (or2 (HRa.out.trans (firstE_none (by rw [← e]; exact HPre.out)))))
      have hkx : ¬ ((k : Int) < (p.actions.l.length : Int)) := by omega
      replace HB := below_step HBb.out HB
      clear HPre HBb HOwn hlt e HR2
      have HR2 := HR3
      clear HR3
      go_wp2_with fail
      refine (HNt.out _ HB).mono ?_
      rintro e w7 ⟨A2, c2, rfl, hown, hb1⟩
      have HOwn := Lib.hid hown
      replace HB := below_step HB hb1
      have HBb := Lib.hid HB
      clear hb1 hown
      go_wp2
      clear HB
      go_loopw [8, 9, 10, 65] (fun _ _ _ iv wr => ∃ k : Nat, k ≤ p.tables.l.length ∧ iv = .int .i64 k ∧ (∀ j, j < k → tabAtM p j = none) ∧ Below w7.heap.size w7 wr) (fun _ _ _ i _ => p.tables.l.length - (intOf i).toNat)
      case atStart => exact ⟨0, Nat.zero_le _, rfl, fun j h => absurd h (Nat.not_lt_zero _), Below.refl _ _⟩
      case round =>
        obtain ⟨k, hk, rfl, hpre, HB⟩ := hrel
        have HPre := Lib.hid hpre
        clear hpre
        by_cases hlt : k < p.tables.l.length
        · have HE := Lib.hid (HSt.out k hlt)
          obtain ⟨gn, rfl, hg⟩ := OwnStrs.form HOwn.out (show 0 < (p.tables.l.map TabD.name).length by rw [List.length_map]; omega)
          have HG := Lib.hid hg
          clear hg
          have hp1 := hp wr (below_step HBb.out HB)
          go_wp2_with fail
          clear hp1
          have hCN := HCt.out k hlt wr (below_step HBb.out HB)
          simp only [progCells, HREG.out] at hCN
          refine hCN.mono ?_
          clear hCN
          rintro e w5 ⟨rfl, hbN⟩
          replace HB := below_step HB hbN
          clear hbN
          generalize tabM p p.tables.l[k] = r at *
          obtain ⟨ra, rcd⟩ := r
          simp only at HE
          by_cases k1 : rcd = 0
          case neg =>
            have HE2 := Lib.hid (HE.out.trans (if_pos k1))
            have HR3 := Lib.hid (HR2.out.trans (HRt.out.trans (firstE_some hlt HPre.out HE2.out)))
            go_wp2_with fail
            refine (require_bad rcd 5 k ra _ (beq_eq_false_iff_ne.2 k1)).mono ?_
            rintro e w' ⟨rfl, rfl⟩
            go_wp2
            exact ⟨rfl, by rw [HR3.out]; rfl, below_step HW.out (below_step HBb.out HB)⟩
          subst k1
          have HE2 := Lib.hid (HE.out.trans (if_neg (by simp)))
          go_wp2_with fail
          refine (require_ok _ _ _ _).mono ?_
          rintro e w' ⟨rfl, rfl⟩
          go_wp2_with fail
          refine (rep_at (p.tables.l.map TabD.name) p.tables.l.length gn c2 k w7 _ (by simp) hlt (by have := HL.out; omega) HG.out HB).mono ?_
          rintro e w6 ⟨rfl, hbN⟩
          replace HB := below_step (by first | exact HB | exact below_alloc HB _ | exact below_alloc (below_alloc HB _) _ | exact below_alloc (below_alloc (below_alloc HB _) _) _) hbN
          clear hbN
          cases hd : dupB (p.tables.l.map TabD.name) k
          case true =>
            have HE4 := Lib.hid (HE2.out.trans (if_pos hd))
            have HR3 := Lib.hid (HR2.out.trans (HRt.out.trans (firstE_some hlt HPre.out HE4.out)))
            go_wp2_with fail
            refine (when_true _ _ _ rfl).mono ?_
            rintro e w' ⟨rfl, rfl⟩
            go_wp2_with fail
            refine (require_bad 7 5 k 0 _ rfl).mono ?_
            rintro e w' ⟨rfl, rfl⟩
            go_wp2
            exact ⟨rfl, by rw [HR3.out]; rfl, below_step HW.out (below_step HBb.out HB)⟩
          have HE4 := Lib.hid (HE2.out.trans (if_neg (by rw [hd]; simp)))
          go_wp2_with fail
          refine (when_false _ _ _ rfl).mono ?_
          rintro e w' ⟨rfl, rfl⟩
          go_wp2_with fail
          refine (require_ok _ _ _ _).mono ?_
          rintro e w' ⟨rfl, rfl⟩
          go_wp2
          go_roundw
          case rel => exact ⟨k + 1, by omega, by go_num, firstE_step HPre.out HE4.out, HB⟩
          case measure => simp [intOf]; omega
        have e : k = p.tables.l.length := by omega
        have HR3 := Lib.hid (HR2.out.trans (HRt.out.trans (firstE_none (by rw [← e]; exact HPre.out))))
        go_wp2
        go_end0
        exact ⟨by rw [HR3.out]; rfl, below_step HW.out (below_step HBb.out HB)⟩
end Go.Proofs.YtbfjknidinkafaaGreat
namespace Go.Proofs.YtbfjknidinkafaaGreat
open Go.RowKit

set_option maxRecDepth 100000 in
set_option maxHeartbeats 4000000 in
theorem checkFlow_any (p : ProgD) (w : World) (o : ProgOk w p) (hc : ProgCap p) (hN : (presM p.control.l).length ≤ 90000) :
    Calls Tryz.prog 88 #[.agg (progCells p)] w fun e w' => e = outE (flowM p) ∧ Below w.heap.size w w' := by
  have HO := Lib.hid o
  have HC := Lib.hid hc
  have HN := Lib.hid hN
  have HR := Lib.hid (flowM.eq_1 p)
  obtain ⟨W, hW, hw, HB, hp⟩ := box1 w (progCells p) 31
  have HW := Lib.hid hw
  clear o hc hN hw
  go_enter Tryz.func88, Tryz.ntmps88
  go_upto_region 1 with fail
  rw [← hW]
  clear hW
  go_wp2_with fail
  refine (parserCheck_any p _ (HO.out.below (below_step HW.out (by first | exact HB | exact below_alloc HB _ | exact below_alloc (below_alloc HB _) _ | exact below_alloc (below_alloc (below_alloc HB _) _) _))) HC.out.cases).mono ?_
  rintro e w1 ⟨rfl, hbN⟩
  replace HB := below_step (by first | exact HB | exact below_alloc HB _ | exact below_alloc (below_alloc HB _) _ | exact below_alloc (below_alloc (below_alloc HB _) _) _) hbN
  clear hbN
  generalize parserM p = r at *
  obtain ⟨ri, rs, rc⟩ := r
  simp only at HR
  by_cases k1 : rc = 0
  case neg =>
    replace HR := Lib.hid (HR.out.trans (if_pos k1))
    go_wp2_with fail
    refine (require_bad rc 6 ri rs _ (beq_eq_false_iff_ne.2 k1)).mono ?_
    rintro e w' ⟨rfl, rfl⟩
    go_wp2
    exact ⟨rfl, by rw [HR.out]; rfl, below_step HW.out HB⟩
  subst k1
  replace HR := Lib.hid (HR.out.trans (if_neg (by simp)))
  go_wp2_with fail
  refine (require_ok _ _ _ _).mono ?_
  rintro e w' ⟨rfl, rfl⟩
  go_wp2_with fail
  refine (controlCheck_any p _ (HO.out.below (below_step HW.out (by first | exact HB | exact below_alloc HB _ | exact below_alloc (below_alloc HB _) _ | exact below_alloc (below_alloc (below_alloc HB _) _) _))) HN.out).mono ?_
  rintro e w2 ⟨rfl, hbN⟩
  replace HB := below_step (by first | exact HB | exact below_alloc HB _ | exact below_alloc (below_alloc HB _) _ | exact below_alloc (below_alloc (below_alloc HB _) _) _) hbN
  clear hbN
  generalize ctlM p = r at *
  obtain ⟨ri, rc⟩ := r
  simp only at HR
  by_cases k1 : rc = 0
  case neg =>
    replace HR := Lib.hid (HR.out.trans (if_pos k1))
    go_wp2_with fail
    refine (require_bad rc 7 ri 0 _ (beq_eq_false_iff_ne.2 k1)).mono ?_
    rintro e w' ⟨rfl, rfl⟩
    go_wp2
    exact ⟨rfl, by rw [HR.out]; rfl, below_step HW.out HB⟩
  subst k1
  replace HR := Lib.hid (HR.out.trans (if_neg (by simp)))
  go_wp2_with fail
  refine (require_ok _ _ _ _).mono ?_
  rintro e w' ⟨rfl, rfl⟩
  go_wp2_with fail
  refine (deparserCheck_any p _ (HO.out.below (below_step HW.out (by first | exact HB | exact below_alloc HB _ | exact below_alloc (below_alloc HB _) _ | exact below_alloc (below_alloc (below_alloc HB _) _) _))) HC.out.dep).mono ?_
  rintro e w3 ⟨rfl, hbN⟩
  replace HB := below_step (by first | exact HB | exact below_alloc HB _ | exact below_alloc (below_alloc HB _) _ | exact below_alloc (below_alloc (below_alloc HB _) _) _) hbN
  clear hbN
  generalize depM p = r at *
  obtain ⟨ri, rc⟩ := r
  simp only at HR
  by_cases k1 : rc = 0
  case neg =>
    replace HR := Lib.hid (HR.out.trans (if_pos k1))
    go_wp2_with fail
    refine (require_bad rc 8 ri 0 _ (beq_eq_false_iff_ne.2 k1)).mono ?_
    rintro e w' ⟨rfl, rfl⟩
    go_wp2
    exact ⟨rfl, by rw [HR.out]; rfl, below_step HW.out HB⟩
  subst k1
  replace HR := Lib.hid (HR.out.trans (if_neg (by simp)))
  go_wp2_with fail
  refine (require_ok _ _ _ _).mono ?_
  rintro e w' ⟨rfl, rfl⟩
  go_wp2
  go_end0
  exact ⟨by rw [HR.out]; rfl, below_step HW.out HB⟩
end Go.Proofs.YtbfjknidinkafaaGreat
namespace Go.Proofs.YtbfjknidinkafaaGreat
open Go.RowKit

theorem mixed : Tryz.prog.follows .mixedOrders = true := by kernel_rfl
theorem still_skip {P : Program} {ops : Array Oper} {w : World} {Q : Act → Prop} {a : Act} {o : Oper} {rest : List Oper} (hw : Region.wanted o (yielded ops a.tmps) = false) (h : wpStill P ops w Q rest (a.put o.dst undef)) : wpStill P ops w Q (o :: rest) a := by
  unfold wpStill
  rw [hw]
  simpa using h
theorem when_flip (b : Bool) (c : Int) (w : World) : Calls Tryz.prog 117 #[.bool b, .int .i64 c] w fun e w' => e = .returned (.int .i64 (if b = true then c else 0)) ∧ w' = w := (when_any b c w).mono fun _ _ h => ⟨h.1, h.2.symm⟩
def mAt (l : List FieldD) (i : Nat) : Option DiagD := (fldM l i).map fun e => (⟨e, 2, i, 0⟩ : DiagD)
def wAt (l : List FieldD) (i : Nat) : Option DiagD := if isWant l i = false then some ⟨5, 2, i, 0⟩ else none
theorem metaM_eq (p : ProgD) : metaM p = if 12 < p.metadata.l.length then some ⟨12, 2, 0, 0⟩
  else match firstE p.metadata.l.length (mAt p.metadata.l) with
    | some d => some d
    | none => firstE 3 (wAt p.metadata.l) := rfl
theorem mAt_some {l : List FieldD} {i : Nat} {e : Int} (h : fldM l i = some e) : mAt l i = some ⟨e, 2, i, 0⟩ := by rw [mAt, h]; rfl
theorem mAt_none {l : List FieldD} {i : Nat} (h : fldM l i = none) : mAt l i = none := by rw [mAt, h]; rfl
theorem wAt_none {l : List FieldD} {i : Nat} (h : isWant l i = true) : wAt l i = none := by rw [wAt, h]; rfl
theorem wAt_some {l : List FieldD} {i : Nat} (h : isWant l i = false) : wAt l i = some ⟨5, 2, i, 0⟩ := by rw [wAt, h]; rfl
theorem want_out {l : List FieldD} {i : Nat} (h : l.length ≤ i) : isWant l i = false := by rw [isWant, List.getElem?_eq_none h]
theorem lit_in : (⟨#[105, 110]⟩ : ByteArray).toList = [105, 110] := by rw [toList_data]
theorem nm_in_yes {s : ByteArray} (h : s = (⟨#[105, 110]⟩ : ByteArray)) : (s.toList == [105, 110]) = true := by rw [h, lit_in]; rfl
theorem nm_in_no {s : ByteArray} (h : ¬ s = (⟨#[105, 110]⟩ : ByteArray)) : (s.toList == [105, 110]) = false := beq_eq_false_iff_ne.2 fun e => h (toList_inj.1 (e.trans lit_in.symm))
theorem want_in (l : List FieldD) (h : 0 < l.length) : isWant l 0 = (decide (l[0].name = (⟨#[105, 110]⟩ : ByteArray)) && decide (l[0].width = 8)) := by
  rw [isWant, List.getElem?_eq_getElem h]
  rfl
theorem lit_out : (⟨#[111, 117, 116]⟩ : ByteArray).toList = [111, 117, 116] := by rw [toList_data]
theorem nm_out_yes {s : ByteArray} (h : s = (⟨#[111, 117, 116]⟩ : ByteArray)) : (s.toList == [111, 117, 116]) = true := by rw [h, lit_out]; rfl
theorem nm_out_no {s : ByteArray} (h : ¬ s = (⟨#[111, 117, 116]⟩ : ByteArray)) : (s.toList == [111, 117, 116]) = false := beq_eq_false_iff_ne.2 fun e => h (toList_inj.1 (e.trans lit_out.symm))
theorem want_out_ (l : List FieldD) (h : 1 < l.length) : isWant l 1 = (decide (l[1].name = (⟨#[111, 117, 116]⟩ : ByteArray)) && decide (l[1].width = 8)) := by
  rw [isWant, List.getElem?_eq_getElem h]
  rfl
theorem lit_drop : (⟨#[100, 114, 111, 112]⟩ : ByteArray).toList = [100, 114, 111, 112] := by rw [toList_data]
theorem nm_drop_yes {s : ByteArray} (h : s = (⟨#[100, 114, 111, 112]⟩ : ByteArray)) : (s.toList == [100, 114, 111, 112]) = true := by rw [h, lit_drop]; rfl
theorem nm_drop_no {s : ByteArray} (h : ¬ s = (⟨#[100, 114, 111, 112]⟩ : ByteArray)) : (s.toList == [100, 114, 111, 112]) = false := beq_eq_false_iff_ne.2 fun e => h (toList_inj.1 (e.trans lit_drop.symm))
theorem want_drop (l : List FieldD) (h : 2 < l.length) : isWant l 2 = (decide (l[2].name = (⟨#[100, 114, 111, 112]⟩ : ByteArray)) && decide (l[2].width = 1)) := by
  rw [isWant, List.getElem?_eq_getElem h]
  rfl

set_option maxRecDepth 100000 in
set_option maxHeartbeats 8000000 in
theorem checkMetadata_any (p : ProgD) (w : World) (o : ProgOk w p) :
    Calls Tryz.prog 86 #[.agg (progCells p)] w fun e w' => e = outE (metaM p) ∧ Below w.heap.size w w' := by
  obtain ⟨W, hW, hw, HB, hp⟩ := box1 w (progCells p) 31
  have HW := Lib.hid hw
  have HOW := Lib.hid (o.below hw)
  have HR := Lib.hid (metaM_eq p)
  have HS := Lib.hid (fldM_at p.metadata.l)
  have HN : Hid (∀ f ∈ p.metadata.l, f.name.size ≤ maxLen) := Lib.hid HOW.out.mnames
  have HX := Lib.hid HOW.out.metadata
  have HNm := Lib.hid (fun w' (h : Below W.heap.size W w') (hl : p.metadata.l.length ≤ 100) => names_field p.metadata w' (HOW.out.metadata.below h (Nat.le_refl _)) hl)
  have HW0 := Lib.hid (want_in p.metadata.l)
  have HW1 := Lib.hid (want_out_ p.metadata.l)
  have HW2 := Lib.hid (want_drop p.metadata.l)
  clear o hw
  obtain ⟨⟨ml, mA, mc⟩, hmd⟩ : ∃ x, p.metadata = x := ⟨_, rfl⟩
  simp only [progCells, hmd] at hp hW ⊢
  rw [hmd] at HR HS HN HX HNm HW0 HW1 HW2
  simp only at HR HS HN HNm HW0 HW1 HW2
  clear hmd HOW
  have HB0 := Lib.hid HB
  go_enter Tryz.func86, Tryz.ntmps86
  go_upto_region 1 with fail
  rw [← hW]
  clear hW
  by_cases h12 : 12 < ml.length
  · replace HR := Lib.hid (HR.out.trans (if_pos h12))
    go_wp2_with fail
    refine (when_true _ _ _ (by first | rfl | (simp; omega))).mono ?_
    rintro e w' ⟨rfl, rfl⟩
    go_wp2_with fail
    refine (require_bad 12 2 0 0 _ rfl).mono ?_
    rintro e w' ⟨rfl, rfl⟩
    go_wp2
    exact ⟨rfl, by rw [HR.out]; rfl, below_step HW.out HB⟩
  replace HR := Lib.hid (HR.out.trans (if_neg h12))
  have hle : ml.length ≤ 12 := by omega
  clear h12
  go_wp2_with fail
  refine (when_false _ _ _ (by first | rfl | (simp; omega))).mono ?_
  rintro e w' ⟨rfl, rfl⟩
  go_wp2_with fail
  refine (require_ok _ _ _ _).mono ?_
  rintro e w' ⟨rfl, rfl⟩
  go_wp2_with fail
  refine (HNm.out _ HB (by omega)).mono ?_
  rintro e w1 ⟨A, c, rfl, hown, hb1⟩
  have HOwn := Lib.hid hown
  replace HB := below_step HB hb1
  have HB1 := Lib.hid HB
  clear hb1 hown HNm
  go_wp2
  clear HB
  go_loopw [3, 4, 19] (fun _ _ iv wr => ∃ k : Nat, k ≤ ml.length ∧ iv = .int .i64 k ∧ (∀ j, j < k → mAt ml j = none) ∧ Below w1.heap.size w1 wr) (fun _ _ i _ => ml.length - (intOf i).toNat)
  case atStart => exact ⟨0, Nat.zero_le _, rfl, fun j h => absurd h (Nat.not_lt_zero _), Below.refl _ _⟩
  case round =>
    obtain ⟨k, hk, rfl, hpre, HB⟩ := hrel
    have HPre := Lib.hid hpre
    clear hpre
    by_cases hlt : k < ml.length
    · obtain ⟨g, of, hA, d0, d1⟩ := FieldD.at (HX.out.below (below_step HB1.out HB) (Nat.le_refl _)) hlt
      have HE := Lib.hid (HS.out k hlt)
      have HNk := Lib.hid (HN.out _ (List.getElem_mem hlt))
      simp only at hA d0 d1
      subst hA
      clear HW0 HW1 HW2
      generalize ml[k] = y at *
      obtain ⟨yn, yw⟩ := y
      simp only at HE HNk d0 d1
      obtain ⟨gn, rfl, hg⟩ := OwnStrs.form HOwn.out (show 0 < (ml.map FieldD.name).length by rw [List.length_map]; omega)
      have HG := Lib.hid hg
      clear hg
      have hca := @World.cell?_alloc_some
      go_wp2_with fail
      refine (identifier_any yn _ HNk.out).mono ?_
      rintro e w' ⟨rfl, rfl⟩
      cases h1 : ident yn
      · have HE2 := Lib.hid (mAt_some (HE.out.trans (if_pos h1)))
        have HR2 := Lib.hid (HR.out.trans (show _ = some (⟨6, 2, k, 0⟩ : DiagD) by rw [firstE_some hlt HPre.out HE2.out]))
        go_wp2_with fail
        refine (when_true _ _ _ rfl).mono ?_
        rintro e w' ⟨rfl, rfl⟩
        go_wp2_with fail
        refine (require_bad 6 2 k 0 _ rfl).mono ?_
        rintro e w' ⟨rfl, rfl⟩
        go_wp2
        exact ⟨rfl, by rw [HR2.out]; rfl, below_step HW.out (below_step HB1.out (by first | exact HB | exact below_alloc HB _ | exact below_alloc (below_alloc HB _) _ | exact below_alloc (below_alloc (below_alloc HB _) _) _))⟩
      have HF1 := Lib.hid (HE.out.trans (if_neg (by rw [h1]; simp)))
      clear h1 HE
      go_wp2_with fail
      refine (when_false _ _ _ rfl).mono ?_
      rintro e w' ⟨rfl, rfl⟩
      go_wp2_with fail
      refine (require_ok _ _ _ _).mono ?_
      rintro e w' ⟨rfl, rfl⟩
      go_wp2_with fail
      refine (widthInvalid_any _ _).mono ?_
      rintro e w' ⟨rfl, rfl⟩
      cases h2 : okW yw
      · have HE2 := Lib.hid (mAt_some (HF1.out.trans (if_pos h2)))
        have HR2 := Lib.hid (HR.out.trans (show _ = some (⟨10, 2, k, 0⟩ : DiagD) by rw [firstE_some hlt HPre.out HE2.out]))
        have h3 := okW_not.1 h2
        go_wp2_with fail
        refine (when_true _ _ _ (by simp; omega)).mono ?_
        rintro e w' ⟨rfl, rfl⟩
        go_wp2_with fail
        refine (require_bad 10 2 k 0 _ rfl).mono ?_
        rintro e w' ⟨rfl, rfl⟩
        go_wp2
        exact ⟨rfl, by rw [HR2.out]; rfl, below_step HW.out (below_step HB1.out (by first | exact HB | exact below_alloc HB _ | exact below_alloc (below_alloc HB _) _ | exact below_alloc (below_alloc (below_alloc HB _) _) _))⟩
      have HF2 := Lib.hid (HF1.out.trans (if_neg (by rw [h2]; simp)))
      have h3 := okW_iff.1 h2
      clear HF1
      go_wp2_with fail
      refine (when_false _ _ _ (by simp; omega)).mono ?_
      rintro e w' ⟨rfl, rfl⟩
      go_wp2_with fail
      refine (require_ok _ _ _ _).mono ?_
      rintro e w' ⟨rfl, rfl⟩
      clear d0 d1 hca
      go_wp2_with fail
      refine (rep_at (ml.map FieldD.name) ml.length gn c k w1 _ (by simp) hlt (by omega) HG.out (by first | exact HB | exact below_alloc HB _ | exact below_alloc (below_alloc HB _) _ | exact below_alloc (below_alloc (below_alloc HB _) _) _)).mono ?_
      rintro e w3 ⟨rfl, hbN⟩
      replace HB := below_step (by first | exact HB | exact below_alloc HB _ | exact below_alloc (below_alloc HB _) _ | exact below_alloc (below_alloc (below_alloc HB _) _) _) hbN
      clear hbN
      cases hd : dupB (ml.map FieldD.name) k
      case true =>
        have HE2 := Lib.hid (mAt_some (HF2.out.trans (if_pos hd)))
        have HR2 := Lib.hid (HR.out.trans (show _ = some (⟨7, 2, k, 0⟩ : DiagD) by rw [firstE_some hlt HPre.out HE2.out]))
        go_wp2_with fail
        refine (when_true _ _ _ rfl).mono ?_
        rintro e w' ⟨rfl, rfl⟩
        go_wp2_with fail
        refine (require_bad 7 2 k 0 _ rfl).mono ?_
        rintro e w' ⟨rfl, rfl⟩
        go_wp2
        exact ⟨rfl, by rw [HR2.out]; rfl, below_step HW.out (below_step HB1.out HB)⟩
      have HE4 := Lib.hid (mAt_none (HF2.out.trans (if_neg (by rw [hd]; simp))))
      go_wp2_with fail
      refine (when_false _ _ _ rfl).mono ?_
      rintro e w' ⟨rfl, rfl⟩
      go_wp2_with fail
      refine (require_ok _ _ _ _).mono ?_
      rintro e w' ⟨rfl, rfl⟩
      go_wp2
      go_roundw
      case rel => exact ⟨k + 1, by omega, by go_num, firstE_step HPre.out HE4.out, HB⟩
      case measure => simp [intOf]; omega
    have e : k = ml.length := by omega
    have HR2 := Lib.hid (HR.out.trans (show _ = firstE 3 (wAt ml) by rw [firstE_none (by rw [← e]; exact HPre.out)]))
    have hkx : ¬ ((k : Int) < (ml.length : Int)) := by omega
    have HBb := Lib.hid (below_step HB1.out HB)
    clear HPre HB1 HOwn hlt e HB HR HS HN
    go_wp2
    go_loopw [5, 6, 47] (fun _ _ iv wr => ∃ k : Nat, k ≤ 3 ∧ iv = .int .i64 k ∧ (∀ j, j < k → wAt ml j = none) ∧ Below W.heap.size W wr) (fun _ _ i _ => 3 - (intOf i).toNat)
    case atStart => exact ⟨0, Nat.zero_le _, rfl, fun j h => absurd h (Nat.not_lt_zero _), HBb.out⟩
    case round =>
      clear hk hkx HBb
      obtain ⟨k, hk, rfl, hpre, HB⟩ := hrel
      have HPre := Lib.hid hpre
      clear hpre
      rcases (show k = 0 ∨ k = 1 ∨ k = 2 ∨ k = 3 by omega) with rfl | rfl | rfl | rfl
      case inr.inr.inr =>
        have HR3 := Lib.hid (HR2.out.trans (firstE_none HPre.out))
        go_wp2
        go_end0
        exact ⟨by rw [HR3.out]; rfl, below_step HW.out HB⟩
      case inl =>
        have hix := i95_0
        refine Exists.elim (box1 wr #[.string ⟨#[105, 110]⟩, .int .i64 8] 135) ?_
        rintro V ⟨hV, hv, hVV, hbx⟩
        have HBV := Lib.hid (below_step HB hv)
        have hp1 := hp V.drew (below_step HB hv).drew
        have b0 : V.drew.cell? ⟨wr.heap.size, 0, none⟩ = some (.string ⟨#[105, 110]⟩) := hbx V.drew hVV.drew 0 (show 0 < 2 by decide)
        have b1 : V.drew.cell? ⟨wr.heap.size, 1, none⟩ = some (.int .i64 8) := hbx V.drew hVV.drew 1 (show 1 < 2 by decide)
        by_cases hlt : 0 < ml.length
        case neg =>
          have HE2 := Lib.hid (wAt_some (want_out (l := ml) (i := 0) (by omega)))
          have HR3 := Lib.hid (HR2.out.trans (firstE_some (show 0 < 3 by decide) HPre.out HE2.out))
          have E1 : Hid ((ml.length : Int) ≤ 0) := Lib.hid (by omega)
          have E2 : Hid (ml.length ≤ 0) := Lib.hid (by omega)
          have E0 : Hid (ml = []) := Lib.hid (List.eq_nil_of_length_eq_zero (by omega))
          clear hlt
          clear hv hVV hbx HB
          go_wp2
          rw [← hV]
          clear hV hix
          refine wp_region_still_tail 16 mixed (by kernel_rfl) ?_
          simp only [List.take_succ_cons, List.take_zero, List.drop_succ_cons, List.drop_zero]
          change wpStill _ _ V.drew _ _ _
          iterate 6 still_step
          iterate 7 (refine wpStill_step (fun K hK => ?_); go_simp; (first | rw [if_pos E0.out] | rw [if_neg (show ¬ (0 : Int) < (ml.length : Int) by have := E2.out; omega)]); refine hK _ ?_; clear hK K)
          have e0 := E0.out
          have e1 := E1.out
          have e2 := E2.out
          still_step
          clear e0 e1 e2
          still_call (when_flip _ _ _)
          still_step
          refine wpStill_nil ?_
          change wpList _ _ _ _ _ V.drew
          go_wp2_with fail
          refine (require_bad 5 2 0 0 _ rfl).mono ?_
          rintro e w' ⟨rfl, rfl⟩
          go_wp2
          exact ⟨rfl, by rw [HR3.out]; rfl, below_step HW.out HBV.out.drew⟩
        obtain ⟨g, of, hA, d0, d1⟩ := FieldD.at (HX.out.below HBV.out.drew (Nat.le_refl _)) hlt
        have HE := Lib.hid (HW0.out hlt)
        have N2 : Hid (0 < ml.length) := Lib.hid hlt
        have N3 : Hid ((0 : Int) < (ml.length : Int)) := Lib.hid (by omega)
        have N0 : Hid (¬ ml = []) := Lib.hid (fun e => by rw [e] at hlt; exact absurd hlt (Nat.lt_irrefl _))
        simp only at hA
        simp only [Nat.zero_mul, Nat.add_zero] at d0 d1
        subst hA
        generalize ml[0]'hlt = y at *
        obtain ⟨yn, yw⟩ := y
        simp only at HE d0 d1
        clear HW0 HW1 HW2 hv hVV hbx HB hlt
        go_wp2
        rw [← hV]
        clear hV hix
        by_cases he : yn = (⟨#[105, 110]⟩ : ByteArray)
        · by_cases he2 : yw = 8
          · have HE2 := Lib.hid (wAt_none (HE.out.trans (by rw [decide_eq_true he, decide_eq_true he2]; rfl)))
            have he' := nm_in_yes he
            have he2' : (yw == 8) = true := beq_iff_eq.2 he2
            clear he he2
            refine wp_region_still_tail 16 mixed (by kernel_rfl) ?_
            simp only [List.take_succ_cons, List.take_zero, List.drop_succ_cons, List.drop_zero]
            change wpStill _ _ V.drew _ _ _
            iterate 6 still_step
            iterate 3 (refine wpStill_step (fun K hK => ?_); go_simp; (first | rw [if_neg N0.out] | rw [if_pos (show (0 : Int) < (ml.length : Int) by have := N2.out; omega)]); refine hK _ ?_; clear hK K)
            iterate 1 (refine wpStill_step (fun K hK => ?_); go_simp; (first | rw [if_neg N0.out] | rw [if_pos (show (0 : Int) < (ml.length : Int) by have := N2.out; omega)]); (first | rw [if_pos N2.out] | rw [if_pos N3.out]); go_simp; refine hK _ ?_; clear hK K)
            iterate 3 (refine wpStill_step (fun K hK => ?_); go_simp; (first | rw [if_neg N0.out] | rw [if_pos (show (0 : Int) < (ml.length : Int) by have := N2.out; omega)]); refine hK _ ?_; clear hK K)
            have n0 := N0.out
            have n2 := N2.out
            have n3 := N3.out
            have n4 : decide ((ml.length : Int) ≤ 0) = false := decide_eq_false (by have := N2.out; omega)
            still_step
            clear n0 n2 n3 n4
            still_call (when_flip _ _ _)
            still_step
            refine wpStill_nil ?_
            change wpList _ _ _ _ _ V.drew
            go_wp2_with fail
            refine (require_ok _ _ _ _).mono ?_
            rintro e w' ⟨rfl, rfl⟩
            go_wp2
            go_roundw
            case rel => exact ⟨1, by omega, by go_num, firstE_step HPre.out HE2.out, HBV.out.drew⟩
            case measure => simp [intOf]
          · have HE2 := Lib.hid (wAt_some (HE.out.trans (by rw [decide_eq_false he2]; simp)))
            have HR3 := Lib.hid (HR2.out.trans (firstE_some (show 0 < 3 by decide) HPre.out HE2.out))
            have he' := nm_in_yes he
            have he2' : (yw == 8) = false := beq_eq_false_iff_ne.2 he2
            clear he he2
            refine wp_region_still_tail 16 mixed (by kernel_rfl) ?_
            simp only [List.take_succ_cons, List.take_zero, List.drop_succ_cons, List.drop_zero]
            change wpStill _ _ V.drew _ _ _
            iterate 6 still_step
            iterate 3 (refine wpStill_step (fun K hK => ?_); go_simp; (first | rw [if_neg N0.out] | rw [if_pos (show (0 : Int) < (ml.length : Int) by have := N2.out; omega)]); refine hK _ ?_; clear hK K)
            iterate 1 (refine wpStill_step (fun K hK => ?_); go_simp; (first | rw [if_neg N0.out] | rw [if_pos (show (0 : Int) < (ml.length : Int) by have := N2.out; omega)]); (first | rw [if_pos N2.out] | rw [if_pos N3.out]); go_simp; refine hK _ ?_; clear hK K)
            iterate 3 (refine wpStill_step (fun K hK => ?_); go_simp; (first | rw [if_neg N0.out] | rw [if_pos (show (0 : Int) < (ml.length : Int) by have := N2.out; omega)]); refine hK _ ?_; clear hK K)
            have n0 := N0.out
            have n2 := N2.out
            have n3 := N3.out
            have n4 : decide ((ml.length : Int) ≤ 0) = false := decide_eq_false (by have := N2.out; omega)
            still_step
            clear n0 n2 n3 n4
            still_call (when_flip _ _ _)
            still_step
            refine wpStill_nil ?_
            change wpList _ _ _ _ _ V.drew
            go_wp2_with fail
            refine (require_bad 5 2 0 0 _ rfl).mono ?_
            rintro e w' ⟨rfl, rfl⟩
            go_wp2
            exact ⟨rfl, by rw [HR3.out]; rfl, below_step HW.out HBV.out.drew⟩
        · have HE2 := Lib.hid (wAt_some (HE.out.trans (by rw [decide_eq_false he]; simp)))
          have HR3 := Lib.hid (HR2.out.trans (firstE_some (show 0 < 3 by decide) HPre.out HE2.out))
          have he' := nm_in_no he
          clear he
          refine wp_region_still_tail 16 mixed (by kernel_rfl) ?_
          simp only [List.take_succ_cons, List.take_zero, List.drop_succ_cons, List.drop_zero]
          change wpStill _ _ V.drew _ _ _
          iterate 6 still_step
          iterate 3 (refine wpStill_step (fun K hK => ?_); go_simp; (first | rw [if_neg N0.out] | rw [if_pos (show (0 : Int) < (ml.length : Int) by have := N2.out; omega)]); refine hK _ ?_; clear hK K)
          iterate 1 (refine wpStill_step (fun K hK => ?_); go_simp; (first | rw [if_neg N0.out] | rw [if_pos (show (0 : Int) < (ml.length : Int) by have := N2.out; omega)]); (first | rw [if_pos N2.out] | rw [if_pos N3.out]); go_simp; refine hK _ ?_; clear hK K)
          iterate 3 (refine wpStill_step (fun K hK => ?_); go_simp; (first | rw [if_neg N0.out] | rw [if_pos (show (0 : Int) < (ml.length : Int) by have := N2.out; omega)]); refine hK _ ?_; clear hK K)
          have n0 := N0.out
          have n2 := N2.out
          have n3 := N3.out
          have n4 : decide ((ml.length : Int) ≤ 0) = false := decide_eq_false (by have := N2.out; omega)
          still_step
          clear n0 n2 n3 n4
          still_call (when_flip _ _ _)
          still_step
          refine wpStill_nil ?_
          change wpList _ _ _ _ _ V.drew
          go_wp2_with fail
          refine (require_bad 5 2 0 0 _ rfl).mono ?_
          rintro e w' ⟨rfl, rfl⟩
          go_wp2
          exact ⟨rfl, by rw [HR3.out]; rfl, below_step HW.out HBV.out.drew⟩
      case inr.inl =>
        have hix := i95_1
        refine Exists.elim (box1 wr #[.string ⟨#[111, 117, 116]⟩, .int .i64 8] 135) ?_
        rintro V ⟨hV, hv, hVV, hbx⟩
        have HBV := Lib.hid (below_step HB hv)
        have hp1 := hp V.drew (below_step HB hv).drew
        have b0 : V.drew.cell? ⟨wr.heap.size, 0, none⟩ = some (.string ⟨#[111, 117, 116]⟩) := hbx V.drew hVV.drew 0 (show 0 < 2 by decide)
        have b1 : V.drew.cell? ⟨wr.heap.size, 1, none⟩ = some (.int .i64 8) := hbx V.drew hVV.drew 1 (show 1 < 2 by decide)
        by_cases hlt : 1 < ml.length
        case neg =>
          have HE2 := Lib.hid (wAt_some (want_out (l := ml) (i := 1) (by omega)))
          have HR3 := Lib.hid (HR2.out.trans (firstE_some (show 1 < 3 by decide) HPre.out HE2.out))
          have E1 : Hid ((ml.length : Int) ≤ 1) := Lib.hid (by omega)
          have E2 : Hid (ml.length ≤ 1) := Lib.hid (by omega)
          have E0 : Hid (ml.length ≤ 1) := E2
          clear hlt
          clear hv hVV hbx HB
          go_wp2
          rw [← hV]
          clear hV hix
          refine wp_region_still_tail 16 mixed (by kernel_rfl) ?_
          simp only [List.take_succ_cons, List.take_zero, List.drop_succ_cons, List.drop_zero]
          change wpStill _ _ V.drew _ _ _
          iterate 6 still_step
          iterate 7 (refine wpStill_step (fun K hK => ?_); go_simp; (first | rw [if_pos E0.out] | rw [if_neg (show ¬ (1 : Int) < (ml.length : Int) by have := E2.out; omega)]); refine hK _ ?_; clear hK K)
          have e0 := E0.out
          have e1 := E1.out
          have e2 := E2.out
          still_step
          clear e0 e1 e2
          still_call (when_flip _ _ _)
          still_step
          refine wpStill_nil ?_
          change wpList _ _ _ _ _ V.drew
          go_wp2_with fail
          refine (require_bad 5 2 1 0 _ rfl).mono ?_
          rintro e w' ⟨rfl, rfl⟩
          go_wp2
          exact ⟨rfl, by rw [HR3.out]; rfl, below_step HW.out HBV.out.drew⟩
        obtain ⟨g, of, hA, d0, d1⟩ := FieldD.at (HX.out.below HBV.out.drew (Nat.le_refl _)) hlt
        have HE := Lib.hid (HW1.out hlt)
        have N2 : Hid (1 < ml.length) := Lib.hid hlt
        have N3 : Hid ((1 : Int) < (ml.length : Int)) := Lib.hid (by omega)
        have N0 : Hid (¬ ml.length ≤ 1) := Lib.hid (by omega)
        simp only at hA
        simp only [Nat.one_mul] at d0 d1
        subst hA
        generalize ml[1]'hlt = y at *
        obtain ⟨yn, yw⟩ := y
        simp only at HE d0 d1
        clear HW0 HW1 HW2 hv hVV hbx HB hlt
        go_wp2
        rw [← hV]
        clear hV hix
        by_cases he : yn = (⟨#[111, 117, 116]⟩ : ByteArray)
        · by_cases he2 : yw = 8
          · have HE2 := Lib.hid (wAt_none (HE.out.trans (by rw [decide_eq_true he, decide_eq_true he2]; rfl)))
            have he' := nm_out_yes he
            have he2' : (yw == 8) = true := beq_iff_eq.2 he2
            clear he he2
            refine wp_region_still_tail 16 mixed (by kernel_rfl) ?_
            simp only [List.take_succ_cons, List.take_zero, List.drop_succ_cons, List.drop_zero]
            change wpStill _ _ V.drew _ _ _
            iterate 6 still_step
            iterate 3 (refine wpStill_step (fun K hK => ?_); go_simp; (first | rw [if_neg N0.out] | rw [if_pos (show (1 : Int) < (ml.length : Int) by have := N2.out; omega)]); refine hK _ ?_; clear hK K)
            iterate 1 (refine wpStill_step (fun K hK => ?_); go_simp; (first | rw [if_neg N0.out] | rw [if_pos (show (1 : Int) < (ml.length : Int) by have := N2.out; omega)]); (first | rw [if_pos N2.out] | rw [if_pos N3.out]); go_simp; refine hK _ ?_; clear hK K)
            iterate 3 (refine wpStill_step (fun K hK => ?_); go_simp; (first | rw [if_neg N0.out] | rw [if_pos (show (1 : Int) < (ml.length : Int) by have := N2.out; omega)]); refine hK _ ?_; clear hK K)
            have n0 := N0.out
            have n2 := N2.out
            have n3 := N3.out
            have n4 : decide ((ml.length : Int) ≤ 1) = false := decide_eq_false (by have := N2.out; omega)
            still_step
            clear n0 n2 n3 n4
            still_call (when_flip _ _ _)
            still_step
            refine wpStill_nil ?_
            change wpList _ _ _ _ _ V.drew
            go_wp2_with fail
            refine (require_ok _ _ _ _).mono ?_
            rintro e w' ⟨rfl, rfl⟩
            go_wp2
            go_roundw
            case rel => exact ⟨2, by omega, by go_num, firstE_step HPre.out HE2.out, HBV.out.drew⟩
            case measure => simp [intOf]
          · have HE2 := Lib.hid (wAt_some (HE.out.trans (by rw [decide_eq_false he2]; simp)))
            have HR3 := Lib.hid (HR2.out.trans (firstE_some (show 1 < 3 by decide) HPre.out HE2.out))
            have he' := nm_out_yes he
            have he2' : (yw == 8) = false := beq_eq_false_iff_ne.2 he2
            clear he he2
            refine wp_region_still_tail 16 mixed (by kernel_rfl) ?_
            simp only [List.take_succ_cons, List.take_zero, List.drop_succ_cons, List.drop_zero]
            change wpStill _ _ V.drew _ _ _
            iterate 6 still_step
            iterate 3 (refine wpStill_step (fun K hK => ?_); go_simp; (first | rw [if_neg N0.out] | rw [if_pos (show (1 : Int) < (ml.length : Int) by have := N2.out; omega)]); refine hK _ ?_; clear hK K)
            iterate 1 (refine wpStill_step (fun K hK => ?_); go_simp; (first | rw [if_neg N0.out] | rw [if_pos (show (1 : Int) < (ml.length : Int) by have := N2.out; omega)]); (first | rw [if_pos N2.out] | rw [if_pos N3.out]); go_simp; refine hK _ ?_; clear hK K)
            iterate 3 (refine wpStill_step (fun K hK => ?_); go_simp; (first | rw [if_neg N0.out] | rw [if_pos (show (1 : Int) < (ml.length : Int) by have := N2.out; omega)]); refine hK _ ?_; clear hK K)
            have n0 := N0.out
            have n2 := N2.out
            have n3 := N3.out
            have n4 : decide ((ml.length : Int) ≤ 1) = false := decide_eq_false (by have := N2.out; omega)
            still_step
            clear n0 n2 n3 n4
            still_call (when_flip _ _ _)
            still_step
            refine wpStill_nil ?_
            change wpList _ _ _ _ _ V.drew
            go_wp2_with fail
            refine (require_bad 5 2 1 0 _ rfl).mono ?_
            rintro e w' ⟨rfl, rfl⟩
            go_wp2
            exact ⟨rfl, by rw [HR3.out]; rfl, below_step HW.out HBV.out.drew⟩
        · have HE2 := Lib.hid (wAt_some (HE.out.trans (by rw [decide_eq_false he]; simp)))
          have HR3 := Lib.hid (HR2.out.trans (firstE_some (show 1 < 3 by decide) HPre.out HE2.out))
          have he' := nm_out_no he
          clear he
          refine wp_region_still_tail 16 mixed (by kernel_rfl) ?_
          simp only [List.take_succ_cons, List.take_zero, List.drop_succ_cons, List.drop_zero]
          change wpStill _ _ V.drew _ _ _
          iterate 6 still_step
          iterate 3 (refine wpStill_step (fun K hK => ?_); go_simp; (first | rw [if_neg N0.out] | rw [if_pos (show (1 : Int) < (ml.length : Int) by have := N2.out; omega)]); refine hK _ ?_; clear hK K)
          iterate 1 (refine wpStill_step (fun K hK => ?_); go_simp; (first | rw [if_neg N0.out] | rw [if_pos (show (1 : Int) < (ml.length : Int) by have := N2.out; omega)]); (first | rw [if_pos N2.out] | rw [if_pos N3.out]); go_simp; refine hK _ ?_; clear hK K)
          iterate 3 (refine wpStill_step (fun K hK => ?_); go_simp; (first | rw [if_neg N0.out] | rw [if_pos (show (1 : Int) < (ml.length : Int) by have := N2.out; omega)]); refine hK _ ?_; clear hK K)
          have n0 := N0.out
          have n2 := N2.out
          have n3 := N3.out
          have n4 : decide ((ml.length : Int) ≤ 1) = false := decide_eq_false (by have := N2.out; omega)
          still_step
          clear n0 n2 n3 n4
          still_call (when_flip _ _ _)
          still_step
          refine wpStill_nil ?_
          change wpList _ _ _ _ _ V.drew
          go_wp2_with fail
          refine (require_bad 5 2 1 0 _ rfl).mono ?_
          rintro e w' ⟨rfl, rfl⟩
          go_wp2
          exact ⟨rfl, by rw [HR3.out]; rfl, below_step HW.out HBV.out.drew⟩
      case inr.inr.inl =>
        have hix := i95_2
        refine Exists.elim (box1 wr #[.string ⟨#[100, 114, 111, 112]⟩, .int .i64 1] 135) ?_
        rintro V ⟨hV, hv, hVV, hbx⟩
        have HBV := Lib.hid (below_step HB hv)
        have hp1 := hp V.drew (below_step HB hv).drew
        have b0 : V.drew.cell? ⟨wr.heap.size, 0, none⟩ = some (.string ⟨#[100, 114, 111, 112]⟩) := hbx V.drew hVV.drew 0 (show 0 < 2 by decide)
        have b1 : V.drew.cell? ⟨wr.heap.size, 1, none⟩ = some (.int .i64 1) := hbx V.drew hVV.drew 1 (show 1 < 2 by decide)
        by_cases hlt : 2 < ml.length
        case neg =>
          have HE2 := Lib.hid (wAt_some (want_out (l := ml) (i := 2) (by omega)))
          have HR3 := Lib.hid (HR2.out.trans (firstE_some (show 2 < 3 by decide) HPre.out HE2.out))
          have E1 : Hid ((ml.length : Int) ≤ 2) := Lib.hid (by omega)
          have E2 : Hid (ml.length ≤ 2) := Lib.hid (by omega)
          have E0 : Hid (ml.length ≤ 2) := E2
          clear hlt
          clear hv hVV hbx HB
          go_wp2
          rw [← hV]
          clear hV hix
          refine wp_region_still_tail 16 mixed (by kernel_rfl) ?_
          simp only [List.take_succ_cons, List.take_zero, List.drop_succ_cons, List.drop_zero]
          change wpStill _ _ V.drew _ _ _
          iterate 6 still_step
          iterate 7 (refine wpStill_step (fun K hK => ?_); go_simp; (first | rw [if_pos E0.out] | rw [if_neg (show ¬ (2 : Int) < (ml.length : Int) by have := E2.out; omega)]); refine hK _ ?_; clear hK K)
          have e0 := E0.out
          have e1 := E1.out
          have e2 := E2.out
          still_step
          clear e0 e1 e2
          still_call (when_flip _ _ _)
          still_step
          refine wpStill_nil ?_
          change wpList _ _ _ _ _ V.drew
          go_wp2_with fail
          refine (require_bad 5 2 2 0 _ rfl).mono ?_
          rintro e w' ⟨rfl, rfl⟩
          go_wp2
          exact ⟨rfl, by rw [HR3.out]; rfl, below_step HW.out HBV.out.drew⟩
        obtain ⟨g, of, hA, d0, d1⟩ := FieldD.at (HX.out.below HBV.out.drew (Nat.le_refl _)) hlt
        have HE := Lib.hid (HW2.out hlt)
        have N2 : Hid (2 < ml.length) := Lib.hid hlt
        have N3 : Hid ((2 : Int) < (ml.length : Int)) := Lib.hid (by omega)
        have N0 : Hid (¬ ml.length ≤ 2) := Lib.hid (by omega)
        simp only at hA
        simp only [Nat.reduceMul] at d0 d1
        subst hA
        generalize ml[2]'hlt = y at *
        obtain ⟨yn, yw⟩ := y
        simp only at HE d0 d1
        clear HW0 HW1 HW2 hv hVV hbx HB hlt
        go_wp2
        rw [← hV]
        clear hV hix
        by_cases he : yn = (⟨#[100, 114, 111, 112]⟩ : ByteArray)
        · by_cases he2 : yw = 1
          · have HE2 := Lib.hid (wAt_none (HE.out.trans (by rw [decide_eq_true he, decide_eq_true he2]; rfl)))
            have he' := nm_drop_yes he
            have he2' : (yw == 1) = true := beq_iff_eq.2 he2
            clear he he2
            refine wp_region_still_tail 16 mixed (by kernel_rfl) ?_
            simp only [List.take_succ_cons, List.take_zero, List.drop_succ_cons, List.drop_zero]
            change wpStill _ _ V.drew _ _ _
            iterate 6 still_step
            iterate 3 (refine wpStill_step (fun K hK => ?_); go_simp; (first | rw [if_neg N0.out] | rw [if_pos (show (2 : Int) < (ml.length : Int) by have := N2.out; omega)]); refine hK _ ?_; clear hK K)
            iterate 1 (refine wpStill_step (fun K hK => ?_); go_simp; (first | rw [if_neg N0.out] | rw [if_pos (show (2 : Int) < (ml.length : Int) by have := N2.out; omega)]); (first | rw [if_pos N2.out] | rw [if_pos N3.out]); go_simp; refine hK _ ?_; clear hK K)
            iterate 3 (refine wpStill_step (fun K hK => ?_); go_simp; (first | rw [if_neg N0.out] | rw [if_pos (show (2 : Int) < (ml.length : Int) by have := N2.out; omega)]); refine hK _ ?_; clear hK K)
            have n0 := N0.out
            have n2 := N2.out
            have n3 := N3.out
            have n4 : decide ((ml.length : Int) ≤ 2) = false := decide_eq_false (by have := N2.out; omega)
            still_step
            clear n0 n2 n3 n4
            still_call (when_flip _ _ _)
            still_step
            refine wpStill_nil ?_
            change wpList _ _ _ _ _ V.drew
            go_wp2_with fail
            refine (require_ok _ _ _ _).mono ?_
            rintro e w' ⟨rfl, rfl⟩
            go_wp2
            go_roundw
            case rel => exact ⟨3, by omega, by go_num, firstE_step HPre.out HE2.out, HBV.out.drew⟩
            case measure => simp [intOf]
          · have HE2 := Lib.hid (wAt_some (HE.out.trans (by rw [decide_eq_false he2]; simp)))
            have HR3 := Lib.hid (HR2.out.trans (firstE_some (show 2 < 3 by decide) HPre.out HE2.out))
            have he' := nm_drop_yes he
            have he2' : (yw == 1) = false := beq_eq_false_iff_ne.2 he2
            clear he he2
            refine wp_region_still_tail 16 mixed (by kernel_rfl) ?_
            simp only [List.take_succ_cons, List.take_zero, List.drop_succ_cons, List.drop_zero]
            change wpStill _ _ V.drew _ _ _
            iterate 6 still_step
            iterate 3 (refine wpStill_step (fun K hK => ?_); go_simp; (first | rw [if_neg N0.out] | rw [if_pos (show (2 : Int) < (ml.length : Int) by have := N2.out; omega)]); refine hK _ ?_; clear hK K)
            iterate 1 (refine wpStill_step (fun K hK => ?_); go_simp; (first | rw [if_neg N0.out] | rw [if_pos (show (2 : Int) < (ml.length : Int) by have := N2.out; omega)]); (first | rw [if_pos N2.out] | rw [if_pos N3.out]); go_simp; refine hK _ ?_; clear hK K)
            iterate 3 (refine wpStill_step (fun K hK => ?_); go_simp; (first | rw [if_neg N0.out] | rw [if_pos (show (2 : Int) < (ml.length : Int) by have := N2.out; omega)]); refine hK _ ?_; clear hK K)
            have n0 := N0.out
            have n2 := N2.out
            have n3 := N3.out
            have n4 : decide ((ml.length : Int) ≤ 2) = false := decide_eq_false (by have := N2.out; omega)
            still_step
            clear n0 n2 n3 n4
            still_call (when_flip _ _ _)
            still_step
            refine wpStill_nil ?_
            change wpList _ _ _ _ _ V.drew
            go_wp2_with fail
            refine (require_bad 5 2 2 0 _ rfl).mono ?_
            rintro e w' ⟨rfl, rfl⟩
            go_wp2
            exact ⟨rfl, by rw [HR3.out]; rfl, below_step HW.out HBV.out.drew⟩
        · have HE2 := Lib.hid (wAt_some (HE.out.trans (by rw [decide_eq_false he]; simp)))
          have HR3 := Lib.hid (HR2.out.trans (firstE_some (show 2 < 3 by decide) HPre.out HE2.out))
          have he' := nm_drop_no he
          clear he
          refine wp_region_still_tail 16 mixed (by kernel_rfl) ?_
          simp only [List.take_succ_cons, List.take_zero, List.drop_succ_cons, List.drop_zero]
          change wpStill _ _ V.drew _ _ _
          iterate 6 still_step
          iterate 3 (refine wpStill_step (fun K hK => ?_); go_simp; (first | rw [if_neg N0.out] | rw [if_pos (show (2 : Int) < (ml.length : Int) by have := N2.out; omega)]); refine hK _ ?_; clear hK K)
          iterate 1 (refine wpStill_step (fun K hK => ?_); go_simp; (first | rw [if_neg N0.out] | rw [if_pos (show (2 : Int) < (ml.length : Int) by have := N2.out; omega)]); (first | rw [if_pos N2.out] | rw [if_pos N3.out]); go_simp; refine hK _ ?_; clear hK K)
          iterate 3 (refine wpStill_step (fun K hK => ?_); go_simp; (first | rw [if_neg N0.out] | rw [if_pos (show (2 : Int) < (ml.length : Int) by have := N2.out; omega)]); refine hK _ ?_; clear hK K)
          have n0 := N0.out
          have n2 := N2.out
          have n3 := N3.out
          have n4 : decide ((ml.length : Int) ≤ 2) = false := decide_eq_false (by have := N2.out; omega)
          still_step
          clear n0 n2 n3 n4
          still_call (when_flip _ _ _)
          still_step
          refine wpStill_nil ?_
          change wpList _ _ _ _ _ V.drew
          go_wp2_with fail
          refine (require_bad 5 2 2 0 _ rfl).mono ?_
          rintro e w' ⟨rfl, rfl⟩
          go_wp2
          exact ⟨rfl, by rw [HR3.out]; rfl, below_step HW.out HBV.out.drew⟩
end Go.Proofs.YtbfjknidinkafaaGreat
namespace Go.Proofs.YtbfjknidinkafaaGreat
open Go.RowKit

/-- the deferred function of program.Check where nothing panics -/
theorem catch_none (v : Value) (w : World) :
    CallsD Tryz.prog 83 #[v] .returning w fun e u' w' => e = .returned (.tuple #[]) ∧ u' = .returning ∧ w' = w := by
  refine callsD_of_wpS Tryz.func83 rfl fun c₀ cs hu => ?_
  apply wpS_seq
  apply wpS_region
  simp [wpOpsS, go_sem, recoverD, hu, Tryz.ntmps83, Exit.thenS]
  apply wpS_seq
  apply wpS_seq
  apply wpS_region
  simp [wpOpsS, go_sem, Exit.thenS]
  refine wpS_cond (t := true) (by simp [Act.eval]) ?_
  simp only [if_true]
  refine wpS_of_wp (wp_ret ?_)
  cases c₀
  simp_all [Exit.thenS, bodyPostS, results, Tryz.results83]

theorem fail_is (c pt it sb : Int) (w : World) : (Instr.typeAssert (.iface 137 (.agg #[.int .i64 c, .int .i64 pt, .int .i64 it, .int .i64 sb])) 20 137 true).run Tryz.prog w = .ok (.tuple #[.agg #[.int .i64 c, .int .i64 pt, .int .i64 it, .int .i64 sb], .bool true]) w := by kernel_rfl
set_option maxRecDepth 100000 in
set_option maxHeartbeats 1000000 in
theorem catch_some (c pt it sb : Int) (g : Nat) (t : TypeId) (x0 x1 x2 x3 : Int) (w : World) (hb : Blk w g t #[.int .i64 x0, .int .i64 x1, .int .i64 x2, .int .i64 x3]) :
    CallsD Tryz.prog 83 #[.pointer (some ⟨g, 0, none⟩)] (.panicking ({ v := .iface 137 (.agg #[.int .i64 c, .int .i64 pt, .int .i64 it, .int .i64 sb]), recovered := false } :: [])) w fun e u' w' =>
      e = .returned (.tuple #[]) ∧ u' = .panicking ({ v := .iface 137 (.agg #[.int .i64 c, .int .i64 pt, .int .i64 it, .int .i64 sb]), recovered := true } :: []) ∧ w' = ((((w.setCell ⟨g, 0, none⟩ (.int .i64 c)).setCell ⟨g, 1, none⟩ (.int .i64 pt)).setCell ⟨g, 2, none⟩ (.int .i64 it)).setCell ⟨g, 3, none⟩ (.int .i64 sb)).alloc (.cells #[.int .i64 c, .int .i64 pt, .int .i64 it, .int .i64 sb] 137) := by
  have h0 : w.cell? ⟨g, 0, none⟩ = some (.int .i64 x0) := hb.cell 0
  have h1 : w.cell? ⟨g, 1, none⟩ = some (.int .i64 x1) := hb.cell 1
  have h2 : w.cell? ⟨g, 2, none⟩ = some (.int .i64 x2) := hb.cell 2
  have h3 : w.cell? ⟨g, 3, none⟩ = some (.int .i64 x3) := hb.cell 3
  have f0 : w.frozen? ⟨g, 0, none⟩ = false := hb.frozen 0
  have f1 : w.frozen? ⟨g, 1, none⟩ = false := hb.frozen 1
  have f2 : w.frozen? ⟨g, 2, none⟩ = false := hb.frozen 2
  have f3 : w.frozen? ⟨g, 3, none⟩ = false := hb.frozen 3
  have hl := hb.lt
  have hta := fail_is
  have hca := @World.cell?_alloc_some
  have hfl := @World.frozen?_alloc_old
  refine callsD_of_wpS Tryz.func83 rfl fun c₀ cs hu => ?_
  apply wpS_seq
  apply wpS_region
  simp [wpOpsS, go_sem, recoverD, hu, Tryz.ntmps83, Exit.thenS]
  refine wpS_of_wp ?_
  change Code.wp _ _ _ (⟨#[.pointer (some ⟨g, 0, none⟩), .iface 137 (.agg #[.int .i64 c, .int .i64 pt, .int .i64 it, .int .i64 sb]), undef, undef, .iface 137 (.agg #[.int .i64 c, .int .i64 pt, .int .i64 it, .int .i64 sb]), undef, undef, undef, undef, undef, undef, undef, undef, undef, undef, undef], []⟩ : Act) w
  go_wp2
  clear h0 h1 h2 h3 f0 f1 f2 f3 hl hta hca hfl hb
  cases c₀
  simp_all [bodyPostS, results, Tryz.results83]

theorem diag_val (d : DiagD) : d.val = .agg #[.int .i64 d.code, .int .i64 d.part, .int .i64 d.item, .int .i64 d.sub] := rfl
/-- what program.Check answers -/
def diagM (p : ProgD) : DiagD := (checkM p).getD noDiag
theorem checkM_eq (p : ProgD) : checkM p = orE (limM p) (orE (hdrsM p) (orE (metaM p) (orE (objsM p) (flowM p)))) := by
  unfold checkM objsM
  cases limM p <;> cases hdrsM p <;> cases metaM p <;> cases regsM p <;> cases actsM p <;> cases tabsM p <;> rfl

/-- how Check's frame ends where nothing panicked, or where one of the checks did -/
theorem check_leaves (g : Nat) (w0 w : World) (tmps : Array Value) (o : Option DiagD) (m : FrameMode) (hg : w0.heap.size ≤ g) (hb : Below w0.heap.size w0 w) (hB : Blk w g 44 #[.int .i64 0, .int .i64 0, .int .i64 0, .int .i64 0])
    (ht : (tmps[2]?).getD undef = .pointer (some ⟨g, 0, none⟩)) (hm : (o = none ∧ m = .returning) ∨ ∃ d, o = some d ∧ m = .panicking [{ v := .iface 137 d.val, recovered := false }]) :
    Leaves Tryz.prog Tryz.f37 tmps (fun e w' => e = .returned (o.getD noDiag).val ∧ Below w0.heap.size w0 w') [{ target := .fn (.func 83) #[.pointer (some ⟨g, 0, none⟩)], args := #[] }] m w := by
  rcases hm with ⟨rfl, rfl⟩ | ⟨d, rfl, rfl⟩
  · have h0 : w.cell? ⟨g, 0, none⟩ = some (.int .i64 0) := hB.cell 0
    have h1 : w.cell? ⟨g, 1, none⟩ = some (.int .i64 0) := hB.cell 1
    have h2 : w.cell? ⟨g, 2, none⟩ = some (.int .i64 0) := hB.cell 2
    have h3 : w.cell? ⟨g, 3, none⟩ = some (.int .i64 0) := hB.cell 3
    refine leaves_cons (f := 83) (args := #[.pointer (some ⟨g, 0, none⟩)]) (by simp) (by simp [go_sem]) ?_
    refine (catch_none _ _).mono ?_
    rintro e u' w'' ⟨rfl, rfl, rfl⟩
    simp [Leaves, settle, results, Tryz.results37, go_sem, ht, h0, h1, h2, h3, noDiag, DiagD.val]
    exact hb
  · obtain ⟨dc, dp, di, ds⟩ := d
    refine leaves_cons (f := 83) (args := #[.pointer (some ⟨g, 0, none⟩)]) (by simp) (by simp [go_sem]) ?_
    refine (catch_some dc dp di ds g _ 0 0 0 0 w hB).mono ?_
    rintro e u' w'' ⟨rfl, rfl, rfl⟩
    have hB' := (((((hB.set_ 0 (.int .i64 dc)).set_ 1 (.int .i64 dp)).set_ 2 (.int .i64 di)).set_ 3 (.int .i64 ds)).alloc (.cells #[.int .i64 dc, .int .i64 dp, .int .i64 di, .int .i64 ds] 137))
    have e0 : Below w0.heap.size w0 (w.setCell ⟨g, 0, none⟩ (.int .i64 dc)) := hb.setCell hg _
    have e1 : Below w0.heap.size w0 ((w.setCell ⟨g, 0, none⟩ (.int .i64 dc)).setCell ⟨g, 1, none⟩ (.int .i64 dp)) := e0.setCell hg _
    have e2 : Below w0.heap.size w0 (((w.setCell ⟨g, 0, none⟩ (.int .i64 dc)).setCell ⟨g, 1, none⟩ (.int .i64 dp)).setCell ⟨g, 2, none⟩ (.int .i64 di)) := e1.setCell hg _
    have e3 : Below w0.heap.size w0 ((((w.setCell ⟨g, 0, none⟩ (.int .i64 dc)).setCell ⟨g, 1, none⟩ (.int .i64 dp)).setCell ⟨g, 2, none⟩ (.int .i64 di)).setCell ⟨g, 3, none⟩ (.int .i64 ds)) := e2.setCell hg _
    have hb' := below_alloc e3 (.cells #[.int .i64 dc, .int .i64 dp, .int .i64 di, .int .i64 ds] 137)
    generalize ((((w.setCell ⟨g, 0, none⟩ (.int .i64 dc)).setCell ⟨g, 1, none⟩ (.int .i64 dp)).setCell ⟨g, 2, none⟩ (.int .i64 di)).setCell ⟨g, 3, none⟩ (.int .i64 ds)).alloc (.cells #[.int .i64 dc, .int .i64 dp, .int .i64 di, .int .i64 ds] 137) = w9 at *
    have h0 : w9.cell? ⟨g, 0, none⟩ = some (.int .i64 dc) := hB'.cell 0
    have h1 : w9.cell? ⟨g, 1, none⟩ = some (.int .i64 dp) := hB'.cell 1
    have h2 : w9.cell? ⟨g, 2, none⟩ = some (.int .i64 di) := hB'.cell 2
    have h3 : w9.cell? ⟨g, 3, none⟩ = some (.int .i64 ds) := hB'.cell 3
    simp [Leaves, settle, results, Tryz.results37, go_sem, ht, h0, h1, h2, h3, DiagD.val]
    exact hb'

theorem lim_bounds {p : ProgD} (h : limM p = none) : p.headers.l.length ≤ 8 ∧ p.registers.l.length ≤ 4 ∧ p.actions.l.length ≤ 16 ∧ p.tables.l.length ≤ 12 := by
  unfold limM at h
  split at h
  · cases h
  split at h
  · cases h
  split at h
  · cases h
  split at h
  · cases h
  split at h
  · cases h
  exact ⟨by omega, by omega, by omega, by omega⟩
set_option maxRecDepth 100000 in
set_option maxHeartbeats 4000000 in
theorem check_any (p : ProgD) (w : World) (o : ProgOk w p) (hc : ProgCap p) (hN : (presM p.control.l).length ≤ 90000) :
    Calls Tryz.prog 37 #[.agg (progCells p)] w fun e w' => e = .returned (diagM p).val ∧ Below w.heap.size w w' := by
  have hmf : ∀ (fn : Fn) (first cap : Array Value) (w : World), (Instr.makeFunc fn first cap).run Tryz.prog w = .ok (.func fn first cap) w := fun _ _ _ _ => rfl
  have HO := Lib.hid o
  have HC := Lib.hid hc
  have HN := Lib.hid hN
  have HR := Lib.hid (checkM_eq p)
  obtain ⟨W, hW, hw, HB, hp⟩ := box2 w (progCells p) 31 #[.int .i64 0, .int .i64 0, .int .i64 0, .int .i64 0] 44
  have HW := Lib.hid hw
  have hbD : Blk W (w.heap.size + 1) 44 #[.int .i64 0, .int .i64 0, .int .i64 0, .int .i64 0] := by rw [hW]; exact (by simpa using Blk.new (w.alloc (.cells (progCells p) 31)) 44 #[.int .i64 0, .int .i64 0, .int .i64 0, .int .i64 0])
  have HD := Lib.hid hbD
  clear o hc hN hw hbD
  go_enter_defers Tryz.func37, Tryz.ntmps37
  go_upto_region 1 with fail
  rw [← hW]
  clear hW
  go_wp2_with fail
  refine (checkLimits_any p _ HO.out.name).mono ?_
  rintro e w1 ⟨rfl, hbN⟩
  replace HB := below_step (by first | exact HB | exact below_alloc HB _ | exact below_alloc (below_alloc HB _) _ | exact below_alloc (below_alloc (below_alloc HB _) _) _) hbN
  clear hbN
  rcases h1 : limM p with _ | d
  case some =>
    have HM : Hid (checkM p = some d) := Lib.hid (by rw [HR.out, h1]; rfl)
    simp only [outE]
    go_wp2
    rw [diagM, HM.out]
    exact check_leaves (w.heap.size + 1) w _ _ (some d) _ (Nat.le_succ _) (below_step HW.out HB) (HD.out.below HB HD.out.lt) rfl (.inr ⟨d, rfl, rfl⟩)
  replace HR := Lib.hid (HR.out.trans (or2 h1))
  have HLm := Lib.hid (lim_bounds h1)
  simp only [outE]
  go_wp2_with fail
  refine (checkHeaders_any p _ (HO.out.below (below_step HW.out (by first | exact HB | exact below_alloc HB _ | exact below_alloc (below_alloc HB _) _ | exact below_alloc (below_alloc (below_alloc HB _) _) _))) (by have := HLm.out.1; omega) HC.out.fields).mono ?_
  rintro e w2 ⟨rfl, hbN⟩
  replace HB := below_step (by first | exact HB | exact below_alloc HB _ | exact below_alloc (below_alloc HB _) _ | exact below_alloc (below_alloc (below_alloc HB _) _) _) hbN
  clear hbN
  rcases h2 : hdrsM p with _ | d
  case some =>
    have HM : Hid (checkM p = some d) := Lib.hid (by rw [HR.out, h2]; rfl)
    simp only [outE]
    go_wp2
    rw [diagM, HM.out]
    exact check_leaves (w.heap.size + 1) w _ _ (some d) _ (Nat.le_succ _) (below_step HW.out HB) (HD.out.below HB HD.out.lt) rfl (.inr ⟨d, rfl, rfl⟩)
  replace HR := Lib.hid (HR.out.trans (or2 h2))
  simp only [outE]
  go_wp2_with fail
  refine (checkMetadata_any p _ (HO.out.below (below_step HW.out (by first | exact HB | exact below_alloc HB _ | exact below_alloc (below_alloc HB _) _ | exact below_alloc (below_alloc (below_alloc HB _) _) _)))).mono ?_
  rintro e w3 ⟨rfl, hbN⟩
  replace HB := below_step (by first | exact HB | exact below_alloc HB _ | exact below_alloc (below_alloc HB _) _ | exact below_alloc (below_alloc (below_alloc HB _) _) _) hbN
  clear hbN
  rcases h3 : metaM p with _ | d
  case some =>
    have HM : Hid (checkM p = some d) := Lib.hid (by rw [HR.out, h3]; rfl)
    simp only [outE]
    go_wp2
    rw [diagM, HM.out]
    exact check_leaves (w.heap.size + 1) w _ _ (some d) _ (Nat.le_succ _) (below_step HW.out HB) (HD.out.below HB HD.out.lt) rfl (.inr ⟨d, rfl, rfl⟩)
  replace HR := Lib.hid (HR.out.trans (or2 h3))
  simp only [outE]
  go_wp2_with fail
  refine (checkObjects_any p _ (HO.out.below (below_step HW.out (by first | exact HB | exact below_alloc HB _ | exact below_alloc (below_alloc HB _) _ | exact below_alloc (below_alloc (below_alloc HB _) _) _))) (by have := HLm.out.2.1; omega) (by have := HLm.out.2.2.1; omega) (by have := HLm.out.2.2.2; omega) HC.out.params HC.out.dflt).mono ?_
  rintro e w4 ⟨rfl, hbN⟩
  replace HB := below_step (by first | exact HB | exact below_alloc HB _ | exact below_alloc (below_alloc HB _) _ | exact below_alloc (below_alloc (below_alloc HB _) _) _) hbN
  clear hbN
  rcases h4 : objsM p with _ | d
  case some =>
    have HM : Hid (checkM p = some d) := Lib.hid (by rw [HR.out, h4]; rfl)
    simp only [outE]
    go_wp2
    rw [diagM, HM.out]
    exact check_leaves (w.heap.size + 1) w _ _ (some d) _ (Nat.le_succ _) (below_step HW.out HB) (HD.out.below HB HD.out.lt) rfl (.inr ⟨d, rfl, rfl⟩)
  replace HR := Lib.hid (HR.out.trans (or2 h4))
  simp only [outE]
  go_wp2_with fail
  refine (checkFlow_any p _ (HO.out.below (below_step HW.out (by first | exact HB | exact below_alloc HB _ | exact below_alloc (below_alloc HB _) _ | exact below_alloc (below_alloc (below_alloc HB _) _) _))) HC.out HN.out).mono ?_
  rintro e w5 ⟨rfl, hbN⟩
  replace HB := below_step (by first | exact HB | exact below_alloc HB _ | exact below_alloc (below_alloc HB _) _ | exact below_alloc (below_alloc (below_alloc HB _) _) _) hbN
  clear hbN
  rcases h5 : flowM p with _ | d
  case some =>
    have HM : Hid (checkM p = some d) := Lib.hid (by rw [HR.out, h5])
    simp only [outE]
    go_wp2
    rw [diagM, HM.out]
    exact check_leaves (w.heap.size + 1) w _ _ (some d) _ (Nat.le_succ _) (below_step HW.out HB) (HD.out.below HB HD.out.lt) rfl (.inr ⟨d, rfl, rfl⟩)
  have HM : Hid (checkM p = none) := Lib.hid (by rw [HR.out, h5])
  simp only [outE]
  have hD := HD.out.below HB HD.out.lt
  have z0 : w5.cell? ⟨w.heap.size + 1, 0, none⟩ = some (.int .i64 0) := hD.cell 0
  have z1 : w5.cell? ⟨w.heap.size + 1, 1, none⟩ = some (.int .i64 0) := hD.cell 1
  have z2 : w5.cell? ⟨w.heap.size + 1, 2, none⟩ = some (.int .i64 0) := hD.cell 2
  have z3 : w5.cell? ⟨w.heap.size + 1, 3, none⟩ = some (.int .i64 0) := hD.cell 3
  have f0 : w5.frozen? ⟨w.heap.size + 1, 0, none⟩ = false := hD.frozen 0
  have f1 : w5.frozen? ⟨w.heap.size + 1, 1, none⟩ = false := hD.frozen 1
  have f2 : w5.frozen? ⟨w.heap.size + 1, 2, none⟩ = false := hD.frozen 2
  have f3 : w5.frozen? ⟨w.heap.size + 1, 3, none⟩ = false := hD.frozen 3
  have HBw := Lib.hid (below_step HW.out HB)
  have HD5 := Lib.hid hD
  clear hD hp HB
  go_wp2
  rw [diagM, HM.out]
  have e0 : Below w.heap.size w (w5.setCell ⟨w.heap.size + 1, 0, none⟩ (.int .i64 0)) := HBw.out.setCell (Nat.le_succ _) _
  have e1 : Below w.heap.size w ((w5.setCell ⟨w.heap.size + 1, 0, none⟩ (.int .i64 0)).setCell ⟨w.heap.size + 1, 1, none⟩ (.int .i64 0)) := e0.setCell (Nat.le_succ _) _
  have e2 : Below w.heap.size w (((w5.setCell ⟨w.heap.size + 1, 0, none⟩ (.int .i64 0)).setCell ⟨w.heap.size + 1, 1, none⟩ (.int .i64 0)).setCell ⟨w.heap.size + 1, 2, none⟩ (.int .i64 0)) := e1.setCell (Nat.le_succ _) _
  have e3 : Below w.heap.size w ((((w5.setCell ⟨w.heap.size + 1, 0, none⟩ (.int .i64 0)).setCell ⟨w.heap.size + 1, 1, none⟩ (.int .i64 0)).setCell ⟨w.heap.size + 1, 2, none⟩ (.int .i64 0)).setCell ⟨w.heap.size + 1, 3, none⟩ (.int .i64 0)) := e2.setCell (Nat.le_succ _) _
  exact check_leaves (w.heap.size + 1) w _ _ none _ (Nat.le_succ _) e3 ((((HD5.out.set_ 0 (.int .i64 0)).set_ 1 (.int .i64 0)).set_ 2 (.int .i64 0)).set_ 3 (.int .i64 0)) rfl (.inl ⟨rfl, rfl⟩)
end Go.Proofs.YtbfjknidinkafaaGreat
namespace Go.Proofs.YtbfjknidinkafaaGreat
open Go.RowKit

theorem co_ex {α : Type} {f : Nat → Option α} {r : α} : ∀ {n : Nat}, firstE n f = some r → ∃ i, i < n ∧ f i = some r ∧ ∀ j, j < i → f j = none
  | 0, h => by cases h
  | n + 1, h => by
    rw [firstE] at h
    rcases hf : firstE n f with _ | x
    · rw [hf] at h
      exact ⟨n, by omega, h, firstE_inv hf⟩
    · rw [hf] at h
      simp only [Option.some.injEq] at h
      subst h
      obtain ⟨i, h1, h2, h3⟩ := co_ex hf
      exact ⟨i, by omega, h2, h3⟩
theorem co_mAt (l : List FieldD) (i : Nat) (hi : i < l.length) {d : DiagD} (h : mAt l i = some d) : d.code ≠ 0 := by
  rcases h2 : fldM l i with _ | e
  · rw [mAt_none h2] at h; cases h
  · rw [mAt_some h2] at h
    have hn : e ≠ 0 := by
      rw [fldM_at l i hi] at h2
      split at h2
      · cases h2; decide
      · split at h2
        · cases h2; decide
        · split at h2
          · cases h2; decide
          · cases h2
    cases h
    exact hn
theorem co_flowEq (p : ProgD) : flowM p = if (parserM p).2.2 ≠ 0 then some ⟨(parserM p).2.2, 6, (parserM p).1, (parserM p).2.1⟩
  else if (ctlM p).2 ≠ 0 then some ⟨(ctlM p).2, 7, (ctlM p).1, 0⟩
  else if (depM p).2 ≠ 0 then some ⟨(depM p).2, 8, (depM p).1, 0⟩ else none := rfl
theorem co_first {f : Nat → Option DiagD} {n : Nat} (h : ∀ k d, k < n → f k = some d → d.code ≠ 0) : ∀ d, firstE n f = some d → d.code ≠ 0 := by
  intro d he
  obtain ⟨i, hi, h1, _⟩ := co_ex he
  exact h i d hi h1
theorem co_lim {p : ProgD} : ∀ d, limM p = some d → d.code ≠ 0 := by
  intro d h
  unfold limM at h
  split at h
  · cases h; first | decide | (show (6 : Int) ≠ 0; decide) | (show (7 : Int) ≠ 0; decide) | (show (5 : Int) ≠ 0; decide)
  split at h
  · cases h; first | decide | (show (6 : Int) ≠ 0; decide) | (show (7 : Int) ≠ 0; decide) | (show (5 : Int) ≠ 0; decide)
  split at h
  · cases h; first | decide | (show (6 : Int) ≠ 0; decide) | (show (7 : Int) ≠ 0; decide) | (show (5 : Int) ≠ 0; decide)
  split at h
  · cases h; first | decide | (show (6 : Int) ≠ 0; decide) | (show (7 : Int) ≠ 0; decide) | (show (5 : Int) ≠ 0; decide)
  split at h
  · cases h; first | decide | (show (6 : Int) ≠ 0; decide) | (show (7 : Int) ≠ 0; decide) | (show (5 : Int) ≠ 0; decide)
  cases h
theorem co_hdrs {p : ProgD} : ∀ d, hdrsM p = some d → d.code ≠ 0 := co_first fun k d hk h => by
  rw [hdrAtM_at _ k hk] at h
  split at h
  · cases h; assumption
  split at h
  · cases h; first | decide | (show (6 : Int) ≠ 0; decide) | (show (7 : Int) ≠ 0; decide) | (show (5 : Int) ≠ 0; decide)
  split at h
  · cases h; first | decide | (show (6 : Int) ≠ 0; decide) | (show (7 : Int) ≠ 0; decide) | (show (5 : Int) ≠ 0; decide)
  cases h
theorem co_meta {p : ProgD} : ∀ d, metaM p = some d → d.code ≠ 0 := by
  intro d h
  rw [metaM_eq] at h
  split at h
  · cases h; first | decide | (show (6 : Int) ≠ 0; decide) | (show (7 : Int) ≠ 0; decide) | (show (5 : Int) ≠ 0; decide)
  rcases hf : firstE p.metadata.l.length (mAt p.metadata.l) with _ | x
  · rw [hf] at h
    simp only at h
    refine co_first (f := wAt p.metadata.l) (n := 3) (fun k d hk h => ?_) d h
    unfold wAt at h
    split at h
    · cases h; first | decide | (show (6 : Int) ≠ 0; decide) | (show (7 : Int) ≠ 0; decide) | (show (5 : Int) ≠ 0; decide)
    · cases h
  · rw [hf] at h
    simp only [Option.some.injEq] at h
    subst h
    refine co_first (f := mAt p.metadata.l) (fun k d hk h => ?_) x hf
    exact co_mAt _ k hk h
theorem co_regs {p : ProgD} : ∀ d, regsM p = some d → d.code ≠ 0 := co_first fun k d hk h => by
  rw [regAtM_at _ k hk] at h
  split at h
  · cases h; assumption
  split at h
  · cases h; first | decide | (show (6 : Int) ≠ 0; decide) | (show (7 : Int) ≠ 0; decide) | (show (5 : Int) ≠ 0; decide)
  cases h
theorem co_acts {p : ProgD} : ∀ d, actsM p = some d → d.code ≠ 0 := co_first fun k d hk h => by
  rw [actAtM_at _ k hk] at h
  split at h
  · cases h; assumption
  split at h
  · cases h; first | decide | (show (6 : Int) ≠ 0; decide) | (show (7 : Int) ≠ 0; decide) | (show (5 : Int) ≠ 0; decide)
  cases h
theorem co_tabs {p : ProgD} : ∀ d, tabsM p = some d → d.code ≠ 0 := co_first fun k d hk h => by
  rw [tabAtM_at _ k hk] at h
  split at h
  · cases h; assumption
  split at h
  · cases h; first | decide | (show (6 : Int) ≠ 0; decide) | (show (7 : Int) ≠ 0; decide) | (show (5 : Int) ≠ 0; decide)
  cases h
theorem co_flow {p : ProgD} : ∀ d, flowM p = some d → d.code ≠ 0 := by
  intro d h
  rw [co_flowEq] at h
  split at h
  · cases h; assumption
  split at h
  · cases h; assumption
  split at h
  · cases h; assumption
  cases h
theorem co_slice {w : World} {B : Nat} {t : TypeId} {k : Nat} {v : Value} {n : Nat} {xs : List Value} (h : w.ownsRow B t k v n xs) : ∃ A c, v = .slice A n c := by
  rcases h.2 with ⟨hv, h0⟩ | ⟨g', cap, cur, hv, _, _, _⟩
  · exact ⟨none, 0, by rw [hv, h0]⟩
  · exact ⟨_, _, hv⟩
end Go.Proofs.YtbfjknidinkafaaGreat
