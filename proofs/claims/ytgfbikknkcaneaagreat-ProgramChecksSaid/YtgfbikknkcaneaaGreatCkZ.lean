/- The walk of package program's check of headers on any program, with its errors. No condition but that the program lies in memory, with at most a hundred headers. -/
import Derived.Test.YtgfbikknkcaneaaGreatCkY
namespace Go.Proofs.YtgfbikknkcaneaaGreat
open Go.RowKit

theorem rep_at (l : List ByteArray) (n g c i : Nat) (w0 w : World) (hn : l.length = n) (hi : i < n) (hm : n ≤ 1000)
    (hg : g < w0.heap.size ∧ l.length ≤ c ∧ ∀ j, j < l.length → w0.cell? ⟨g, 0 + j, none⟩ = some (.string (l.getD j ByteArray.empty))) (hb : Below w0.heap.size w0 w) :
    Calls Tryz.prog 113 #[.slice (some ⟨g, 0, none⟩) n c, .int .i64 i] w fun e w' => e = .returned (.bool (dupB l i)) ∧ Below w.heap.size w w' := by
  subst hn
  exact repeated_any l g c i w hi hm hg.2.1 (fun j hj => below_cell hb (hg.2.2 j hj))
theorem meta_list : metaName.toList = [109, 101, 116, 97] := by rw [toList_data]; rfl
theorem meta_true {s : ByteArray} (h : s = metaName) : (s.toList == [109, 101, 116, 97]) = true := by rw [h, meta_list]; rfl
theorem meta_false {s : ByteArray} (h : ¬ s = metaName) : (s.toList == [109, 101, 116, 97]) = false := beq_eq_false_iff_ne.2 fun e => h (toList_inj.1 (e.trans meta_list.symm))
theorem hdrAtM_at (l : List HeaderD) (k : Nat) (h : k < l.length) : hdrAtM l k = if hdrM l[k] ≠ 0 then some ⟨hdrM l[k], 1, k, 0⟩ else if l[k].name = metaName then some ⟨6, 1, k, 0⟩ else if dupB (l.map HeaderD.name) k = true then some ⟨7, 1, k, 0⟩ else none := by
  rw [hdrAtM, List.getElem?_eq_getElem h]

set_option maxRecDepth 100000 in
set_option maxHeartbeats 4000000 in
theorem checkHeaders_any (p : ProgD) (w : World) (o : ProgOk w p) (hl : p.headers.l.length ≤ 100) (hc : ∀ h ∈ p.headers.l, h.fields.l.length ≤ h.fields.c) :
    Calls Tryz.prog 52 #[.agg (progCells p)] w fun e w' => e = outE (hdrsM p) ∧ Below w.heap.size w w' := by
  obtain ⟨W, hW, hw, HB, hp⟩ := box1 w (progCells p) 31
  have HW := Lib.hid hw
  have HOW := Lib.hid (o.below hw)
  have HC := Lib.hid hc
  have HR := Lib.hid (hdrsM.eq_1 p)
  have HS := Lib.hid (hdrAtM_at p.headers.l)
  have HL := Lib.hid hl
  clear o hw hc
  have hn := names_header p.headers W HOW.out.headers hl
  simp only [L.v] at hn
  by_cases h0 : p.headers.l.length = 0
  · have HR2 := Lib.hid (HR.out.trans (show _ = (none : Option DiagD) by rw [h0]; rfl))
    have HNm := Lib.hid hn
    have h1 : ¬ ((0 : Int) < (p.headers.l.length : Int)) := by omega
    have h2 : (p.headers.l.length : Int) ≤ 0 := by omega
    clear h0 hn
    go_enter Tryz.func52, Tryz.ntmps52
    go_upto_region 1 with fail
    rw [← hW]
    clear hW
    go_wp2_with fail
    refine HNm.out.mono ?_
    rintro e w1 ⟨A, c, rfl, _, hb1⟩
    replace HB := below_step HB hb1
    clear hb1
    go_wp2
    refine wp_loop_rounds 1 ?_
    rw [rounds_succ]
    go_wp2
    go_end0
    exact ⟨by rw [HR2.out]; rfl, below_step HW.out HB⟩
  obtain ⟨g, of, hA, hall⟩ := HeaderD.allA HOW.out.headers (show 0 < p.headers.l.length by omega)
  have HAL := Lib.hid hall
  have HAA := Lib.hid hA
  rw [hA] at hn
  simp only [progCells, hA] at hp hW ⊢
  have HNm := Lib.hid hn
  clear hA hall hn
  go_enter Tryz.func52, Tryz.ntmps52
  go_upto_region 1 with fail
  rw [← hW]
  clear hW
  go_wp2_with fail
  refine HNm.out.mono ?_
  rintro e w1 ⟨A, c, rfl, hown, hb1⟩
  obtain ⟨gn, rfl, hg⟩ := OwnStrs.form hown (by rw [List.length_map]; omega)
  have HG := Lib.hid hg
  replace HB := below_step HB hb1
  have HB1 := Lib.hid HB
  clear hb1 hown hg HNm h0
  go_wp2
  clear HB
  go_loopw [3, 4, 11] (fun _ _ iv wr => ∃ k : Nat, k ≤ p.headers.l.length ∧ iv = .int .i64 k ∧ (∀ j, j < k → hdrAtM p.headers.l j = none) ∧ Below w1.heap.size w1 wr) (fun _ _ i _ => p.headers.l.length - (intOf i).toNat)
  case atStart => exact ⟨0, Nat.zero_le _, rfl, fun j h => absurd h (Nat.not_lt_zero _), Below.refl _ _⟩
  case round =>
    obtain ⟨k, hk, rfl, hpre, HB⟩ := hrel
    have HPre := Lib.hid hpre
    clear hpre
    by_cases hlt : k < p.headers.l.length
    · obtain ⟨d0, d1⟩ := HAL.out wr (below_step HB1.out HB) k hlt
      have HE := Lib.hid (HS.out k hlt)
      have HX : Hid (HeaderOk W p.headers.l[k]) := Lib.hid (HOW.out.hdr _ (List.getElem_mem hlt))
      have HCk := Lib.hid (HC.out _ (List.getElem_mem hlt))
      generalize p.headers.l[k] = y at *
      obtain ⟨yn, ⟨yl, yA, yc⟩⟩ := y
      simp only at HE HCk d0 d1
      have hca := @World.cell?_alloc_some
      go_wp2_with fail
      refine (headerCheck_any ⟨yn, ⟨yl, yA, yc⟩⟩ (wr.alloc (.cells #[.string yn, .slice yA yl.length yc] 61)) (HX.out.below (below_step HB1.out (by first | exact HB | exact below_alloc HB _ | exact below_alloc (below_alloc HB _) _ | exact below_alloc (below_alloc (below_alloc HB _) _) _))) HCk.out).mono ?_
      rintro e w2 ⟨rfl, hbN⟩
      have f0 : w2.cell? ⟨wr.heap.size, 0, none⟩ = some (.string yn) := below_cell hbN (by simp)
      replace HB := below_step (by first | exact HB | exact below_alloc HB _ | exact below_alloc (below_alloc HB _) _ | exact below_alloc (below_alloc (below_alloc HB _) _) _) hbN
      clear hbN d0 d1 hca
      generalize hdrM ⟨yn, ⟨yl, yA, yc⟩⟩ = hc at *
      by_cases k1 : hc = 0
      case neg =>
        have HE2 := Lib.hid (HE.out.trans (if_pos k1))
        have HR2 := Lib.hid (HR.out.trans (firstE_some hlt HPre.out HE2.out))
        go_wp2_with fail
        refine (require_bad hc 1 k 0 _ (beq_eq_false_iff_ne.2 k1)).mono ?_
        rintro e w' ⟨rfl, rfl⟩
        go_wp2
        exact ⟨rfl, by rw [HR2.out]; rfl, below_step HW.out (below_step HB1.out HB)⟩
      subst k1
      have HE2 := Lib.hid (HE.out.trans (if_neg (by simp)))
      go_wp2_with fail
      refine (require_ok _ _ _ _).mono ?_
      rintro e w' ⟨rfl, rfl⟩
      by_cases he : yn = metaName
      case pos =>
        have HE3 := Lib.hid (HE2.out.trans (if_pos he))
        have HR2 := Lib.hid (HR.out.trans (firstE_some hlt HPre.out HE3.out))
        have he' := meta_true he
        clear he
        go_wp2_with fail
        refine (when_true _ _ _ rfl).mono ?_
        rintro e w' ⟨rfl, rfl⟩
        go_wp2_with fail
        refine (require_bad 6 1 k 0 _ rfl).mono ?_
        rintro e w' ⟨rfl, rfl⟩
        go_wp2
        exact ⟨rfl, by rw [HR2.out]; rfl, below_step HW.out (below_step HB1.out HB)⟩
      have HE3 := Lib.hid (HE2.out.trans (if_neg he))
      have he' := meta_false he
      clear he
      go_wp2_with fail
      refine (when_false _ _ _ rfl).mono ?_
      rintro e w' ⟨rfl, rfl⟩
      go_wp2_with fail
      refine (require_ok _ _ _ _).mono ?_
      rintro e w' ⟨rfl, rfl⟩
      go_wp2_with fail
      refine (rep_at (p.headers.l.map HeaderD.name) p.headers.l.length gn c k w1 _ (by simp) hlt (by have := HL.out; omega) HG.out HB).mono ?_
      rintro e w3 ⟨rfl, hbN⟩
      replace HB := below_step (by first | exact HB | exact below_alloc HB _ | exact below_alloc (below_alloc HB _) _ | exact below_alloc (below_alloc (below_alloc HB _) _) _) hbN
      clear hbN
      cases hd : dupB (p.headers.l.map HeaderD.name) k
      case true =>
        have HE4 := Lib.hid (HE3.out.trans (if_pos hd))
        have HR2 := Lib.hid (HR.out.trans (firstE_some hlt HPre.out HE4.out))
        go_wp2_with fail
        refine (when_true _ _ _ rfl).mono ?_
        rintro e w' ⟨rfl, rfl⟩
        go_wp2_with fail
        refine (require_bad 7 1 k 0 _ rfl).mono ?_
        rintro e w' ⟨rfl, rfl⟩
        go_wp2
        exact ⟨rfl, by rw [HR2.out]; rfl, below_step HW.out (below_step HB1.out HB)⟩
      have HE4 := Lib.hid (HE3.out.trans (if_neg (by rw [hd]; simp)))
      go_wp2_with fail
      refine (when_false _ _ _ rfl).mono ?_
      rintro e w' ⟨rfl, rfl⟩
      go_wp2_with fail
      refine (require_ok _ _ _ _).mono ?_
      rintro e w' ⟨rfl, rfl⟩
      go_wp2
      go_roundw
      case rel => exact ⟨k + 1, by omega, by go_num, firstE_step HPre.out HE4.out, HB⟩
      case measure => simp [intOf]; omega
    · have e : k = p.headers.l.length := by omega
      have HR2 := Lib.hid (HR.out.trans (firstE_none (by rw [← e]; exact HPre.out)))
      go_wp2
      go_end0
      exact ⟨by rw [HR2.out]; rfl, below_step HW.out (below_step HB1.out HB)⟩
end Go.Proofs.YtgfbikknkcaneaaGreat

