/- The walks of the reference's Count, Nesting and Preorder of control nodes. No condition but that the nodes lie in memory, at most 90000 of them. -/
import Derived.Test.YtbfjknidinkafaaGreatRcL
import Derived.Test.YtbfjknidinkafaaGreatCkW
import Derived.Test.YtbfjknidinkafaaGreatMov
import Derived.WalkLawsBesides
namespace Go.Proofs.YtbfjknidinkafaaGreat
open Go.RowKit

theorem pres_take {l : List CtlD} {k : Nat} (h : k < l.length) : presM (l.take (k + 1)) = presM (l.take k) ++ l[k] :: (presM l[k].th.l ++ presM l[k].el.l) := by
  rw [take_snoc l k h, presM_snoc]
theorem pres_part (l : List CtlD) (k : Nat) : (presM (l.take k)).length ≤ (presM l).length := by
  have := congrArg List.length (presM_append (l.take k) (l.drop k))
  rw [List.take_append_drop, List.length_append] at this
  omega
set_option maxRecDepth 100000 in
set_option maxHeartbeats 8000000 in
theorem rcount_any : ∀ (N : Nat) (c : L CtlD) (w : World), (presM c.l).length < N → (presM c.l).length ≤ 90000 → LOk w 5 CtlD.cells c → CtlsOk w c.l →
    Calls Tryz.prog 150 #[.slice c.A c.l.length c.c] w fun e w' => e = .returned (.int .i64 ((presM c.l).length : Int)) ∧ Below w.heap.size w w'
  | 0, _, _, h, _, _, _ => absurd h (Nat.not_lt_zero _)
  | m + 1, ⟨cl, cA, cc⟩, w, hm, hN, hc, hcs => by
    have IH := Lib.hid (rcount_any m)
    have HC := Lib.hid hc
    have HCS := Lib.hid hcs
    have HM := Lib.hid hm
    have HN := Lib.hid hN
    have hlen := hc.1
    unfold maxLen at hlen
    simp only at hlen HCS HM HN
    clear hc hcs hm hN
    go_enter Tryz.func150, Tryz.ntmps150
    go_wp2
    go_loopw [3, 4] (fun nv iv wr => ∃ k n : Nat, k ≤ cl.length ∧ iv = .int .i64 k ∧ nv = .int .i64 n ∧ n ≤ 90000 ∧ Hid (n = (presM (cl.take k)).length) ∧ Below w.heap.size w wr) (fun _ i _ => cl.length - (intOf i).toNat)
    case atStart => exact ⟨0, 0, Nat.zero_le _, rfl, rfl, by omega, Lib.hid rfl, Below.refl _ _⟩
    case round =>
      obtain ⟨k, n, hk, rfl, rfl, hn, HG, HB⟩ := hrel
      by_cases hlt : k < cl.length
      · obtain ⟨g0, of0, hA, hall⟩ := CtlD.atA (HC.out.below HB (Nat.le_refl _)) hlt
        simp only at hA
        subst hA
        have HX : Hid (CtlOk w cl[k]) := Lib.hid (ctls_mem HCS.out (List.getElem_mem hlt))
        have HS : Hid ((presM (cl.take (k + 1))).length = (presM (cl.take k)).length + (1 + (presM cl[k].th.l).length + (presM cl[k].el.l).length)) := Lib.hid (by
          rw [pres_take hlt, List.length_append, List.length_cons, List.length_append]; omega)
        have HP := Lib.hid (pres_th (List.getElem_mem hlt))
        have HL : Hid ((presM (cl.take (k + 1))).length ≤ 90000) := Lib.hid (Nat.le_trans (pres_part cl (k + 1)) HN.out)
        generalize cl[k] = x at *
        have hb3 : ∀ w', Below wr.heap.size wr w' → w'.cell? ⟨g0, of0 + k * 5 + 3, none⟩ = some (.slice x.th.A x.th.l.length x.th.c) ∧ w'.cell? ⟨g0, of0 + k * 5 + 4, none⟩ = some (.slice x.el.A x.el.l.length x.el.c) :=
          fun w' h => ⟨(hall w' h).2.2.2.1, (hall w' h).2.2.2.2⟩
        have HXt : Hid (LOk w 5 CtlD.cells x.th ∧ CtlsOk w x.th.l) := Lib.hid ⟨(ctl_parts HX.out).2.1, (ctl_parts HX.out).2.2.2.1⟩
        have HXe : Hid (LOk w 5 CtlD.cells x.el ∧ CtlsOk w x.el.l) := Lib.hid ⟨(ctl_parts HX.out).2.2.1, (ctl_parts HX.out).2.2.2.2⟩
        have HPn : Hid ((presM x.th.l).length < m ∧ (presM x.th.l).length ≤ 90000 ∧ (presM x.el.l).length < m ∧ (presM x.el.l).length ≤ 90000) := Lib.hid (by
          have h1 := HP.out.1
          have h2 := HP.out.2.2.1
          have h3 := HM.out
          have h4 := HN.out
          omega)
        clear hall HX HP
        generalize x.th = xt at *
        generalize x.el = xe at *
        obtain ⟨tl, tA, tc⟩ := xt
        obtain ⟨el, eA, ec⟩ := xe
        simp only at hb3 HXt HXe HPn HS
        have HCt : Hid (∀ w', Below wr.heap.size wr w' → Calls Tryz.prog 150 #[.slice tA tl.length tc] w' fun e w2 => e = .returned (.int .i64 ((presM tl).length : Int)) ∧ Below w'.heap.size w' w2) :=
          Lib.hid (fun w' h => IH.out ⟨tl, tA, tc⟩ w' HPn.out.1 HPn.out.2.1 (HXt.out.1.below (below_step HB h) (Nat.le_refl _)) (CtlsOk.below (below_step HB h) HXt.out.2))
        have HCe : Hid (∀ w', Below wr.heap.size wr w' → Calls Tryz.prog 150 #[.slice eA el.length ec] w' fun e w2 => e = .returned (.int .i64 ((presM el).length : Int)) ∧ Below w'.heap.size w' w2) :=
          Lib.hid (fun w' h => IH.out ⟨el, eA, ec⟩ w' HPn.out.2.2.1 HPn.out.2.2.2 (HXe.out.1.below (below_step HB h) (Nat.le_refl _)) (CtlsOk.below (below_step HB h) HXe.out.2))
        have ht1 := HPn.out.2.1
        have ht2 := HPn.out.2.2.2
        generalize (presM tl).length = a at *
        generalize (presM el).length = b at *
        have H0 := Lib.hid (Below.refl wr.heap.size wr)
        have HBw := Lib.hid HB
        have hlt' : (k : Int) < (cl.length : Int) := by omega
        clear HB HXt HXe HPn
        go_wp2
        go_region_held3 (fun w' => Below wr.heap.size wr w') (first | exact H0.out | exact below_drew H0.out | (exact below_step (by assumption) (by assumption)) | assumption)
          (first | (go_at_call 150; with_reducible (refine (HCt.out _ (by assumption)).mono ?_); rintro e w1 ⟨rfl, hb1⟩)
                 | (go_at_call 150; with_reducible (refine (HCe.out _ (by assumption)).mono ?_); rintro e w1 ⟨rfl, hb1⟩))
        have HB5 : Hid (Below wr.heap.size wr _) := Lib.hid (by assumption)
        go_wp2
        go_roundw
        case rel => exact ⟨k + 1, n + (1 + a + b), by omega, by go_num, (by rw [IntWalk.i64_in (1 + (a : Int)) (by omega), IntWalk.i64_in (1 + (a : Int) + (b : Int)) (by omega), IntWalk.i64_in ((n : Int) + (1 + (a : Int) + (b : Int))) (by omega)]; congr 1), by have := HS.out; have := HG.out; have := HL.out; omega, Lib.hid (by rw [HS.out, ← HG.out]), below_step HBw.out HB5.out⟩
        case measure => simp [intOf]; omega
      · have e : k = cl.length := by omega
        have HR : Hid (n = (presM cl).length) := Lib.hid (by have := HG.out; rwa [e, List.take_length] at this)
        go_wp2
        go_ret
        exact ⟨by rw [HR.out]; rfl, HB⟩

theorem max3 (n a b : Nat) : (if (if (n : Int) < 1 + (a : Int) then 1 + (a : Int) else (n : Int)) < 1 + (b : Int) then 1 + (b : Int) else if (n : Int) < 1 + (a : Int) then 1 + (a : Int) else (n : Int)) = ((max n (max a b + 1) : Nat) : Int) := by
  by_cases h1 : (n : Int) < 1 + (a : Int)
  · rw [if_pos h1]
    by_cases h2 : 1 + (a : Int) < 1 + (b : Int)
    · rw [if_pos h2]; omega
    · rw [if_neg h2]; omega
  · rw [if_neg h1]
    by_cases h2 : (n : Int) < 1 + (b : Int)
    · rw [if_pos h2]; omega
    · rw [if_neg h2]; omega
set_option maxRecDepth 100000 in
set_option maxHeartbeats 8000000 in
theorem rnesting_any : ∀ (m : Nat) (c : L CtlD) (w : World), nestM c.l < m → nestM c.l ≤ 90000 → LOk w 5 CtlD.cells c → CtlsOk w c.l →
    Calls Tryz.prog 151 #[.slice c.A c.l.length c.c] w fun e w' => e = .returned (.int .i64 (nestM c.l : Int)) ∧ Below w.heap.size w w'
  | 0, _, _, h, _, _, _ => absurd h (Nat.not_lt_zero _)
  | m + 1, ⟨cl, cA, cc⟩, w, hm, hN, hc, hcs => by
    have IH := Lib.hid (rnesting_any m)
    have HC := Lib.hid hc
    have HCS := Lib.hid hcs
    have HM := Lib.hid hm
    have HN := Lib.hid hN
    have hlen := hc.1
    unfold maxLen at hlen
    simp only at hlen HCS HM HN
    clear hc hcs hm hN
    go_enter Tryz.func151, Tryz.ntmps151
    go_wp2
    go_loopw [3, 4] (fun nv iv wr => ∃ k n : Nat, k ≤ cl.length ∧ iv = .int .i64 k ∧ nv = .int .i64 n ∧ Hid (n = nestM (cl.take k)) ∧ Below w.heap.size w wr) (fun _ i _ => cl.length - (intOf i).toNat)
    case atStart => exact ⟨0, 0, Nat.zero_le _, rfl, rfl, Lib.hid rfl, Below.refl _ _⟩
    case round =>
      obtain ⟨k, n, hk, rfl, rfl, HG, HB⟩ := hrel
      by_cases hlt : k < cl.length
      · obtain ⟨g0, of0, hA, hall⟩ := CtlD.atA (HC.out.below HB (Nat.le_refl _)) hlt
        simp only at hA
        subst hA
        have HX : Hid (CtlOk w cl[k]) := Lib.hid (ctls_mem HCS.out (List.getElem_mem hlt))
        have hmem := nest_mem (List.getElem_mem hlt)
        have HS : Hid (nestM (cl.take (k + 1)) = max (nestM (cl.take k)) (max (nestM cl[k].th.l) (nestM cl[k].el.l) + 1)) := Lib.hid (by rw [take_snoc cl k hlt, nest_snoc])
        have HPn : Hid (nestM cl[k].th.l < m ∧ nestM cl[k].th.l ≤ 90000 ∧ nestM cl[k].el.l < m ∧ nestM cl[k].el.l ≤ 90000) := Lib.hid (by
          have := HM.out
          have := HN.out
          omega)
        clear hmem
        generalize cl[k] = x at *
        have hb3 : ∀ w', Below wr.heap.size wr w' → w'.cell? ⟨g0, of0 + k * 5 + 3, none⟩ = some (.slice x.th.A x.th.l.length x.th.c) ∧ w'.cell? ⟨g0, of0 + k * 5 + 4, none⟩ = some (.slice x.el.A x.el.l.length x.el.c) :=
          fun w' h => ⟨(hall w' h).2.2.2.1, (hall w' h).2.2.2.2⟩
        have HXt : Hid (LOk w 5 CtlD.cells x.th ∧ CtlsOk w x.th.l) := Lib.hid ⟨(ctl_parts HX.out).2.1, (ctl_parts HX.out).2.2.2.1⟩
        have HXe : Hid (LOk w 5 CtlD.cells x.el ∧ CtlsOk w x.el.l) := Lib.hid ⟨(ctl_parts HX.out).2.2.1, (ctl_parts HX.out).2.2.2.2⟩
        clear hall HX
        generalize x.th = xt at *
        generalize x.el = xe at *
        obtain ⟨tl, tA, tc⟩ := xt
        obtain ⟨el, eA, ec⟩ := xe
        simp only at hb3 HXt HXe HPn HS
        have HCt : Hid (∀ w', Below wr.heap.size wr w' → Calls Tryz.prog 151 #[.slice tA tl.length tc] w' fun e w2 => e = .returned (.int .i64 (nestM tl : Int)) ∧ Below w'.heap.size w' w2) :=
          Lib.hid (fun w' h => IH.out ⟨tl, tA, tc⟩ w' HPn.out.1 HPn.out.2.1 (HXt.out.1.below (below_step HB h) (Nat.le_refl _)) (CtlsOk.below (below_step HB h) HXt.out.2))
        have HCe : Hid (∀ w', Below wr.heap.size wr w' → Calls Tryz.prog 151 #[.slice eA el.length ec] w' fun e w2 => e = .returned (.int .i64 (nestM el : Int)) ∧ Below w'.heap.size w' w2) :=
          Lib.hid (fun w' h => IH.out ⟨el, eA, ec⟩ w' HPn.out.2.2.1 HPn.out.2.2.2 (HXe.out.1.below (below_step HB h) (Nat.le_refl _)) (CtlsOk.below (below_step HB h) HXe.out.2))
        have ht1 := HPn.out.2.1
        have ht2 := HPn.out.2.2.2
        generalize nestM tl = a at *
        generalize nestM el = b at *
        have H0 := Lib.hid (Below.refl wr.heap.size wr)
        have HBw := Lib.hid HB
        have hlt' : (k : Int) < (cl.length : Int) := by omega
        have hwa : IntKind.i64.wrap (1 + (a : Int)) = 1 + (a : Int) := IntWalk.i64_in _ (by omega)
        have hwb : IntKind.i64.wrap (1 + (b : Int)) = 1 + (b : Int) := IntWalk.i64_in _ (by omega)
        clear HB HXt HXe HPn
        go_wp2
        go_region_held3 (fun w' => Below wr.heap.size wr w') (first | exact H0.out | exact below_drew H0.out | (exact below_step (by assumption) (by assumption)) | assumption)
          (first | (go_at_call 151; with_reducible (refine (HCt.out _ (by assumption)).mono ?_); rintro e w1 ⟨rfl, hb1⟩)
                 | (go_at_call 151; with_reducible (refine (HCe.out _ (by assumption)).mono ?_); rintro e w1 ⟨rfl, hb1⟩))
        have HB5 : Hid (Below wr.heap.size wr _) := Lib.hid (by assumption)
        go_wp2
        go_roundw
        case rel => exact ⟨k + 1, max n (max a b + 1), by omega, by go_num, congrArg (Value.int .i64) (max3 n a b), Lib.hid (by rw [HS.out, ← HG.out]), below_step HBw.out HB5.out⟩
        case measure => simp [intOf]; omega
      · have e : k = cl.length := by omega
        have HR : Hid (n = nestM cl) := Lib.hid (by have := HG.out; rwa [e, List.take_length] at this)
        go_wp2
        go_ret
        exact ⟨by rw [HR.out]; rfl, HB⟩

theorem one_ctl : ∀ u, ∀ c ∈ CtlD.cells u, c.oneCell' = true := by
  intro u c hc
  simp [CtlD.cells] at hc; rcases hc with rfl | rfl | rfl | rfl | rfl <;> rfl
/-- the slice of a row of the call's own -/
theorem row_slice {w : World} {B : Nat} {t : TypeId} {k : Nat} {v : Value} {n : Nat} {xs : List Value} (h : w.ownsRow B t k v n xs) : ∃ A c, v = .slice A n c := by
  rcases h.2 with ⟨hv, h0⟩ | ⟨g', cap, cur, hv, _, _, _⟩
  · exact ⟨none, 0, by rw [hv, h0]⟩
  · exact ⟨_, _, hv⟩
set_option maxRecDepth 100000 in
set_option maxHeartbeats 16000000 in
theorem rpre_any : ∀ (N : Nat) (c : L CtlD) (w : World), (presM c.l).length < N → (presM c.l).length ≤ 90000 → LOk w 5 CtlD.cells c → CtlsOk w c.l →
    Calls Tryz.prog 152 #[.slice c.A c.l.length c.c] w fun e w' => ∃ A cp, e = .returned (.slice A (presM c.l).length cp) ∧ w'.ownsRow w.heap.size 169 5 (.slice A (presM c.l).length cp) (presM c.l).length ((presM c.l).flatMap CtlD.cells) ∧ Below w.heap.size w w'
  | 0, _, _, h, _, _, _ => absurd h (Nat.not_lt_zero _)
  | m + 1, ⟨cl, cA, cc⟩, w, hm, hN, hc, hcs => by
    have IH := Lib.hid (rpre_any m)
    have HC := Lib.hid hc
    have HCS := Lib.hid hcs
    have HM := Lib.hid hm
    have HN := Lib.hid hN
    have hlen := hc.1
    unfold maxLen at hlen
    simp only at hlen HCS HM HN
    clear hc hcs hm hN
    obtain ⟨i0, hi, hz0, hz1, hz2⟩ := info_parts info_ctl
    go_enter Tryz.func152, Tryz.ntmps152
    go_wp2
    go_loopw [3, 4] (fun o iv wr => ∃ (k n : Nat) (A : Option Addr) (cp : Nat), k ≤ cl.length ∧ iv = .int .i64 k ∧ o = .slice A n cp ∧ n ≤ 90000 ∧ Hid (n = (presM (cl.take k)).length ∧ wr.ownsRow w.heap.size 169 5 (.slice A n cp) n ((presM (cl.take k)).flatMap CtlD.cells)) ∧ Below w.heap.size w wr) (fun _ i _ => cl.length - (intOf i).toNat)
    case atStart => exact ⟨0, 0, none, 0, Nat.zero_le _, rfl, rfl, Nat.zero_le _, Lib.hid ⟨rfl, World.ownsRow_nil _ _ _ _⟩, Below.refl _ _⟩
    case round =>
      obtain ⟨k, n, A, cp, hk, rfl, rfl, hn, HG, hbel⟩ := hrel
      by_cases hlt : k < cl.length
      · obtain ⟨g0, of0, hA, hall⟩ := CtlD.atA HC.out hlt
        simp only at hA
        subst hA
        have HX : Hid (CtlOk w cl[k]) := Lib.hid (ctls_mem HCS.out (List.getElem_mem hlt))
        have HS : Hid (presM (cl.take (k + 1)) = presM (cl.take k) ++ cl[k] :: (presM cl[k].th.l ++ presM cl[k].el.l)) := Lib.hid (pres_take hlt)
        have HP := Lib.hid (pres_th (List.getElem_mem hlt))
        have HL : Hid ((presM (cl.take (k + 1))).length ≤ 90000) := Lib.hid (Nat.le_trans (pres_part cl (k + 1)) HN.out)
        generalize cl[k] = x at *
        have HXt : Hid (LOk w 5 CtlD.cells x.th ∧ CtlsOk w x.th.l) := Lib.hid ⟨(ctl_parts HX.out).2.1, (ctl_parts HX.out).2.2.2.1⟩
        have HXe : Hid (LOk w 5 CtlD.cells x.el ∧ CtlsOk w x.el.l) := Lib.hid ⟨(ctl_parts HX.out).2.2.1, (ctl_parts HX.out).2.2.2.2⟩
        have HPn : Hid ((presM x.th.l).length < m ∧ (presM x.th.l).length ≤ 90000 ∧ (presM x.el.l).length < m ∧ (presM x.el.l).length ≤ 90000) := Lib.hid (by
          have h1 := HP.out.1
          have h2 := HP.out.2.2.1
          have h3 := HM.out
          have h4 := HN.out
          omega)
        have HSn : Hid (n + 1 + (presM x.th.l).length + (presM x.el.l).length = (presM (cl.take (k + 1))).length) := Lib.hid (by
          rw [HS.out, HG.out.1, List.length_append, List.length_cons, List.length_append]; omega)
        have hsum : n + 1 + (presM x.th.l).length + (presM x.el.l).length ≤ 90000 := by have := HSn.out; have := HL.out; omega
        obtain ⟨kd, tb, cd, ⟨tl, tA, tc⟩, ⟨el, eA, ec⟩, hxe⟩ : ∃ (kd tb : Int) (cd : L NodeD) (t e : L CtlD), x = .mk kd tb cd t.l e.l t.A e.A t.c e.c := by
          cases x with | mk a b c d e f g h i => exact ⟨a, b, c, ⟨d, f, h⟩, ⟨e, g, i⟩, rfl⟩
        subst hxe
        simp only [CtlD.th, CtlD.el, CtlD.kind, CtlD.table, CtlD.cond] at HXt HXe HPn HSn hsum hall
        clear HX HP
        have hown1 := HG.out.2
        obtain ⟨d0, d1, d2, d3, d4⟩ := hall wr hbel
        go_wp2_with (first
          | (at_builtin; refine wpList_append_own_at _ rfl _ _ 28 rfl w.heap.size 169 i0 _ 5 88 Tryz.underlying28 hi hz0 hz1 hz2 rfl (by decide) _ _ _ rfl (hown1.alloc _) ⟨wr.heap.size, 0, none⟩ 1 1 [.int .i64 kd, .int .i64 tb, .slice cd.A cd.l.length cd.c, .slice tA tl.length tc, .slice eA el.length ec] rfl rfl ?g01 ?g02 ?g03 ?g04 ?g05 ?_))
        case g02 => exact ⟨rfl, rfl, rfl, rfl, rfl⟩
        case g03 => unfold maxLen; omega
        case g04 => omega
        case g05 => have := hbel.size; simp; omega
        intro v1 w1 hown2 hgrow _ _
        have hbel1 : Below w.heap.size w w1 := (hbel.alloc hbel.size _).grown hgrow (hbel.alloc hbel.size _).size fun j hj => (hown1.lt j hj).1
        obtain ⟨A1, c1, rfl⟩ := row_slice hown2
        have HO1 := Lib.hid hown2
        clear hown1 hown2 hgrow d0 d1 d2 d3 d4
        obtain ⟨_, _, _, d3, _⟩ := hall w1 hbel1
        go_wp2_with fail
        refine (IH.out ⟨tl, tA, tc⟩ w1 HPn.out.1 HPn.out.2.1 (HXt.out.1.below hbel1 (Nat.le_refl _)) (CtlsOk.below hbel1 HXt.out.2)).mono ?_
        rintro e w2 ⟨A2, c2, rfl, hown3, hb2⟩
        have hbel2 := hbel1.trans (hb2.mono hbel1.size)
        have HO2 := Lib.hid (own_below HO1.out hb2)
        obtain ⟨A2', c2', e2, _, HT2, hnil2, _⟩ := own_list (l := presM tl) (cells := CtlD.cells) (fun _ => rfl) hown3
        cases e2
        clear hown3 hb2 d3
        go_wp2_with (first
          | (at_builtin; refine wpList_append_L rfl _ _ 28 rfl w.heap.size 169 i0 _ 5 88 Tryz.underlying28 hi hz0 hz1 hz2 rfl (by decide) _ _ _ rfl HO2.out ⟨presM tl, A2, c2⟩ rfl HT2 hnil2 (fun _ => rfl) one_ctl ?g11 ?g12 ?g13 ?_))
        case g11 => unfold maxLen; omega
        case g12 => omega
        case g13 => exact hbel2.size
        intro v3 w3 hown4 hgrow
        have hbel3 : Below w.heap.size w w3 := hbel2.trans (grown_below HO2.out hgrow hbel2.size)
        obtain ⟨A3, c3, rfl⟩ := row_slice hown4
        have HO3 := Lib.hid hown4
        clear hown4 hgrow HO1 HO2 HT2 hnil2
        obtain ⟨_, _, _, _, d4⟩ := hall w3 hbel3
        go_wp2_with fail
        refine (IH.out ⟨el, eA, ec⟩ w3 HPn.out.2.2.1 HPn.out.2.2.2 (HXe.out.1.below hbel3 (Nat.le_refl _)) (CtlsOk.below hbel3 HXe.out.2)).mono ?_
        rintro e w4 ⟨A4, c4, rfl, hown5, hb4⟩
        have hbel4 := hbel3.trans (hb4.mono hbel3.size)
        have HO4 := Lib.hid (own_below HO3.out hb4)
        obtain ⟨A4', c4', e4, _, HT4, hnil4, _⟩ := own_list (l := presM el) (cells := CtlD.cells) (fun _ => rfl) hown5
        cases e4
        clear hown5 hb4 d4 HO3
        go_wp2_with (first
          | (at_builtin; refine wpList_append_L rfl _ _ 28 rfl w.heap.size 169 i0 _ 5 88 Tryz.underlying28 hi hz0 hz1 hz2 rfl (by decide) _ _ _ rfl HO4.out ⟨presM el, A4, c4⟩ rfl HT4 hnil4 (fun _ => rfl) one_ctl ?g21 ?g22 ?g23 ?_))
        case g21 => unfold maxLen; omega
        case g22 => omega
        case g23 => exact hbel4.size
        intro v5 w5 hown6 hgrow
        have hbel5 : Below w.heap.size w w5 := hbel4.trans (grown_below HO4.out hgrow hbel4.size)
        obtain ⟨A5, c5, rfl⟩ := row_slice hown6
        have HO5 : Hid (n + 1 + (presM tl).length + (presM el).length = (presM (cl.take (k + 1))).length ∧ w5.ownsRow w.heap.size 169 5 (.slice A5 (n + 1 + (presM tl).length + (presM el).length) c5) (n + 1 + (presM tl).length + (presM el).length) ((presM (cl.take (k + 1))).flatMap CtlD.cells)) := Lib.hid (by
          refine ⟨HSn.out, ?_⟩
          rw [HS.out, List.flatMap_append, List.flatMap_cons, List.flatMap_append]
          exact hown6)
        clear hown6 hgrow HO4 HT4 hnil4 HSn HS HL HG
        go_wp2
        go_roundw
        case rel => exact ⟨k + 1, n + 1 + (presM tl).length + (presM el).length, A5, c5, by omega, by go_num, rfl, hsum, HO5, hbel5⟩
        case measure => simp [intOf]; omega
      · have e : k = cl.length := by omega
        have HR : Hid (n = (presM cl).length ∧ wr.ownsRow w.heap.size 169 5 (.slice A n cp) n ((presM cl).flatMap CtlD.cells)) := Lib.hid (by have := HG.out; rwa [e, List.take_length] at this)
        go_wp2
        go_ret
        have h1 := HR.out.1
        have h2 := HR.out.2
        subst h1
        exact ⟨A, cp, rfl, h2, hbel⟩
end Go.Proofs.YtbfjknidinkafaaGreat

