/- Walks of package control's Count, Nesting, applies on any control flow of at most ninety thousand nodes. -/
import Derived.Test.YtbfjknidinkafaaGreatCkS
import Derived.Laws.Cover1
namespace Go.Proofs.YtbfjknidinkafaaGreat
open Go.RowKit

theorem Grow.rfl' {w : World} : Grow w w := Grow.of_below (Below.refl _ _)
theorem Grow.alloc {w w' : World} (h : Grow w w') (o : Obj) : Grow w (w'.alloc o) := h.trans (Grow.of_below (below1 _ _))
theorem Grow.drew {w w' : World} (h : Grow w w') : Grow w w'.drew := ⟨h.os, h.tape, h.output, h.size, h.block⟩
theorem Grow.setCell {w w' : World} (h : Grow w w') {a : Addr} {t : TypeId} {cs : Array Value} (hb : Blk w' a.block t cs) (ht : t ≠ 169) (v : Value) : Grow w (w'.setCell a v) := by
  have h0 : Below 0 w' (w'.setCell a v) := (Below.refl 0 w').setCell (Nat.zero_le _) v
  refine h.trans ⟨h0.os, h0.tape, h0.output, h0.size, fun b cs2 fr h2 => Below.heap_setCell _ _ _ _ (fun e => ?_)⟩
  subst e
  unfold Blk at hb
  rw [hb] at h2
  injection h2 with h2
  injection h2 with _ h2 _
  exact ht h2
theorem Grow.append {w w' w2 : World} (h : Grow w w') {v : Value} {base size n : Nat} {t : TypeId} {xs : List Value} (ho : w'.ownsRow base t size v n xs) (ht : t ≠ 169) (hg : w'.grownBy w2 v.ownBlock) : Grow w w2 := by
  refine h.trans ⟨hg.os, hg.tape, hg.output, hg.size, fun b cs fr h2 => hg.block b (by
    rcases Nat.lt_or_ge b w'.heap.size with hlt | hge
    · exact hlt
    · rw [Array.getElem?_eq_none hge] at h2; cases h2) (fun e => ?_)⟩
  rcases ho.2 with ⟨rfl, _⟩ | ⟨g, cap, cur, rfl, _, hblk, _⟩
  · simp [Value.ownBlock] at e
  · simp only [Value.ownBlock, Option.some.injEq] at e
    subst e
    rw [hblk] at h2
    injection h2 with h2
    injection h2 with _ h2 _
    exact ht h2

theorem count1_any (g : Nat) (x : CtlD) (w : World) (n : Nat) (hn : n < 100000) (hb : Blk w g 3 #[.int .i64 n]) :
    Calls Tryz.prog 205 #[.agg (ctlCells x), .pointer (some ⟨g, 0, none⟩)] w fun e w' => e = .returned (.bool true) ∧ ∃ o, w' = (w.setCell ⟨g, 0, none⟩ (.int .i64 ((n + 1 : Nat) : Int))).alloc o := by
  have hc : w.cell? ⟨g, 0, none⟩ = some (.int .i64 n) := hb.cell 0
  have hf : w.frozen? ⟨g, 0, none⟩ = false := hb.frozen 0
  have hl := hb.lt
  have hca := @World.cell?_alloc_some
  have hfl := @World.frozen?_alloc_old
  clear hb
  go_enter Tryz.func205, Tryz.ntmps205
  go_wp2
  go_ret
  exact ⟨rfl, _, by rw [show ((n + 1 : Nat) : Int) = (n : Int) + 1 by omega]⟩

theorem count_visits (w : World) : Visits 90000 w 205 #[.pointer (some ⟨w.heap.size, 0, none⟩)] (fun _ _ => true)
    (fun l w' => Below w.heap.size w w' ∧ Blk w' w.heap.size 3 #[.int .i64 l.length]) (fun _ _ _ => False) := by
  refine ⟨?_, fun l w' h => h.1, fun l w' o h => ⟨below_alloc h.1 o, h.2.alloc o⟩⟩
  rintro l x w' hl _ ⟨h1, h3⟩
  refine (count1_any w.heap.size x w' l.length (by omega) h3).mono ?_
  rintro e w2 ⟨rfl, o, rfl⟩
  refine ⟨rfl, (Grow.setCell (a := ⟨w.heap.size, 0, none⟩) Grow.rfl' h3 (by decide) _).alloc _, fun _ => ⟨below_alloc (h1.setCell (Nat.le_refl _) _) _, ?_⟩, fun h => by cases h⟩
  have h4 := (h3.set_ 0 (.int .i64 ((l.length + 1 : Nat) : Int))).alloc o
  rw [List.length_append]
  exact h4

theorem runM_true : ∀ (a l : List CtlD), runM (fun _ _ => true) l a = none
  | [], _ => rfl
  | x :: a, l => by rw [runM, if_pos rfl]; exact runM_true a _

set_option maxHeartbeats 1000000 in
theorem count_any (c : L CtlD) (w : World) (hc : LOk w 5 CtlD.cells c) (hcs : CtlsOk w c.l) (hn : (presM c.l).length ≤ 90000) :
    Calls Tryz.prog 175 #[.slice c.A c.l.length c.c] w fun e w' => e = .returned (.int .i64 ((presM c.l).length : Int)) ∧ Below w.heap.size w w' := by
  have HC := Lib.hid hc
  have HCS := Lib.hid hcs
  have HN := Lib.hid hn
  clear hc hcs hn
  have hmf : ∀ (fn : Fn) (first cap : Array Value) (w : World), (Instr.makeFunc fn first cap).run Tryz.prog w = .ok (.func fn first cap) w := fun _ _ _ _ => rfl
  go_enter Tryz.func175, Tryz.ntmps175
  go_wp2_with fail
  refine (preorder_any 90000 w 205 #[.pointer (some ⟨w.heap.size, 0, none⟩)] _ _ _ (count_visits w) (.inl ⟨rfl, _, rfl⟩) (nestM c.l + 1) c [] _ (Nat.lt_succ_self _) (by simpa using HN.out) HC.out HCS.out
    ⟨below1 _ _, Blk.new _ _ _⟩).mono ?_
  rintro e w1 ⟨hg, hm⟩
  rw [runM_true] at hm
  obtain ⟨rfl, hb1, hblk⟩ := hm
  have hz : w1.cell? ⟨w.heap.size, 0, none⟩ = some (.int .i64 ((presM c.l).length : Int)) := hblk.cell 0
  have HB := Lib.hid hb1
  clear hg hb1 hblk
  go_wp2
  go_ret
  exact ⟨rfl, HB.out⟩

set_option maxHeartbeats 1000000 in
theorem applies_any (x : CtlD) (w : World) : Calls Tryz.prog 180 #[.agg (ctlCells x)] w fun e w' => e = .returned (.bool (appliesM x)) ∧ Below w.heap.size w w' := by
  have HR := Lib.hid (appliesM.eq_1 x)
  by_cases h1 : x.kind = 1
  · have HR2 : Hid (appliesM x = true) := Lib.hid (by rw [HR.out, h1]; rfl)
    have h1' : (x.kind == 1) = true := beq_iff_eq.2 h1
    clear h1
    go_enter Tryz.func180, Tryz.ntmps180
    go_wp2
    go_ret
    exact ⟨by rw [HR2.out]; rfl, below1 _ _⟩
  · have h1' : (x.kind == 1) = false := beq_eq_false_iff_ne.2 h1
    by_cases h2 : x.kind = 3
    · have HR2 : Hid (appliesM x = true) := Lib.hid (by rw [HR.out, h2]; rfl)
      have h2' : (x.kind == 3) = true := beq_iff_eq.2 h2
      clear h1 h2
      go_enter Tryz.func180, Tryz.ntmps180
      go_wp2
      go_ret
      exact ⟨by rw [HR2.out]; rfl, below1 _ _⟩
    · have HR2 : Hid (appliesM x = false) := Lib.hid (by rw [HR.out]; simp [h1, h2])
      have h2' : (x.kind == 3) = false := beq_eq_false_iff_ne.2 h2
      clear h1 h2
      go_enter Tryz.func180, Tryz.ntmps180
      go_wp2
      go_ret
      exact ⟨by rw [HR2.out]; rfl, below1 _ _⟩

mutual
theorem nest1_le : ∀ (x : CtlD), nest1M x + 1 ≤ (preM x).length
  | .mk k t c th el tA eA tc ec => by
    have h1 := nest_le th
    have h2 := nest_le el
    rw [nest1M, preM, List.length_cons, List.length_append]
    omega
theorem nest_le : ∀ (l : List CtlD), nestM l ≤ (presM l).length
  | [] => by rw [nestM]; exact Nat.zero_le _
  | x :: l => by
    have h1 := nest1_le x
    have h2 := nest_le l
    rw [nestM, presM, List.length_append]
    omega
end
theorem nest_snoc (l : List CtlD) (x : CtlD) : nestM (l ++ [x]) = max (nestM l) (max (nestM x.th.l) (nestM x.el.l) + 1) := by
  induction l with
  | nil => cases x; simp [nestM, nest1M, CtlD.th, CtlD.el]
  | cons y l ih => rw [List.cons_append, nestM, ih, nestM]; omega

set_option maxRecDepth 100000 in
set_option maxHeartbeats 1000000 in
theorem nesting_any : ∀ (m : Nat) (c : L CtlD) (w : World), nestM c.l < m → nestM c.l ≤ 90000 → LOk w 5 CtlD.cells c → CtlsOk w c.l →
    Calls Tryz.prog 176 #[.slice c.A c.l.length c.c] w fun e w' => e = .returned (.int .i64 (nestM c.l : Int)) ∧ Below w.heap.size w w'
  | 0, _, _, h, _, _, _ => absurd h (Nat.not_lt_zero _)
  | m + 1, ⟨cl, cA, cc⟩, w, hm, hN, hc, hcs => by
    have IH := Lib.hid (nesting_any m)
    have HC := Lib.hid hc
    have HCS := Lib.hid hcs
    have HM := Lib.hid hm
    have HN := Lib.hid hN
    have hlen := hc.1
    unfold maxLen at hlen
    simp only at hlen HCS HM HN
    clear hc hcs hm hN
    by_cases h0 : cl.length = 0
    · have e0 : cl = [] := List.eq_nil_of_length_eq_zero h0
      have HE : Hid (nestM cl = 0) := Lib.hid (by rw [e0]; rfl)
      have h1 : ((cl.length : Int) == 0) = true := by rw [beq_iff_eq]; omega
      clear h0 e0 HM HCS
      go_enter Tryz.func176, Tryz.ntmps176
      go_wp2
      go_ret
      exact ⟨by rw [HE.out]; rfl, Below.refl _ _⟩
    have h1 : ((cl.length : Int) == 0) = false := by rw [beq_eq_false_iff_ne]; omega
    obtain ⟨g0, of0, hA, hall⟩ := CtlD.allA HC.out (show 0 < cl.length by omega)
    have HAL := Lib.hid hall
    simp only at hA
    subst hA
    clear hall h0
    go_enter Tryz.func176, Tryz.ntmps176
    go_wp2
    go_loopw [3, 5, 11] (fun nv _ iv wr => ∃ k : Nat, k ≤ cl.length ∧ iv = .int .i64 k ∧ nv = .int .i64 ((nestM (cl.take k) - 1 : Nat) : Int) ∧ (0 < k → 0 < nestM (cl.take k)) ∧ Below w.heap.size w wr) (fun _ _ i _ => cl.length - (intOf i).toNat)
    case atStart => exact ⟨0, Nat.zero_le _, rfl, rfl, fun h => absurd h (Nat.lt_irrefl _), Below.refl _ _⟩
    case round =>
      obtain ⟨k, hk, rfl, rfl, hpos, HB⟩ := hrel
      by_cases hlt : k < cl.length
      · obtain ⟨d0, d1, d2, d3, d4⟩ := HAL.out wr HB k hlt
        have HX : Hid (CtlOk w cl[k]) := Lib.hid (ctls_mem HCS.out (List.getElem_mem hlt))
        have hmem := nest_mem (List.getElem_mem hlt)
        have HNe : Hid (nestM cl[k].th.l < m ∧ nestM cl[k].el.l < m ∧ nestM cl[k].th.l ≤ 90000 ∧ nestM cl[k].el.l ≤ 90000) := Lib.hid (by
          have := HM.out
          have := HN.out
          omega)
        have HS : Hid (nestM (cl.take (k + 1)) = max (nestM (cl.take k)) (max (nestM cl[k].th.l) (nestM cl[k].el.l) + 1)) := Lib.hid (by rw [take_snoc cl k hlt, nest_snoc])
        clear hmem
        generalize cl[k] = x at *
        refine Exists.elim (box1 wr (ctlCells x) 169) ?_
        rintro U ⟨hU, hu, hUU, hbx⟩
        have HB0 := Lib.hid HB
        have HU := Lib.hid (below_step HB hu)
        have H0 := Lib.hid hUU
        have hca := @World.cell?_alloc_some
        go_upto_region 7 with fail
        rw [← hU]
        clear hU HB hUU hu d0 d1 d2 d3 d4 hca
        have hb3 : ∀ w', Below U.heap.size U w' → w'.cell? ⟨wr.heap.size, 3, none⟩ = some (.slice x.th.A x.th.l.length x.th.c) ∧ w'.cell? ⟨wr.heap.size, 4, none⟩ = some (.slice x.el.A x.el.l.length x.el.c) :=
          fun w' h => ⟨hbx w' h 3 (show 3 < 5 by decide), hbx w' h 4 (show 4 < 5 by decide)⟩
        clear hbx
        have HXt : Hid (LOk w 5 CtlD.cells x.th ∧ CtlsOk w x.th.l) := Lib.hid ⟨(ctl_parts HX.out).2.1, (ctl_parts HX.out).2.2.2.1⟩
        have HXe : Hid (LOk w 5 CtlD.cells x.el ∧ CtlsOk w x.el.l) := Lib.hid ⟨(ctl_parts HX.out).2.2.1, (ctl_parts HX.out).2.2.2.2⟩
        clear HX
        generalize x.kind = xk at *
        generalize x.table = xtb at *
        generalize x.cond = xcd at *
        generalize x.th = xt at *
        generalize x.el = xe at *
        obtain ⟨tl, tA, tc⟩ := xt
        obtain ⟨el, eA, ec⟩ := xe
        simp only at hb3 HXt HXe HNe HS
        have HCt : Hid (∀ w', Below U.heap.size U w' → Calls Tryz.prog 176 #[.slice tA tl.length tc] w' fun e w2 => e = .returned (.int .i64 (nestM tl : Int)) ∧ Below w'.heap.size w' w2) :=
          Lib.hid (fun w' h => IH.out ⟨tl, tA, tc⟩ w' HNe.out.1 HNe.out.2.2.1 (HXt.out.1.below (below_step HU.out h) (Nat.le_refl _)) (CtlsOk.below (below_step HU.out h) HXt.out.2))
        have HCe : Hid (∀ w', Below U.heap.size U w' → Calls Tryz.prog 176 #[.slice eA el.length ec] w' fun e w2 => e = .returned (.int .i64 (nestM el : Int)) ∧ Below w'.heap.size w' w2) :=
          Lib.hid (fun w' h => IH.out ⟨el, eA, ec⟩ w' HNe.out.2.1 HNe.out.2.2.2 (HXe.out.1.below (below_step HU.out h) (Nat.le_refl _)) (CtlsOk.below (below_step HU.out h) HXe.out.2))
        go_region_held3 (fun w' => Below U.heap.size U w') (first | exact H0.out | exact below_drew H0.out | (exact below_step (by assumption) (by assumption)) | assumption)
          (first | (go_at_call 176; refine (HCt.out _ (by assumption)).mono ?_; clear HCt; rintro e w1 ⟨rfl, hb1⟩)
                 | (go_at_call 176; refine (HCe.out _ (by assumption)).mono ?_; rintro e w1 ⟨rfl, hb1⟩))
        have HB5 : Hid (Below U.heap.size U _) := Lib.hid (by assumption)
        go_wp2
        go_roundw
        case rel => exact ⟨k + 1, by omega, by go_num, by (rw [HS.out]; congr 1; (repeat' split) <;> omega), fun _ => (by rw [HS.out]; omega), below_step HU.out HB5.out⟩
        case measure => simp [intOf]; omega
      · have e : k = cl.length := by omega
        have HR : Hid (nestM (cl.take k) = nestM cl) := Lib.hid (by rw [e, List.take_length])
        have hp : 0 < nestM (cl.take k) := hpos (by
          have := h1
          rw [beq_eq_false_iff_ne] at this
          omega)
        have hN2 := HN.out
        rw [HR.out] at hp ⊢
        go_wp2
        go_ret
        exact ⟨ret_int (by omega), HB⟩
end Go.Proofs.YtbfjknidinkafaaGreat

