/- The walk of law 21's count of control nodes. No condition but that the nodes lie in memory. Walks of law 21's sizes: Small, largeAction, largeState. No condition but that the parts lie in memory. The walk of law 21's TooLarge. No condition but that the program lies in memory. -/
import Derived.Test.YtgfbikknkcaneaaGreatGa
namespace Go.Proofs.YtgfbikknkcaneaaGreat
open Go.RowKit

/-- the lists of control nodes are no longer than memory -/
inductive CtlCaps : List CtlD → Prop
  | nil : CtlCaps []
  | cons {k t : Int} {cond : L NodeD} {th el : List CtlD} {tA eA : Option Addr} {tc ec : Nat} {l : List CtlD} : th.length ≤ 4398046511104 → el.length ≤ 4398046511104 → CtlCaps th → CtlCaps el → CtlCaps l → CtlCaps (.mk k t cond th el tA eA tc ec :: l)
theorem CtlCaps.mem {x : CtlD} : ∀ {l : List CtlD}, CtlCaps l → x ∈ l → x.th.l.length ≤ 4398046511104 ∧ x.el.l.length ≤ 4398046511104 ∧ CtlCaps x.th.l ∧ CtlCaps x.el.l
  | _ :: l, .cons h1 h2 h3 h4 h5, hm => by
    rcases List.mem_cons.1 hm with rfl | hm
    · exact ⟨h1, h2, h3, h4⟩
    · exact h5.mem hm
/-- the loop of the count -/
def goN (f : CtlD → Nat) : List CtlD → Nat → Nat
  | [], n => n
  | x :: l, n => if 100 ≤ n then n else if 40 < x.cond.l.length then 100 else goN f l (n + f x)
def nodesM : Nat → List CtlD → Nat
  | 0, l => if l.length = 0 ∨ 100 ≤ l.length then l.length else 100
  | d + 1, l => goN (fun x => nodesM d x.th.l + nodesM d x.el.l) l l.length
theorem goN_le {f : CtlD → Nat} {B : Nat} : ∀ {l : List CtlD} {n : Nat}, (∀ x ∈ l, f x ≤ B) → 100 ≤ B → n ≤ 100 + B ∨ n ≤ 4398046511104 → goN f l n ≤ B + 4398046511204
  | [], n, _, _, hn => by rw [goN]; omega
  | x :: l, n, hf, hB, hn => by
    rw [goN]
    by_cases h1 : 100 ≤ n
    · rw [if_pos h1]; omega
    · rw [if_neg h1]
      by_cases h2 : 40 < x.cond.l.length
      · rw [if_pos h2]; omega
      · rw [if_neg h2]
        have h3 := hf x (List.mem_cons_self ..)
        exact goN_le (fun y hy => hf y (List.mem_cons_of_mem _ hy)) hB (.inl (by omega))
theorem nodes_le : ∀ (d : Nat) (l : List CtlD), l.length ≤ 4398046511104 → CtlCaps l → nodesM d l + 4398046511304 ≤ 2 ^ (d + 1) * 4398046511304
  | 0, l, h, _ => by rw [nodesM]; split <;> omega
  | d + 1, l, h, hc => by
    rw [nodesM]
    have h1 : ∀ x ∈ l, nodesM d x.th.l + nodesM d x.el.l + 2 * 4398046511304 ≤ 2 ^ (d + 2) * 4398046511304 := by
      intro x hx
      obtain ⟨a, b, c, e⟩ := hc.mem hx
      have := nodes_le d x.th.l a c
      have := nodes_le d x.el.l b e
      have : 2 ^ (d + 2) = 2 * 2 ^ (d + 1) := by rw [Nat.pow_succ _ (d + 1), Nat.mul_comm]
      rw [this, Nat.mul_assoc]
      omega
    have hp : 2 ^ 2 ≤ 2 ^ (d + 2) := Nat.pow_le_pow_right (by decide) (by omega)
    have h2 := goN_le (f := fun x => nodesM d x.th.l + nodesM d x.el.l) (B := 2 ^ (d + 2) * 4398046511304 - 2 * 4398046511304) (l := l) (n := l.length) (fun x hx => by have := h1 x hx; omega) (by omega) (.inr h)
    show _ ≤ 2 ^ (d + 2) * 4398046511304
    omega
theorem nodes_top (d : Nat) (hd : d ≤ 10) (l : List CtlD) (h : l.length ≤ 4398046511104) (hc : CtlCaps l) : nodesM d l ≤ 10000000000000000 := by
  have h1 := nodes_le d l h hc
  have : 2 ^ (d + 1) ≤ 2 ^ 11 := Nat.pow_le_pow_right (by decide) (by omega)
  have : 2 ^ (d + 1) * 4398046511304 ≤ 2 ^ 11 * 4398046511304 := Nat.mul_le_mul_right _ this
  omega
/-- a small count counts all, and no condition is long -/
theorem goN_small {f : CtlD → Nat} : ∀ {l : List CtlD} {n : Nat}, goN f l n ≤ 60 → n ≤ 60 ∧ (l.map f).sum + n = goN f l n ∧ ∀ x ∈ l, x.cond.l.length ≤ 40
  | [], n, h => by simp [goN] at h ⊢; exact h
  | x :: l, n, h => by
    rw [goN] at h ⊢
    by_cases h1 : 100 ≤ n
    · rw [if_pos h1] at h; omega
    · rw [if_neg h1] at h ⊢
      by_cases h2 : 40 < x.cond.l.length
      · rw [if_pos h2] at h; omega
      · rw [if_neg h2] at h ⊢
        obtain ⟨a, b, c⟩ := goN_small h
        refine ⟨by omega, by rw [← b, List.map_cons, List.sum_cons]; omega, fun y hy => ?_⟩
        rcases List.mem_cons.1 hy with rfl | hy
        · omega
        · exact c y hy
theorem pres_sum : ∀ (l : List CtlD), (presM l).length = (l.map fun x => (preM x).length).sum
  | [] => rfl
  | x :: l => by rw [presM, List.length_append, pres_sum l]; rfl
theorem sum_le {f g : CtlD → Nat} : ∀ {l : List CtlD}, (∀ x ∈ l, f x ≤ g x) → (l.map f).sum ≤ (l.map g).sum
  | [], _ => Nat.le_refl _
  | x :: l, h => by
    simp only [List.map_cons, List.sum_cons]
    have := h x (List.mem_cons_self ..)
    have := sum_le (l := l) fun y hy => h y (List.mem_cons_of_mem _ hy)
    omega
theorem sum_mem {f : CtlD → Nat} : ∀ {l : List CtlD} {x : CtlD}, x ∈ l → f x ≤ (l.map f).sum
  | y :: l, x, h => by
    simp only [List.map_cons, List.sum_cons]
    rcases List.mem_cons.1 h with rfl | h
    · omega
    · have := sum_mem (f := f) h; omega
theorem sum_succ {f : CtlD → Nat} : ∀ {l : List CtlD}, (l.map fun x => 1 + f x).sum = (l.map f).sum + l.length
  | [] => rfl
  | x :: l => by simp only [List.map_cons, List.sum_cons, List.length_cons, sum_succ (l := l)]; omega
theorem nodes_small : ∀ (d : Nat) (l : List CtlD), nodesM d l ≤ 60 → (presM l).length ≤ nodesM d l ∧ ∀ x ∈ presM l, x.cond.l.length ≤ 40
  | 0, l, h => by
    rw [nodesM] at h ⊢
    split at h
    · have : l = [] := List.eq_nil_of_length_eq_zero (by omega)
      subst this
      simp [presM]
    · omega
  | d + 1, l, h => by
    rw [nodesM] at h ⊢
    obtain ⟨a, b, c⟩ := goN_small h
    have hx : ∀ x ∈ l, nodesM d x.th.l ≤ 60 ∧ nodesM d x.el.l ≤ 60 := by
      intro x hx
      have := sum_mem (f := fun x => nodesM d x.th.l + nodesM d x.el.l) hx
      omega
    constructor
    · rw [← b, pres_sum, ← sum_succ]
      refine sum_le fun x hm => ?_
      have h1 := nodes_small d x.th.l (hx x hm).1
      have h2 := nodes_small d x.el.l (hx x hm).2
      rw [preM_eq, List.length_cons, List.length_append]
      omega
    · intro y hy
      have hg : ∀ (l2 : List CtlD), (∀ x ∈ l2, x ∈ l) → y ∈ presM l2 → y.cond.l.length ≤ 40 := by
        intro l2
        induction l2 with
        | nil => intro _ h; simp [presM] at h
        | cons x l2 ih =>
          intro hs hy
          rw [presM, List.mem_append, preM_eq] at hy
          have hxm := hs x (List.mem_cons_self ..)
          rcases hy with hy | hy
          · rcases List.mem_cons.1 hy with rfl | hy
            · exact c _ hxm
            · rcases List.mem_append.1 hy with hy | hy
              · exact (nodes_small d x.th.l (hx x hxm).1).2 y hy
              · exact (nodes_small d x.el.l (hx x hxm).2).2 y hy
          · exact ih (fun z hz => hs z (List.mem_cons_of_mem _ hz)) hy
      exact hg l (fun _ h => h) hy

set_option maxRecDepth 100000 in
set_option maxHeartbeats 8000000 in
theorem nodes_any : ∀ (d : Nat) (D : Int) (c : L CtlD) (w : World), D = d → d ≤ 10 → c.l.length ≤ 4398046511104 → CtlCaps c.l → LOk w 5 CtlD.cells c → CtlsOk w c.l →
    Calls Tryz.prog 29 #[.slice c.A c.l.length c.c, .int .i64 D] w fun e w' => e = .returned (.int .i64 (nodesM d c.l : Int)) ∧ Below w.heap.size w w'
  | 0, D, ⟨cl, cA, cc⟩, w, hD, _, hl, _, hc, _ => by
    have hd0 : D = 0 := by omega
    subst hd0
    simp only at hl ⊢
    clear hD
    by_cases h0 : cl.length = 0
    · have HE : Hid (nodesM 0 cl = 0) := Lib.hid (by rw [nodesM, if_pos (.inl h0)]; exact h0)
      have h2 : ¬ ((0 : Int) < (cl.length : Int)) := by omega
      have h3 : (cl.length : Int) = 0 := by omega
      clear hc h0
      go_enter Tryz.func29, Tryz.ntmps29
      go_wp2
      refine wp_loop_rounds 1 ?_
      rw [rounds_succ]
      go_wp2
      go_ret
      exact ⟨by rw [HE.out]; rfl, Below.refl _ _⟩
    have h2 : ((0 : Int) < (cl.length : Int)) := by omega
    by_cases h1 : 100 ≤ cl.length
    · have HE : Hid (nodesM 0 cl = cl.length) := Lib.hid (by rw [nodesM, if_pos (.inr h1)])
      have h3 : ¬ ((cl.length : Int) < 100) := by omega
      clear hc h0 h1
      go_enter Tryz.func29, Tryz.ntmps29
      go_wp2
      refine wp_loop_rounds 1 ?_
      rw [rounds_succ]
      go_wp2
      go_ret
      exact ⟨by rw [HE.out]; rfl, Below.refl _ _⟩
    · have HE : Hid (nodesM 0 cl = 100) := Lib.hid (by rw [nodesM, if_neg (by omega)])
      have h3 : ((cl.length : Int) < 100) := by omega
      clear hc h0 h1
      go_enter Tryz.func29, Tryz.ntmps29
      go_wp2
      refine wp_loop_rounds 1 ?_
      rw [rounds_succ]
      go_wp2
      go_ret
      exact ⟨by rw [HE.out]; rfl, Below.refl _ _⟩
  | d + 1, D, ⟨cl, cA, cc⟩, w, hD, hd, hl, hcap, hc, hcs => by
    have IH := Lib.hid (nodes_any d)
    have HC := Lib.hid hc
    have HCS := Lib.hid hcs
    have HCap := Lib.hid hcap
    have HD := Lib.hid (show IntKind.i64.wrap (D - 1) = (d : Int) by rw [IntWalk.i64_in _ (by omega)]; omega)
    have HDle := Lib.hid (show d ≤ 10 by omega)
    have hD1 : 1 ≤ D := by omega
    have hD2 : D ≤ 10 := by omega
    have hDb : (D == 0) = false := by rw [beq_eq_false_iff_ne]; omega
    simp only at hl HCS HCap ⊢
    obtain ⟨f, hf⟩ : ∃ f : CtlD → Nat, f = fun x => nodesM d x.th.l + nodesM d x.el.l := ⟨_, rfl⟩
    have HF := Lib.hid hf
    have HE : Hid (goN f cl cl.length = nodesM (d + 1) cl) := Lib.hid (by rw [hf]; rfl)
    clear hc hcs hcap hD hd hf
    generalize nodesM (d + 1) cl = R at *
    go_enter Tryz.func29, Tryz.ntmps29
    go_wp2
    go_loopw [5, 6] (fun nv iv wr => ∃ k n : Nat, k ≤ cl.length ∧ iv = .int .i64 k ∧ nv = .int .i64 n ∧ n ≤ 30000000000000000 ∧ Hid (goN f (cl.drop k) n = R) ∧ Below w.heap.size w wr) (fun _ i _ => cl.length - (intOf i).toNat)
    case atStart => exact ⟨0, cl.length, Nat.zero_le _, rfl, rfl, by omega, HE, Below.refl _ _⟩
    case round =>
      obtain ⟨k, n, hk, rfl, rfl, hn, HG, HB⟩ := hrel
      by_cases hlt : k < cl.length
      · by_cases hn1 : n < 100
        · obtain ⟨g0, of0, hA, hall⟩ := CtlD.atA (HC.out.below HB (Nat.le_refl _)) hlt
          simp only at hA
          subst hA
          have HX : Hid (CtlOk w cl[k]) := Lib.hid (ctls_mem HCS.out (List.getElem_mem hlt))
          have HXc := Lib.hid (HCap.out.mem (List.getElem_mem hlt))
          have HS : Hid (goN f (cl.drop k) n = if 40 < cl[k].cond.l.length then 100 else goN f (cl.drop (k + 1)) (n + f cl[k])) := Lib.hid (by
            rw [List.drop_eq_getElem_cons hlt, goN, if_neg (by omega)])
          have HTop : Hid (nodesM d cl[k].th.l ≤ 10000000000000000 ∧ nodesM d cl[k].el.l ≤ 10000000000000000) := Lib.hid ⟨nodes_top d HDle.out _ HXc.out.1 HXc.out.2.2.1, nodes_top d HDle.out _ HXc.out.2.1 HXc.out.2.2.2⟩
          have HFx : Hid (f cl[k] = nodesM d cl[k].th.l + nodesM d cl[k].el.l) := Lib.hid (by rw [HF.out])
          generalize cl[k] = x at *
          have HXt : Hid (LOk w 5 CtlD.cells x.th ∧ CtlsOk w x.th.l) := Lib.hid ⟨(ctl_parts HX.out).2.1, (ctl_parts HX.out).2.2.2.1⟩
          have HXe : Hid (LOk w 5 CtlD.cells x.el ∧ CtlsOk w x.el.l) := Lib.hid ⟨(ctl_parts HX.out).2.2.1, (ctl_parts HX.out).2.2.2.2⟩
          clear HX
          have hh := hall wr (Below.refl _ _)
          obtain ⟨_, _, d2, _, _⟩ := hh
          by_cases h40 : 40 < x.cond.l.length
          · have h40' : (40 : Int) < (x.cond.l.length : Int) := by omega
            have HR := Lib.hid ((HS.out.trans (if_pos h40)).symm.trans HG.out)
            clear hall h40
            go_wp2
            go_ret
            exact ⟨by rw [← HR.out]; rfl, HB⟩
          have h40' : ¬ (40 : Int) < (x.cond.l.length : Int) := by omega
          have HR := Lib.hid ((HS.out.trans (if_neg h40)).symm.trans HG.out)
          rw [HFx.out] at HR
          have hb3 : ∀ w', Below wr.heap.size wr w' → w'.cell? ⟨g0, of0 + k * 5 + 3, none⟩ = some (.slice x.th.A x.th.l.length x.th.c) ∧ w'.cell? ⟨g0, of0 + k * 5 + 4, none⟩ = some (.slice x.el.A x.el.l.length x.el.c) :=
            fun w' h => ⟨(hall w' h).2.2.2.1, (hall w' h).2.2.2.2⟩
          clear hall h40 HFx
          generalize x.cond = xcd at *
          generalize x.th = xt at *
          generalize x.el = xe at *
          obtain ⟨tl, tA, tc⟩ := xt
          obtain ⟨el, eA, ec⟩ := xe
          simp only at hb3 HXt HXe HXc HTop HR
          have HCt : Hid (∀ w', Below wr.heap.size wr w' → Calls Tryz.prog 29 #[.slice tA tl.length tc, .int .i64 (IntKind.i64.wrap (D - 1))] w' fun e w2 => e = .returned (.int .i64 (nodesM d tl : Int)) ∧ Below w'.heap.size w' w2) :=
            Lib.hid (fun w' h => IH.out (IntKind.i64.wrap (D - 1)) ⟨tl, tA, tc⟩ w' HD.out HDle.out HXc.out.1 HXc.out.2.2.1 (HXt.out.1.below (below_step HB h) (Nat.le_refl _)) (CtlsOk.below (below_step HB h) HXt.out.2))
          have HCe : Hid (∀ w', Below wr.heap.size wr w' → Calls Tryz.prog 29 #[.slice eA el.length ec, .int .i64 (IntKind.i64.wrap (D - 1))] w' fun e w2 => e = .returned (.int .i64 (nodesM d el : Int)) ∧ Below w'.heap.size w' w2) :=
            Lib.hid (fun w' h => IH.out (IntKind.i64.wrap (D - 1)) ⟨el, eA, ec⟩ w' HD.out HDle.out HXc.out.2.1 HXc.out.2.2.2 (HXe.out.1.below (below_step HB h) (Nat.le_refl _)) (CtlsOk.below (below_step HB h) HXe.out.2))
          have t1 := HTop.out.1
          have t2 := HTop.out.2
          generalize nodesM d tl = a at *
          generalize nodesM d el = b at *
          have H0 := Lib.hid (Below.refl wr.heap.size wr)
          have HBw := Lib.hid HB
          clear HB HXt HXe HXc HTop
          go_upto_region 7 with fail
          clear d2
          go_region_held3 (fun w' => Below wr.heap.size wr w') (first | exact H0.out | exact below_drew H0.out | (exact below_step (by assumption) (by assumption)) | assumption)
            (first | (go_at_call 29; with_reducible (refine (HCt.out _ (by assumption)).mono ?_); rintro e w1 ⟨rfl, hb1⟩)
                   | (go_at_call 29; with_reducible (refine (HCe.out _ (by assumption)).mono ?_); rintro e w1 ⟨rfl, hb1⟩))
          have HB5 : Hid (Below wr.heap.size wr _) := Lib.hid (by assumption)
          go_wp2
          go_roundw
          case rel => exact ⟨k + 1, n + (a + b), by omega, by go_num, by (rw [IntWalk.i64_in ((n : Int) + (a : Int)) (by omega), IntWalk.i64_in ((n : Int) + (a : Int) + (b : Int)) (by omega)]; congr 1; omega), by omega, HR, below_step HBw.out HB5.out⟩
          case measure => simp [intOf]; omega
        · have HR : Hid (R = n) := Lib.hid (by rw [← HG.out, List.drop_eq_getElem_cons hlt, goN, if_pos (by omega)])
          have hn2 : ¬ ((n : Int) < 100) := by omega
          clear hn1
          go_wp2
          go_ret
          exact ⟨by rw [HR.out]; rfl, HB⟩
      · have HR : Hid (R = n) := Lib.hid (by rw [← HG.out, List.drop_eq_nil_of_le (by omega), goN])
        go_wp2
        go_ret
        exact ⟨by rw [HR.out]; rfl, HB⟩
end Go.Proofs.YtgfbikknkcaneaaGreat
namespace Go.Proofs.YtgfbikknkcaneaaGreat
open Go.RowKit

/-- a call tells a truth value of which Q holds -/
def Tells (e : Ending) (Q : Bool → Prop) : Prop := ∃ b, e = .returned (.bool b) ∧ Q b
structure SmallH (h : HeaderD) : Prop where
  name : h.name.size ≤ 30
  len : h.fields.l.length ≤ 20
  names : ∀ f ∈ h.fields.l, f.name.size ≤ 30
theorem take_all {α : Type} {l : List α} {k : Nat} {Q : α → Prop} (hk : k < l.length) (h : ∀ x ∈ l.take k, Q x) (hx : Q l[k]) : ∀ x ∈ l.take (k + 1), Q x := by
  intro x hm
  rw [List.take_succ_eq_append_getElem hk, List.mem_append] at hm
  rcases hm with hm | hm
  · exact h x hm
  · rw [List.mem_singleton] at hm; subst hm; exact hx
set_option maxRecDepth 100000 in
set_option maxHeartbeats 2000000 in
theorem small_any (h : HeaderD) (w : World) (o : LOk w 2 FieldD.cells h.fields) :
    Calls Tryz.prog 26 #[.agg #[.string h.name, .slice h.fields.A h.fields.l.length h.fields.c]] w fun e w' => Tells e (fun b => b = true → SmallH h) ∧ Below w.heap.size w w' := by
  obtain ⟨nm, ⟨l, A0, c0⟩⟩ := h
  simp only
  obtain ⟨W, hW, hw, HB, hp⟩ := box1 w #[.string nm, .slice A0 l.length c0] 61
  have HW := Lib.hid hw
  have HX := Lib.hid (o.below hw (Nat.le_refl _))
  clear o hw
  by_cases h1 : 30 < nm.size
  · have h1' : (30 : Int) < (nm.size : Int) := by omega
    go_enter Tryz.func26, Tryz.ntmps26
    go_upto_region 1 with fail
    rw [← hW]
    clear hW
    go_wp2
    go_ret
    exact ⟨⟨false, rfl, (by intro h; cases h)⟩, below_step HW.out HB⟩
  have h1' : ¬ (30 : Int) < (nm.size : Int) := by omega
  by_cases h2 : 20 < l.length
  · have h2' : (20 : Int) < (l.length : Int) := by omega
    go_enter Tryz.func26, Tryz.ntmps26
    go_upto_region 1 with fail
    rw [← hW]
    clear hW
    go_wp2
    go_ret
    exact ⟨⟨false, rfl, (by intro h; cases h)⟩, below_step HW.out HB⟩
  have h2' : ¬ (20 : Int) < (l.length : Int) := by omega
  have HS := Lib.hid (And.intro h1 h2)
  clear h1 h2
  go_enter Tryz.func26, Tryz.ntmps26
  go_upto_region 1 with fail
  rw [← hW]
  clear hW
  go_wp2
  have HB0 := Lib.hid HB
  clear HB
  go_loopw [3] (fun iv wr => ∃ k : Nat, k ≤ l.length ∧ iv = .int .i64 k ∧ (∀ f ∈ l.take k, f.name.size ≤ 30) ∧ Below W.heap.size W wr) (fun i _ => l.length - (intOf i).toNat)
  case atStart => exact ⟨0, Nat.zero_le _, rfl, fun f h => by simp at h, HB0.out⟩
  case round =>
    obtain ⟨k, hk, rfl, hpre, HB⟩ := hrel
    have HPre := Lib.hid hpre
    clear hpre
    have hp1 := hp wr HB
    by_cases hlt : k < l.length
    · obtain ⟨g, of, hA, d0, d1⟩ := FieldD.at (HX.out.below HB (Nat.le_refl _)) hlt
      simp only at hA d0 d1
      subst hA
      have HT : Hid (l[k].name.size ≤ 30 → ∀ f ∈ l.take (k + 1), f.name.size ≤ 30) := Lib.hid (fun h => take_all hlt HPre.out h)
      generalize l[k] = y at *
      by_cases h3 : 30 < y.name.size
      · have h3' : (30 : Int) < (y.name.size : Int) := by omega
        clear h3
        go_wp2
        go_ret
        exact ⟨⟨false, rfl, (by intro h; cases h)⟩, below_step HW.out HB⟩
      have h3' : ¬ (30 : Int) < (y.name.size : Int) := by omega
      have HT2 := Lib.hid (HT.out (by omega))
      clear h3
      go_wp2
      go_roundw
      case rel => exact ⟨k + 1, by omega, by go_num, HT2.out, HB⟩
      case measure => simp [intOf]; omega
    · go_wp2
      go_ret
      exact ⟨⟨true, rfl, fun _ => ⟨by have := HS.out.1; simp only; omega, by have := HS.out.2; simp only; omega, fun f hf => HPre.out f (by rw [List.take_of_length_le (by omega)]; exact hf)⟩⟩, below_step HW.out HB⟩

structure SmallA (a : ActD) : Prop where
  name : a.name.size ≤ 60
  params : a.params.l.length ≤ 8
  body : a.body.l.length ≤ 16
  stmts : ∀ s ∈ a.body.l, s.index.l.length ≤ 40 ∧ s.value.l.length ≤ 40
set_option maxRecDepth 100000 in
set_option maxHeartbeats 2000000 in
theorem largeAction_any (a : ActD) (w : World) (o : LOk w 7 StmtD.cells a.body) :
    Calls Tryz.prog 30 #[.agg #[.string a.name, .slice a.params.A a.params.l.length a.params.c, .slice a.body.A a.body.l.length a.body.c]] w fun e w' => Tells e (fun b => b = false → SmallA a) ∧ Below w.heap.size w w' := by
  obtain ⟨nm, ⟨pl, pA, pc⟩, ⟨l, A0, c0⟩⟩ := a
  simp only
  obtain ⟨W, hW, hw, HB, hp⟩ := box1 w #[.string nm, .slice pA pl.length pc, .slice A0 l.length c0] 68
  have HW := Lib.hid hw
  have HX := Lib.hid (o.below hw (Nat.le_refl _))
  clear o hw
  by_cases h0 : 8 < pl.length
  · have h1' : (8 : Int) < (pl.length : Int) := by omega
    go_enter Tryz.func30, Tryz.ntmps30
    go_upto_region 1 with fail
    rw [← hW]
    clear hW
    go_wp2
    go_ret
    exact ⟨⟨true, rfl, (by intro h; cases h)⟩, below_step HW.out HB⟩
  have h0' : ¬ (8 : Int) < (pl.length : Int) := by omega
  by_cases h1 : 16 < l.length
  · have h1' : (16 : Int) < (l.length : Int) := by omega
    go_enter Tryz.func30, Tryz.ntmps30
    go_upto_region 1 with fail
    rw [← hW]
    clear hW
    go_wp2
    go_ret
    exact ⟨⟨true, rfl, (by intro h; cases h)⟩, below_step HW.out HB⟩
  have h1' : ¬ (16 : Int) < (l.length : Int) := by omega
  by_cases h2 : 60 < nm.size
  · have h2' : (60 : Int) < (nm.size : Int) := by omega
    go_enter Tryz.func30, Tryz.ntmps30
    go_upto_region 1 with fail
    rw [← hW]
    clear hW
    go_wp2
    go_ret
    exact ⟨⟨true, rfl, (by intro h; cases h)⟩, below_step HW.out HB⟩
  have h2' : ¬ (60 : Int) < (nm.size : Int) := by omega
  have HS := Lib.hid (And.intro h0 (And.intro h1 h2))
  clear h0 h1 h2
  go_enter Tryz.func30, Tryz.ntmps30
  go_upto_region 1 with fail
  rw [← hW]
  clear hW
  go_wp2
  have HB0 := Lib.hid HB
  clear HB
  go_loopw [3] (fun iv wr => ∃ k : Nat, k ≤ l.length ∧ iv = .int .i64 k ∧ (∀ s ∈ l.take k, s.index.l.length ≤ 40 ∧ s.value.l.length ≤ 40) ∧ Below W.heap.size W wr) (fun i _ => l.length - (intOf i).toNat)
  case atStart => exact ⟨0, Nat.zero_le _, rfl, fun f h => by simp at h, HB0.out⟩
  case round =>
    obtain ⟨k, hk, rfl, hpre, HB⟩ := hrel
    have HPre := Lib.hid hpre
    clear hpre
    have hp1 := hp wr HB
    by_cases hlt : k < l.length
    · obtain ⟨g, of, hA, d0, d1, d2, d3, d4, d5, d6⟩ := StmtD.at (HX.out.below HB (Nat.le_refl _)) hlt
      simp only at hA d0 d1 d2 d3 d4 d5 d6
      subst hA
      have HT : Hid (l[k].index.l.length ≤ 40 ∧ l[k].value.l.length ≤ 40 → ∀ s ∈ l.take (k + 1), s.index.l.length ≤ 40 ∧ s.value.l.length ≤ 40) := Lib.hid (fun h => take_all hlt HPre.out h)
      generalize l[k] = y at *
      by_cases h3 : 40 < y.index.l.length
      · have h3' : (40 : Int) < (y.index.l.length : Int) := by omega
        clear h3
        go_wp2
        go_ret
        exact ⟨⟨true, rfl, (by intro h; cases h)⟩, below_step HW.out HB⟩
      have h3' : ¬ (40 : Int) < (y.index.l.length : Int) := by omega
      by_cases h4 : 40 < y.value.l.length
      · have h4' : (40 : Int) < (y.value.l.length : Int) := by omega
        clear h3 h4
        go_wp2
        go_ret
        exact ⟨⟨true, rfl, (by intro h; cases h)⟩, below_step HW.out HB⟩
      have h4' : ¬ (40 : Int) < (y.value.l.length : Int) := by omega
      have HT2 := Lib.hid (HT.out ⟨by omega, by omega⟩)
      clear h3 h4
      go_wp2
      go_roundw
      case rel => exact ⟨k + 1, by omega, by go_num, HT2.out, HB⟩
      case measure => simp [intOf]; omega
    · go_wp2
      go_ret
      exact ⟨⟨false, rfl, fun _ => ⟨by have := HS.out.2.2; simp only; omega, by have := HS.out.1; simp only; omega, by have := HS.out.2.1; simp only; omega, fun f hf => HPre.out f (by rw [List.take_of_length_le (by omega)]; exact hf)⟩⟩, below_step HW.out HB⟩

structure SmallS (s : StateD) : Prop where
  name : s.name.size ≤ 60
  extract : s.extract.l.length ≤ 8
  cases : s.cases.l.length ≤ 12
set_option maxRecDepth 100000 in
set_option maxHeartbeats 2000000 in
theorem largeState_any (s : StateD) (w : World) :
    Calls Tryz.prog 31 #[.agg #[.string s.name, .slice s.extract.A s.extract.l.length s.extract.c, .bool s.sel, .int .i64 s.oh, .int .i64 s.of, .slice s.cases.A s.cases.l.length s.cases.c, .int .i64 s.dflt]] w fun e w' => Tells e (fun b => b = false → SmallS s) ∧ Below w.heap.size w w' := by
  obtain ⟨nm, ⟨pl, pA, pc⟩, sl, oh, of, ⟨l, A0, c0⟩, df⟩ := s
  simp only
  obtain ⟨W, hW, hw, HB, hp⟩ := box1 w #[.string nm, .slice pA pl.length pc, .bool sl, .int .i64 oh, .int .i64 of, .slice A0 l.length c0, .int .i64 df] 73
  have HW := Lib.hid hw
  clear hw
  by_cases h0 : 8 < pl.length
  · have h1' : (8 : Int) < (pl.length : Int) := by omega
    go_enter Tryz.func31, Tryz.ntmps31
    go_upto_region 1 with fail
    rw [← hW]
    clear hW
    go_wp2
    go_ret
    exact ⟨⟨true, rfl, (by intro h; cases h)⟩, below_step HW.out HB⟩
  have h0' : ¬ (8 : Int) < (pl.length : Int) := by omega
  by_cases h1 : 12 < l.length
  · have h1' : (12 : Int) < (l.length : Int) := by omega
    go_enter Tryz.func31, Tryz.ntmps31
    go_upto_region 1 with fail
    rw [← hW]
    clear hW
    go_wp2
    go_ret
    exact ⟨⟨true, rfl, (by intro h; cases h)⟩, below_step HW.out HB⟩
  have h1' : ¬ (12 : Int) < (l.length : Int) := by omega
  by_cases h2 : 60 < nm.size
  · have h2' : (60 : Int) < (nm.size : Int) := by omega
    go_enter Tryz.func31, Tryz.ntmps31
    go_upto_region 1 with fail
    rw [← hW]
    clear hW
    go_wp2
    go_ret
    exact ⟨⟨true, rfl, (by intro h; cases h)⟩, below_step HW.out HB⟩
  have h2' : ¬ (60 : Int) < (nm.size : Int) := by omega
  have HS := Lib.hid (And.intro h0 (And.intro h1 h2))
  clear h0 h1 h2
  go_enter Tryz.func31, Tryz.ntmps31
  go_upto_region 1 with fail
  rw [← hW]
  clear hW
  go_wp2
  go_ret
  exact ⟨⟨false, rfl, fun _ => ⟨by have := HS.out.2.2; simp only; omega, by have := HS.out.1; simp only; omega, by have := HS.out.2.1; simp only; omega⟩⟩, below_step HW.out HB⟩
end Go.Proofs.YtgfbikknkcaneaaGreat
namespace Go.Proofs.YtgfbikknkcaneaaGreat
open Go.RowKit

structure SmallT (t : TabD) : Prop where
  name : t.name.size ≤ 60
  keys : t.keys.l.length ≤ 10
  acts : t.acts.l.length ≤ 24
  args : t.args.l.length ≤ 8
/-- a program that is not too large -/
structure SmallP (p : ProgD) : Prop where
  name : p.name.size ≤ 60
  headers : p.headers.l.length ≤ 16
  metadata : p.metadata.l.length ≤ 20
  registers : p.registers.l.length ≤ 8
  actions : p.actions.l.length ≤ 24
  tables : p.tables.l.length ≤ 16
  states : p.states.l.length ≤ 16
  deparser : p.deparser.l.length ≤ 16
  nodes : (presM p.control.l).length ≤ 60
  conds : ∀ x ∈ presM p.control.l, x.cond.l.length ≤ 40
  hdr : ∀ h ∈ p.headers.l, SmallH h
  act : ∀ a ∈ p.actions.l, SmallA a
  tab : ∀ t ∈ p.tables.l, SmallT t
  state : ∀ s ∈ p.states.l, SmallS s
theorem SmallP.short {p : ProgD} (h : SmallP p) : Short p :=
  ⟨Nat.le_trans h.headers (by decide), Nat.le_trans h.metadata (by decide), Nat.le_trans h.registers (by decide), Nat.le_trans h.actions (by decide), Nat.le_trans h.tables (by decide), Nat.le_trans h.states (by decide)⟩

set_option maxRecDepth 100000 in
set_option maxHeartbeats 16000000 in
theorem tooLarge_any (p : ProgD) (w : World) (o : ProgOk w p) (hl : p.control.l.length ≤ 4398046511104) (hcap : CtlCaps p.control.l) :
    Calls Tryz.prog 11 #[.agg (progCells p)] w fun e w' => Tells e (fun b => b = false → SmallP p) ∧ Below w.heap.size w w' := by
  obtain ⟨nm, ⟨hl0, hA0, hc0⟩, ⟨ml0, mA0, mc0⟩, ⟨rl0, rA0, rc0⟩, ⟨al0, aA0, ac0⟩, ⟨tl0, tA0, tc0⟩, ⟨sl0, sA0, sc0⟩, ⟨cl0, cA0, cc0⟩, ⟨dl0, dA0, dc0⟩⟩ := p
  simp only [progCells] at *
  obtain ⟨W, hW, hw, HB, hp⟩ := box1 w #[.string nm, .slice hA0 hl0.length hc0, .slice mA0 ml0.length mc0, .slice rA0 rl0.length rc0, .slice aA0 al0.length ac0, .slice tA0 tl0.length tc0, .slice sA0 sl0.length sc0, .slice cA0 cl0.length cc0, .slice dA0 dl0.length dc0] 31
  have HW := Lib.hid hw
  have HO := Lib.hid (o.below hw)
  have HCap := Lib.hid hcap
  clear o hw hcap
  by_cases g0 : 60 < nm.size
  · have g0' : (60 : Int) < (nm.size : Int) := by omega
    clear g0
    go_enter Tryz.func11, Tryz.ntmps11
    go_upto_region 1 with fail
    rw [← hW]
    clear hW
    go_wp2
    go_ret
    exact ⟨⟨true, rfl, (by intro h; cases h)⟩, below_step HW.out HB⟩
  have g0' : ¬ (60 : Int) < (nm.size : Int) := by omega
  by_cases g1 : 16 < hl0.length
  · have g1' : (16 : Int) < (hl0.length : Int) := by omega
    clear g0 g1
    go_enter Tryz.func11, Tryz.ntmps11
    go_upto_region 1 with fail
    rw [← hW]
    clear hW
    go_wp2
    go_ret
    exact ⟨⟨true, rfl, (by intro h; cases h)⟩, below_step HW.out HB⟩
  have g1' : ¬ (16 : Int) < (hl0.length : Int) := by omega
  by_cases g2 : 20 < ml0.length
  · have g2' : (20 : Int) < (ml0.length : Int) := by omega
    clear g0 g1 g2
    go_enter Tryz.func11, Tryz.ntmps11
    go_upto_region 1 with fail
    rw [← hW]
    clear hW
    go_wp2
    go_ret
    exact ⟨⟨true, rfl, (by intro h; cases h)⟩, below_step HW.out HB⟩
  have g2' : ¬ (20 : Int) < (ml0.length : Int) := by omega
  by_cases g3 : 8 < rl0.length
  · have g3' : (8 : Int) < (rl0.length : Int) := by omega
    clear g0 g1 g2 g3
    go_enter Tryz.func11, Tryz.ntmps11
    go_upto_region 1 with fail
    rw [← hW]
    clear hW
    go_wp2
    go_ret
    exact ⟨⟨true, rfl, (by intro h; cases h)⟩, below_step HW.out HB⟩
  have g3' : ¬ (8 : Int) < (rl0.length : Int) := by omega
  by_cases g4 : 24 < al0.length
  · have g4' : (24 : Int) < (al0.length : Int) := by omega
    clear g0 g1 g2 g3 g4
    go_enter Tryz.func11, Tryz.ntmps11
    go_upto_region 1 with fail
    rw [← hW]
    clear hW
    go_wp2
    go_ret
    exact ⟨⟨true, rfl, (by intro h; cases h)⟩, below_step HW.out HB⟩
  have g4' : ¬ (24 : Int) < (al0.length : Int) := by omega
  by_cases g5 : 16 < tl0.length
  · have g5' : (16 : Int) < (tl0.length : Int) := by omega
    clear g0 g1 g2 g3 g4 g5
    go_enter Tryz.func11, Tryz.ntmps11
    go_upto_region 1 with fail
    rw [← hW]
    clear hW
    go_wp2
    go_ret
    exact ⟨⟨true, rfl, (by intro h; cases h)⟩, below_step HW.out HB⟩
  have g5' : ¬ (16 : Int) < (tl0.length : Int) := by omega
  by_cases g6 : 16 < sl0.length
  · have g6' : (16 : Int) < (sl0.length : Int) := by omega
    clear g0 g1 g2 g3 g4 g5 g6
    go_enter Tryz.func11, Tryz.ntmps11
    go_upto_region 1 with fail
    rw [← hW]
    clear hW
    go_wp2
    go_ret
    exact ⟨⟨true, rfl, (by intro h; cases h)⟩, below_step HW.out HB⟩
  have g6' : ¬ (16 : Int) < (sl0.length : Int) := by omega
  by_cases g7 : 16 < dl0.length
  · have g7' : (16 : Int) < (dl0.length : Int) := by omega
    clear g0 g1 g2 g3 g4 g5 g6 g7
    go_enter Tryz.func11, Tryz.ntmps11
    go_upto_region 1 with fail
    rw [← hW]
    clear hW
    go_wp2
    go_ret
    exact ⟨⟨true, rfl, (by intro h; cases h)⟩, below_step HW.out HB⟩
  have g7' : ¬ (16 : Int) < (dl0.length : Int) := by omega
  have HS := Lib.hid (show nm.size ≤ 60 ∧ hl0.length ≤ 16 ∧ ml0.length ≤ 20 ∧ rl0.length ≤ 8 ∧ al0.length ≤ 24 ∧ tl0.length ≤ 16 ∧ sl0.length ≤ 16 ∧ dl0.length ≤ 16 by omega)
  clear g0 g1 g2 g3 g4 g5 g6 g7
  go_enter Tryz.func11, Tryz.ntmps11
  go_upto_region 1 with fail
  rw [← hW]
  clear hW
  go_wp2_with fail
  refine (nodes_any 10 10 ⟨cl0, cA0, cc0⟩ _ rfl (Nat.le_refl _) hl HCap.out (HO.out.control.below HB (Nat.le_refl _)) (CtlsOk.below HB HO.out.ctl)).mono ?_
  rintro e w1 ⟨rfl, hbN⟩
  replace HB := below_step (by first | exact HB | exact below_alloc HB _ | exact below_alloc (below_alloc HB _) _ | exact below_alloc (below_alloc (below_alloc HB _) _) _) hbN
  clear hbN
  have HN := Lib.hid (nodes_small 10 cl0)
  generalize nodesM 10 cl0 = n at *
  by_cases h60 : 60 < n
  · have h60' : (60 : Int) < (n : Int) := by omega
    clear h60
    go_wp2
    go_ret
    exact ⟨⟨true, rfl, (by intro h; cases h)⟩, below_step HW.out HB⟩
  have h60' : ¬ (60 : Int) < (n : Int) := by omega
  have HNo : Hid ((presM cl0).length ≤ 60 ∧ ∀ x ∈ presM cl0, x.cond.l.length ≤ 40) := Lib.hid ⟨Nat.le_trans (HN.out (by omega)).1 (by omega), (HN.out (by omega)).2⟩
  clear h60 HN
  go_wp2
  have HB0 := Lib.hid HB
  clear HB
  go_loopw [3] (fun iv wr => ∃ k : Nat, k ≤ hl0.length ∧ iv = .int .i64 k ∧ (∀ x ∈ hl0.take k, SmallH x) ∧ Below W.heap.size W wr) (fun i _ => hl0.length - (intOf i).toNat)
  case atStart => exact ⟨0, Nat.zero_le _, rfl, fun f h => by simp at h, HB0.out⟩
  case round =>
  obtain ⟨k0, hk0, rfl, hpre, HB⟩ := hrel
  have HPre0 := Lib.hid hpre
  clear hpre
  by_cases hlt : k0 < hl0.length
  · obtain ⟨g, of, hA, d0, d1⟩ := HeaderD.at (HO.out.headers.below HB (Nat.le_refl _)) hlt
    simp only at hA d0 d1
    subst hA
    have hp0 := hp _ HB
    have HX := Lib.hid (HO.out.hdr _ (List.getElem_mem hlt))
    have HT : Hid (SmallH hl0[k0] → ∀ x ∈ hl0.take (k0 + 1), SmallH x) := Lib.hid (fun h => take_all hlt HPre0.out h)
    generalize hl0[k0] = y at *
    obtain ⟨yn, ⟨yl, yA, yc⟩⟩ := y
    simp only at d0 d1
    go_wp2_with fail
    refine (small_any ⟨yn, ⟨yl, yA, yc⟩⟩ _ (HX.out.fields.below HB (Nat.le_refl _))).mono ?_
    rintro e w2 ⟨⟨b, rfl, hb⟩, hb1⟩
    replace HB := below_step HB hb1
    have HQ := Lib.hid hb
    clear hb hb1
    cases b
    · go_wp2
      go_ret
      exact ⟨⟨true, rfl, (by intro h; cases h)⟩, below_step HW.out HB⟩
    have HT2 := Lib.hid (HT.out (HQ.out rfl))
    go_wp2
    go_roundw
    case rel => exact ⟨k0 + 1, by omega, by go_num, HT2.out, HB⟩
    case measure => simp [intOf]; omega
  have HAll0 : Hid (∀ x ∈ hl0, SmallH x) := Lib.hid (fun x hx => HPre0.out x (by rw [List.take_of_length_le (by omega)]; exact hx))
  have hp0 := hp _ HB
  clear HPre0
  go_wp2
  have HB1 := Lib.hid HB
  clear HB hp0
  go_loopw [4] (fun iv wr => ∃ k : Nat, k ≤ al0.length ∧ iv = .int .i64 k ∧ (∀ x ∈ al0.take k, SmallA x) ∧ Below W.heap.size W wr) (fun i _ => al0.length - (intOf i).toNat)
  case atStart => exact ⟨0, Nat.zero_le _, rfl, fun f h => by simp at h, HB1.out⟩
  case round =>
  obtain ⟨k1, hk1, rfl, hpre, HB⟩ := hrel
  have HPre1 := Lib.hid hpre
  clear hpre
  by_cases hlt : k1 < al0.length
  · obtain ⟨g, of, hA, d0, d1, d2⟩ := ActD.at (HO.out.actions.below HB (Nat.le_refl _)) hlt
    simp only at hA d0 d1 d2
    subst hA
    have hp0 := hp _ HB
    have HX := Lib.hid (HO.out.act _ (List.getElem_mem hlt))
    have HT : Hid (SmallA al0[k1] → ∀ x ∈ al0.take (k1 + 1), SmallA x) := Lib.hid (fun h => take_all hlt HPre1.out h)
    generalize al0[k1] = y at *
    obtain ⟨yn, ⟨yl, yA, yc⟩, ⟨bl, bA, bc⟩⟩ := y
    simp only at d0 d1 d2
    go_wp2_with fail
    refine (largeAction_any ⟨yn, ⟨yl, yA, yc⟩, ⟨bl, bA, bc⟩⟩ _ (HX.out.body.below HB (Nat.le_refl _))).mono ?_
    rintro e w2 ⟨⟨b, rfl, hb⟩, hb1⟩
    replace HB := below_step HB hb1
    have HQ := Lib.hid hb
    clear hb hb1
    cases b
    case true =>
      go_wp2
      go_ret
      exact ⟨⟨true, rfl, (by intro h; cases h)⟩, below_step HW.out HB⟩
    have HT2 := Lib.hid (HT.out (HQ.out rfl))
    go_wp2
    go_roundw
    case rel => exact ⟨k1 + 1, by omega, by go_num, HT2.out, HB⟩
    case measure => simp [intOf]; omega
  have HAll1 : Hid (∀ x ∈ al0, SmallA x) := Lib.hid (fun x hx => HPre1.out x (by rw [List.take_of_length_le (by omega)]; exact hx))
  have hp1 := hp _ HB
  clear HPre1
  go_wp2
  have HB2 := Lib.hid HB
  clear HB hp1
  go_loopw [5] (fun iv wr => ∃ k : Nat, k ≤ tl0.length ∧ iv = .int .i64 k ∧ (∀ x ∈ tl0.take k, SmallT x) ∧ Below W.heap.size W wr) (fun i _ => tl0.length - (intOf i).toNat)
  case atStart => exact ⟨0, Nat.zero_le _, rfl, fun f h => by simp at h, HB2.out⟩
  case round =>
  obtain ⟨k2, hk2, rfl, hpre, HB⟩ := hrel
  have HPre2 := Lib.hid hpre
  clear hpre
  by_cases hlt : k2 < tl0.length
  · obtain ⟨g, of, hA, d0, d1, d2, d3, d4, d5⟩ := TabD.at (HO.out.tables.below HB (Nat.le_refl _)) hlt
    simp only at hA d0 d1 d2 d3 d4 d5
    subst hA
    have hp0 := hp _ HB
    have HX := Lib.hid (HO.out.tab _ (List.getElem_mem hlt))
    have HT : Hid (SmallT tl0[k2] → ∀ x ∈ tl0.take (k2 + 1), SmallT x) := Lib.hid (fun h => take_all hlt HPre2.out h)
    generalize tl0[k2] = y at *
    obtain ⟨yn, ⟨kl, kA, kc⟩, ⟨al, aA, ac⟩, yd, ⟨gl, gA, gc⟩, ys⟩ := y
    simp only at d0 d1 d2 d3 d4 d5
    by_cases g0 : 10 < kl.length
    · have g0' : (10 : Int) < (kl.length : Int) := by omega
      clear g0
      go_wp2
      go_ret
      exact ⟨⟨true, rfl, (by intro h; cases h)⟩, below_step HW.out HB⟩
    have g0' : ¬ (10 : Int) < (kl.length : Int) := by omega
    by_cases g1 : 24 < al.length
    · have g1' : (24 : Int) < (al.length : Int) := by omega
      clear g0 g1
      go_wp2
      go_ret
      exact ⟨⟨true, rfl, (by intro h; cases h)⟩, below_step HW.out HB⟩
    have g1' : ¬ (24 : Int) < (al.length : Int) := by omega
    by_cases g2 : 8 < gl.length
    · have g2' : (8 : Int) < (gl.length : Int) := by omega
      clear g0 g1 g2
      go_wp2
      go_ret
      exact ⟨⟨true, rfl, (by intro h; cases h)⟩, below_step HW.out HB⟩
    have g2' : ¬ (8 : Int) < (gl.length : Int) := by omega
    by_cases g3 : 60 < yn.size
    · have g3' : (60 : Int) < (yn.size : Int) := by omega
      clear g0 g1 g2 g3
      go_wp2
      go_ret
      exact ⟨⟨true, rfl, (by intro h; cases h)⟩, below_step HW.out HB⟩
    have g3' : ¬ (60 : Int) < (yn.size : Int) := by omega
    have HT2 := Lib.hid (HT.out ⟨by simp only; omega, by simp only; omega, by simp only; omega, by simp only; omega⟩)
    clear g0 g1 g2 g3
    go_wp2
    go_roundw
    case rel => exact ⟨k2 + 1, by omega, by go_num, HT2.out, HB⟩
    case measure => simp [intOf]; omega
  have HAll2 : Hid (∀ x ∈ tl0, SmallT x) := Lib.hid (fun x hx => HPre2.out x (by rw [List.take_of_length_le (by omega)]; exact hx))
  have hp2 := hp _ HB
  clear HPre2
  go_wp2
  have HB3 := Lib.hid HB
  clear HB hp2
  go_loopw [6] (fun iv wr => ∃ k : Nat, k ≤ sl0.length ∧ iv = .int .i64 k ∧ (∀ x ∈ sl0.take k, SmallS x) ∧ Below W.heap.size W wr) (fun i _ => sl0.length - (intOf i).toNat)
  case atStart => exact ⟨0, Nat.zero_le _, rfl, fun f h => by simp at h, HB3.out⟩
  case round =>
  obtain ⟨k3, hk3, rfl, hpre, HB⟩ := hrel
  have HPre3 := Lib.hid hpre
  clear hpre
  by_cases hlt : k3 < sl0.length
  · obtain ⟨g, of, hA, d0, d1, d2, d3, d4, d5, d6⟩ := StateD.at (HO.out.states.below HB (Nat.le_refl _)) hlt
    simp only at hA d0 d1 d2 d3 d4 d5 d6
    subst hA
    have hp0 := hp _ HB
    have HX := Lib.hid (HO.out.state _ (List.getElem_mem hlt))
    have HT : Hid (SmallS sl0[k3] → ∀ x ∈ sl0.take (k3 + 1), SmallS x) := Lib.hid (fun h => take_all hlt HPre3.out h)
    generalize sl0[k3] = y at *
    obtain ⟨yn, ⟨yl, yA, yc⟩, ys, yo, yf, ⟨bl, bA, bc⟩, yd⟩ := y
    simp only at d0 d1 d2 d3 d4 d5 d6
    go_wp2_with fail
    refine (largeState_any ⟨yn, ⟨yl, yA, yc⟩, ys, yo, yf, ⟨bl, bA, bc⟩, yd⟩ _).mono ?_
    rintro e w2 ⟨⟨b, rfl, hb⟩, hb1⟩
    replace HB := below_step HB hb1
    have HQ := Lib.hid hb
    clear hb hb1
    cases b
    case true =>
      go_wp2
      go_ret
      exact ⟨⟨true, rfl, (by intro h; cases h)⟩, below_step HW.out HB⟩
    have HT2 := Lib.hid (HT.out (HQ.out rfl))
    go_wp2
    go_roundw
    case rel => exact ⟨k3 + 1, by omega, by go_num, HT2.out, HB⟩
    case measure => simp [intOf]; omega
  have HAll3 : Hid (∀ x ∈ sl0, SmallS x) := Lib.hid (fun x hx => HPre3.out x (by rw [List.take_of_length_le (by omega)]; exact hx))
  have hp3 := hp _ HB
  clear HPre3
  go_wp2
  go_ret
  exact ⟨⟨false, rfl, fun _ => ⟨HS.out.1, HS.out.2.1, HS.out.2.2.1, HS.out.2.2.2.1, HS.out.2.2.2.2.1, HS.out.2.2.2.2.2.1, HS.out.2.2.2.2.2.2.1, HS.out.2.2.2.2.2.2.2, HNo.out.1, HNo.out.2, HAll0.out, HAll1.out, HAll2.out, HAll3.out⟩⟩, below_step HW.out HB⟩
end Go.Proofs.YtgfbikknkcaneaaGreat
