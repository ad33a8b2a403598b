/- The walk of package control's preorder with a visitor that keeps a state, for any control flow. -/
import Derived.Test.YtbfjknidinkafaaGreatCkR
namespace Go.Proofs.YtbfjknidinkafaaGreat
open Go.RowKit

theorem presM_append : ∀ (a b : List CtlD), presM (a ++ b) = presM a ++ presM b
  | [], b => by simp [presM]
  | x :: a, b => by rw [List.cons_append, presM, presM, presM_append a b, List.append_assoc]
theorem preM_eq (x : CtlD) : preM x = x :: (presM x.th.l ++ presM x.el.l) := by
  cases x; rw [preM]; rfl
theorem presM_snoc (l : List CtlD) (x : CtlD) : presM (l ++ [x]) = presM l ++ x :: (presM x.th.l ++ presM x.el.l) := by
  rw [presM_append, presM, presM, preM_eq]; simp
theorem nest_mem {x : CtlD} : ∀ {l : List CtlD}, x ∈ l → nestM x.th.l < nestM l ∧ nestM x.el.l < nestM l
  | y :: l, h => by
    rw [nestM]
    rcases List.mem_cons.1 h with rfl | h
    · have e : nest1M x = max (nestM x.th.l) (nestM x.el.l) := by cases x; rw [nest1M]; rfl
      rw [e]
      omega
    · have := nest_mem h
      omega
theorem ctls_mem {w : World} {x : CtlD} : ∀ {l : List CtlD}, CtlsOk w l → x ∈ l → CtlOk w x
  | y :: l, o, h => by
    rw [CtlsOk] at o
    rcases List.mem_cons.1 h with rfl | h
    · exact o.1
    · exact ctls_mem o.2 h
theorem ctl_parts {w : World} {x : CtlD} (o : CtlOk w x) : LOk w 3 NodeD.cells x.cond ∧ LOk w 5 CtlD.cells x.th ∧ LOk w 5 CtlD.cells x.el ∧ CtlsOk w x.th.l ∧ CtlsOk w x.el.l := by
  cases x; rw [CtlOk] at o; exact o
@[reducible] def ctlCells (x : CtlD) : Array Value := #[.int .i64 x.kind, .int .i64 x.table, .slice x.cond.A x.cond.l.length x.cond.c, .slice x.th.A x.th.l.length x.th.c, .slice x.el.A x.el.l.length x.el.c]

/-- the visits one after the other: the first that says no, with those before it -/
def runM (ok : List CtlD → CtlD → Bool) : List CtlD → List CtlD → Option (List CtlD × CtlD)
  | _, [] => none
  | l, x :: r => if ok l x = true then runM ok (l ++ [x]) r else some (l, x)
theorem runM_append (ok : List CtlD → CtlD → Bool) : ∀ (a b l : List CtlD), runM ok l (a ++ b) = match runM ok l a with | none => runM ok (l ++ a) b | some r => some r
  | [], b, l => by simp [runM]
  | x :: a, b, l => by
    rw [List.cons_append, runM, runM]
    split
    · rw [runM_append ok a b (l ++ [x]), List.append_assoc]; rfl
    · rfl
theorem runM_none {ok : List CtlD → CtlD → Bool} {a b l : List CtlD} (h : runM ok l a = none) : runM ok l (a ++ b) = runM ok (l ++ a) b := by rw [runM_append, h]
theorem runM_some {ok : List CtlD → CtlD → Bool} {a b l : List CtlD} {r : List CtlD × CtlD} (h : runM ok l a = some r) : runM ok l (a ++ b) = some r := by rw [runM_append, h]

/-- what was made of control nodes stays -/
structure Grow (w w' : World) : Prop where
  os : w'.os = w.os
  tape : w'.tape = w.tape
  output : w'.output = w.output
  size : w.heap.size ≤ w'.heap.size
  block : ∀ (b : Nat) (cs : Array Value) fr, w.heap[b]? = some (Obj.cells cs 169 fr) → w'.heap[b]? = w.heap[b]?
theorem Grow.trans {w w1 w2 : World} (h : Grow w w1) (h2 : Grow w1 w2) : Grow w w2 :=
  ⟨h2.os.trans h.os, h2.tape.trans h.tape, h2.output.trans h.output, Nat.le_trans h.size h2.size, fun b cs fr hb => (h2.block b cs fr ((h.block b cs fr hb).trans hb)).trans (h.block b cs fr hb)⟩
theorem Grow.of_below {w w' : World} (h : Below w.heap.size w w') : Grow w w' := ⟨h.os, h.tape, h.output, h.size, fun b _ _ hb => h.block b (by
  rcases Nat.lt_or_ge b w.heap.size with hlt | hge
  · exact hlt
  · rw [Array.getElem?_eq_none hge] at hb; cases hb)⟩

/-- what a visitor keeps: Inv l w: behind the nodes l in the world w; Stop l x w: at the node x it has said no -/
structure Visits (N : Nat) (B0 : World) (F : FuncId) (caps : Array Value) (ok : List CtlD → CtlD → Bool) (Inv : List CtlD → World → Prop) (Stop : List CtlD → CtlD → World → Prop) : Prop where
  visit : ∀ l x w, l.length + 1 + (presM x.th.l).length + (presM x.el.l).length ≤ N → CtlOk B0 x → Inv l w → Calls Tryz.prog F (#[.agg (ctlCells x)] ++ caps) w fun e w' => e = .returned (.bool (ok l x)) ∧ Grow w w' ∧ (ok l x = true → Inv (l ++ [x]) w') ∧ (ok l x = false → Stop l x w')
  base : ∀ l w, Inv l w → Below B0.heap.size B0 w
  more : ∀ l w o, Inv l w → Inv l (w.alloc o)

/-- what preorder answers -/
def preE (ok : List CtlD → CtlD → Bool) (Inv : List CtlD → World → Prop) (Stop : List CtlD → CtlD → World → Prop) (l c : List CtlD) (w : World) (e : Ending) (w' : World) : Prop :=
  Grow w w' ∧ match runM ok l c with
    | none => e = .returned (.bool true) ∧ Inv (l ++ c) w'
    | some (l', x) => e = .returned (.bool false) ∧ Stop l' x w'

theorem Blk.grow {w w' : World} {g : Nat} {cs : Array Value} (hb : Blk w g 169 cs) (h : Grow w w') : Blk w' g 169 cs := (h.block g cs (0, 0) hb).trans hb

set_option maxRecDepth 100000 in
set_option maxHeartbeats 8000000 in
theorem preorder_any (N : Nat) (B0 : World) (F : FuncId) (caps : Array Value) (ok : List CtlD → CtlD → Bool) (Inv : List CtlD → World → Prop) (Stop : List CtlD → CtlD → World → Prop)
    (V : Visits N B0 F caps ok Inv Stop) (hF : (F = 205 ∧ ∃ g, caps = #[.pointer (some ⟨g, 0, none⟩)]) ∨ (F = 178 ∧ ∃ g1 g2 g3 g4, caps = #[.pointer (some ⟨g1, 0, none⟩), .pointer (some ⟨g2, 0, none⟩), .pointer (some ⟨g3, 0, none⟩), .pointer (some ⟨g4, 0, none⟩)])) :
    ∀ (m : Nat) (c : L CtlD) (l : List CtlD) (w : World), nestM c.l < m → l.length + (presM c.l).length ≤ N → LOk B0 5 CtlD.cells c → CtlsOk B0 c.l → Inv l w →
    Calls Tryz.prog 177 #[.slice c.A c.l.length c.c, .func (.func F) #[] caps] w fun e w' => preE ok Inv Stop l (presM c.l) w e w'
  | 0, _, _, _, h, _, _, _, _ => absurd h (Nat.not_lt_zero _)
  | m + 1, ⟨cl, cA, cc⟩, l, w, hm, hNb, hc, hcs, hI => by
    have IH := Lib.hid (preorder_any N B0 F caps ok Inv Stop V hF m)
    have HV := Lib.hid V
    have HC := Lib.hid hc
    have HCS := Lib.hid hcs
    have HI := Lib.hid hI
    have HM := Lib.hid hm
    have HNb := Lib.hid hNb
    have hlen := hc.1
    unfold maxLen at hlen
    simp only at hlen HCS HM HNb
    clear V hc hcs hI hm hNb
    by_cases h0 : cl.length = 0
    · have e0 : cl = [] := List.eq_nil_of_length_eq_zero h0
      have HE : Hid (presM cl = []) := Lib.hid (by rw [e0]; rfl)
      have h1 : ¬ ((0 : Int) < (cl.length : Int)) := by omega
      have h2 : (cl.length : Int) ≤ 0 := by omega
      clear h0 e0 HM HCS
      rcases hF with ⟨rfl, g, rfl⟩ | ⟨rfl, g1, g2, g3, g4, rfl⟩
      all_goals
        go_enter Tryz.func177, Tryz.ntmps177
        go_wp2
        refine wp_loop_rounds 1 ?_
        rw [rounds_succ]
        go_wp2
        go_ret
        refine ⟨Grow.of_below (Below.refl _ _), ?_⟩
        rw [HE.out]
        exact ⟨rfl, by rw [List.append_nil]; exact HI.out⟩
    obtain ⟨g0, of0, hA, hall⟩ := CtlD.allA HC.out (show 0 < cl.length by omega)
    have HAL := Lib.hid hall
    simp only at hA
    subst hA
    clear hall h0
    rcases hF with ⟨rfl, g, rfl⟩ | ⟨rfl, g1, g2, g3, g4, rfl⟩
    all_goals
      go_enter Tryz.func177, Tryz.ntmps177
      go_wp2
      go_loopw [6, 9] (fun _ iv wr => ∃ k : Nat, k ≤ cl.length ∧ iv = .int .i64 k ∧ Grow w wr ∧ runM ok l (presM (cl.take k)) = none ∧ Inv (l ++ presM (cl.take k)) wr) (fun _ i _ => cl.length - (intOf i).toNat)
      case atStart => exact ⟨0, Nat.zero_le _, rfl, Grow.of_below (Below.refl _ _), rfl, by rw [List.take_zero, presM, List.append_nil]; exact HI.out⟩
      case round =>
        obtain ⟨k, hk, rfl, hg, hrun, hinv⟩ := hrel
        have HG := Lib.hid hg
        have HRn := Lib.hid hrun
        have HIn := Lib.hid hinv
        clear hg hrun hinv
        by_cases hlt : k < cl.length
        · obtain ⟨d0, d1, d2, d3, d4⟩ := HAL.out wr (HV.out.base _ _ HIn.out) k hlt
          have HX : Hid (CtlOk B0 cl[k]) := Lib.hid (ctls_mem HCS.out (List.getElem_mem hlt))
          have HNe : Hid (nestM cl[k].th.l < m ∧ nestM cl[k].el.l < m) := Lib.hid (by
            have := nest_mem (List.getElem_mem hlt)
            have := HM.out
            omega)
          have HP1 : Hid (presM (cl.take (k + 1)) = presM (cl.take k) ++ cl[k] :: (presM cl[k].th.l ++ presM cl[k].el.l)) := Lib.hid (by rw [take_snoc cl k hlt, presM_snoc])
          have HP : Hid (∃ rest, presM cl = presM (cl.take k) ++ cl[k] :: (presM cl[k].th.l ++ presM cl[k].el.l) ++ rest) := Lib.hid ⟨presM (cl.drop (k + 1)), by
            rw [← HP1.out, ← presM_append, List.take_append_drop]⟩
          generalize cl[k] = x at *
          have HLen : Hid ((l ++ presM (cl.take k)).length + 1 + (presM x.th.l).length + (presM x.el.l).length ≤ N ∧ (l ++ presM (cl.take k) ++ [x]).length + (presM x.th.l).length ≤ N ∧ (l ++ presM (cl.take k) ++ [x] ++ presM x.th.l).length + (presM x.el.l).length ≤ N) := Lib.hid (by
            obtain ⟨rest, hr⟩ := HP.out
            have h1 := congrArg List.length hr
            have h2 := HNb.out
            simp only [List.length_append, List.length_cons, List.length_nil] at h1 ⊢
            omega)
          refine Exists.elim (box1 wr (ctlCells x) 169) ?_
          rintro U ⟨hU, hu, hUU, hbx⟩
          have hinvU : Inv (l ++ presM (cl.take k)) U := by rw [hU]; exact HV.out.more _ _ _ HIn.out
          have hBlk : Blk U wr.heap.size 169 (ctlCells x) := by rw [hU]; exact Blk.new _ _ _
          go_wp2_with fail
          rw [← hU]
          clear hU d0 d1 d2 d3 d4
          have hvis := HV.out.visit _ x U HLen.out.1 HX.out hinvU
          simp only [List.append_toArray, List.cons_append, List.nil_append] at hvis
          refine hvis.mono ?_
          clear hvis
          rintro e w1 ⟨rfl, hg1, hi1, hs1⟩
          have HGa := Lib.hid ((HG.out.trans (Grow.of_below hu)).trans hg1)
          cases hok : ok (l ++ presM (cl.take k)) x
          · have HSt := Lib.hid (hs1 hok)
            have HRr : Hid (runM ok l (presM cl) = some (l ++ presM (cl.take k), x)) := Lib.hid (by
              obtain ⟨rest, hr⟩ := HP.out
              rw [hr, List.append_assoc, runM_none HRn.out, List.cons_append, runM, if_neg (by rw [hok]; simp)])
            clear hi1 hs1 hok
            go_wp2
            go_ret
            refine ⟨HGa.out, ?_⟩
            rw [HRr.out]
            exact ⟨rfl, HSt.out⟩
          have HI1 := Lib.hid (hi1 hok)
          have HRx : Hid (∀ t, runM ok l (presM (cl.take k) ++ x :: t) = runM ok (l ++ presM (cl.take k) ++ [x]) t) := Lib.hid (fun t => by
            rw [runM_none HRn.out, runM, if_pos hok])
          have hB1 := hBlk.grow hg1
          have hth : w1.cell? ⟨wr.heap.size, 3, none⟩ = some (.slice x.th.A x.th.l.length x.th.c) := hB1.cell 3
          have HBl := Lib.hid hB1
          clear hi1 hs1 hok hg1 hbx hinvU hB1 hBlk
          go_wp2_with fail
          refine (IH.out x.th (l ++ presM (cl.take k) ++ [x]) w1 HNe.out.1 HLen.out.2.1 (ctl_parts HX.out).2.1 (ctl_parts HX.out).2.2.2.1 HI1.out).mono ?_
          rintro e w2 ⟨hg2, hm2⟩
          have HGb := Lib.hid (HGa.out.trans hg2)
          rcases hr2 : runM ok (l ++ presM (cl.take k) ++ [x]) (presM x.th.l) with _ | ⟨l', y⟩
          case some =>
            rw [hr2] at hm2
            obtain ⟨rfl, hst⟩ := hm2
            have HSt := Lib.hid hst
            have HRr : Hid (runM ok l (presM cl) = some (l', y)) := Lib.hid (by
              obtain ⟨rest, hr⟩ := HP.out
              rw [hr, List.append_assoc, List.cons_append, HRx.out, List.append_assoc (presM x.th.l), runM_some hr2])
            clear hst hr2 hg2
            go_wp2
            go_ret
            refine ⟨HGb.out, ?_⟩
            rw [HRr.out]
            exact ⟨rfl, HSt.out⟩
          rw [hr2] at hm2
          obtain ⟨rfl, hi2⟩ := hm2
          have HI2 := Lib.hid hi2
          have HR2 := Lib.hid hr2
          have hel : w2.cell? ⟨wr.heap.size, 4, none⟩ = some (.slice x.el.A x.el.l.length x.el.c) := (HBl.out.grow hg2).cell 4
          clear hi2 hr2 hg2 hth
          go_wp2_with fail
          refine (IH.out x.el (l ++ presM (cl.take k) ++ [x] ++ presM x.th.l) w2 HNe.out.2 HLen.out.2.2 (ctl_parts HX.out).2.2.1 (ctl_parts HX.out).2.2.2.2 HI2.out).mono ?_
          rintro e w3 ⟨hg3, hm3⟩
          have HGc := Lib.hid (HGb.out.trans hg3)
          rcases hr3 : runM ok (l ++ presM (cl.take k) ++ [x] ++ presM x.th.l) (presM x.el.l) with _ | ⟨l', y⟩
          case some =>
            rw [hr3] at hm3
            obtain ⟨rfl, hst⟩ := hm3
            have HSt := Lib.hid hst
            have HRr : Hid (runM ok l (presM cl) = some (l', y)) := Lib.hid (by
              obtain ⟨rest, hr⟩ := HP.out
              rw [hr, List.append_assoc, List.cons_append, HRx.out, List.append_assoc (presM x.th.l), runM_none HR2.out, runM_some hr3])
            clear hst hr3 hg3
            go_wp2
            go_ret
            refine ⟨HGc.out, ?_⟩
            rw [HRr.out]
            exact ⟨rfl, HSt.out⟩
          rw [hr3] at hm3
          obtain ⟨rfl, hi3⟩ := hm3
          have HI3 : Hid (Inv (l ++ presM (cl.take (k + 1))) w3) := Lib.hid (by
            rw [HP1.out]
            simp only [List.append_assoc, List.cons_append, List.nil_append] at hi3 ⊢
            exact hi3)
          have HR4 : Hid (runM ok l (presM (cl.take (k + 1))) = none) := Lib.hid (by rw [HP1.out, HRx.out, runM_none HR2.out, hr3])
          clear hi3 hr3 hg3
          go_wp2
          go_roundw
          case rel => exact ⟨k + 1, by omega, by go_num, HGc.out, HR4.out, HI3.out⟩
          case measure => simp [intOf]; omega
        · have e : k = cl.length := by omega
          have HRr : Hid (runM ok l (presM cl) = none) := Lib.hid (by have := HRn.out; rwa [e, List.take_length] at this)
          have HIr : Hid (Inv (l ++ presM cl) wr) := Lib.hid (by have := HIn.out; rwa [e, List.take_length] at this)
          clear e
          go_wp2
          go_ret
          refine ⟨HG.out, ?_⟩
          rw [HRr.out]
          exact ⟨rfl, HIr.out⟩
end Go.Proofs.YtbfjknidinkafaaGreat

