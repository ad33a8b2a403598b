/- The walk of package control's Check on any program. No condition but that the program lies in memory, with at most ninety thousand nodes. -/
import Derived.Test.YtbfjknidinkafaaGreatCkV
namespace Go.Proofs.YtbfjknidinkafaaGreat
open Go.RowKit

def okN (p : ProgD) (l : List CtlD) (x : CtlD) : Bool := nodeM p (usedM l) x == 0
theorem nodeAtM_at (p : ProgD) (l : List CtlD) (i : Nat) (x : CtlD) (h : l[i]? = some x) : nodeAtM p l i = if nodeM p (usedM (l.take i)) x ≠ 0 then some ((i : Int), nodeM p (usedM (l.take i)) x) else none := by
  rw [nodeAtM, h]
theorem run_none (p : ProgD) : ∀ (post pre : List CtlD), runM (okN p) pre post = none → ∀ i, pre.length ≤ i → i < (pre ++ post).length → nodeAtM p (pre ++ post) i = none
  | [], pre, _, i, h1, h2 => by rw [List.append_nil] at h2; omega
  | x :: post, pre, h, i, h1, h2 => by
    rw [runM] at h
    by_cases hok : okN p pre x = true
    · rw [if_pos hok] at h
      by_cases he : i = pre.length
      · subst he
        rw [nodeAtM_at p _ _ x (by simp), List.take_left, if_neg]
        simpa [okN] using hok
      · have := run_none p post (pre ++ [x]) h i (by simp; omega) (by simp at h2 ⊢; omega)
        simpa using this
    · rw [if_neg hok] at h; cases h
theorem run_some (p : ProgD) : ∀ (post pre l' : List CtlD) (y : CtlD), runM (okN p) pre post = some (l', y) → ∃ rest, pre ++ post = l' ++ y :: rest ∧ pre.length ≤ l'.length ∧ nodeM p (usedM l') y ≠ 0 ∧ ∀ i, pre.length ≤ i → i < l'.length → nodeAtM p (pre ++ post) i = none
  | [], pre, l', y, h => by rw [runM] at h; cases h
  | x :: post, pre, l', y, h => by
    rw [runM] at h
    by_cases hok : okN p pre x = true
    · rw [if_pos hok] at h
      obtain ⟨rest, h1, h2, h3, h4⟩ := run_some p post (pre ++ [x]) l' y h
      refine ⟨rest, by simpa using h1, by simp at h2; omega, h3, fun i hi hi2 => ?_⟩
      by_cases he : i = pre.length
      · subst he
        rw [nodeAtM_at p _ _ x (by simp), List.take_left, if_neg]
        simpa [okN] using hok
      · have := h4 i (by simp; omega) hi2
        simpa using this
    · rw [if_neg hok] at h
      injection h with h
      injection h with e1 e2
      subst e1 e2
      exact ⟨post, rfl, Nat.le_refl _, by simpa [okN] using hok, fun i h1 h2 => absurd h2 (by omega)⟩
theorem ctlM_eq (p : ProgD) : ctlM p = if 24 < (presM p.control.l).length then (-1, 12) else if 6 < nestM p.control.l then (-1, 14) else match runM (okN p) [] (presM p.control.l) with
    | some (l', y) => ((l'.length : Int), nodeM p (usedM l') y)
    | none => (0, 0) := by
  rw [ctlM]
  split
  · rfl
  split
  · rfl
  rcases h : runM (okN p) [] (presM p.control.l) with _ | ⟨l', y⟩
  · rw [firstE_none (fun j hj => by have := run_none p _ [] h j (Nat.zero_le _) hj; exact this)]
  · obtain ⟨rest, h1, _, h3, h4⟩ := run_some p _ [] l' y h
    rw [List.nil_append] at h1 h4
    have hl : l'.length < (presM p.control.l).length := by rw [h1]; simp
    have hy : nodeAtM p (presM p.control.l) l'.length = some ((l'.length : Int), nodeM p (usedM l') y) := by
      rw [nodeAtM_at p _ _ y (by rw [h1]; simp), show (presM p.control.l).take l'.length = l' by rw [h1, List.take_left], if_pos h3]
    rw [firstE_some hl (fun j hj => h4 j (Nat.zero_le _) hj) hy]

theorem check_visits (B0 : World) (p : ProgD) (o : ProgOk B0 p) (gP gE gN gU : Nat) (h0 : B0.heap.size ≤ gP) (h1 : gP < gE) (h2 : gE < gN) (h3 : gN < gU) :
    Visits 90000 B0 178 #[.pointer (some ⟨gP, 0, none⟩), .pointer (some ⟨gU, 0, none⟩), .pointer (some ⟨gE, 0, none⟩), .pointer (some ⟨gN, 0, none⟩)] (okN p)
      (fun l w => ∃ A c, CkSt B0 p gP gE gN gU 0 l.length (usedM l) A c w) (fun l x w => ∃ A c, CkSt B0 p gP gE gN gU (nodeM p (usedM l) x) l.length (usedM l) A c w) := by
  refine ⟨?_, fun l w ⟨A, c, h⟩ => h.base, fun l w ob ⟨A, c, h⟩ => ⟨A, c, h.below (below1 _ _)⟩⟩
  rintro l x w hl hx ⟨A, c, st⟩
  have l1 := pres_len x.th.l
  have l2 := pres_len x.el.l
  refine (check1_any B0 p o gP gE gN gU h0 h1 h2 h3 x l.length (usedM l) A c w hx (by omega) (by omega) (used_len l) st).mono ?_
  rintro e w' ⟨rfl, hg, hy, hn⟩
  refine ⟨rfl, hg, fun h => ?_, fun h => ⟨A, c, hn h⟩⟩
  obtain ⟨A', c', h'⟩ := hy h
  refine ⟨A', c', ?_⟩
  rw [used_snoc, List.length_append]
  exact h'

set_option maxRecDepth 100000 in
set_option maxHeartbeats 4000000 in
theorem controlCheck_any (p : ProgD) (w : World) (o : ProgOk w p) (hN : (presM p.control.l).length ≤ 90000) :
    Calls Tryz.prog 136 #[.agg (progCells p)] w fun e w' => e = .returned (.tuple #[.int .i64 (ctlM p).1, .int .i64 (ctlM p).2]) ∧ Below w.heap.size w w' := by
  have hmf : ∀ (fn : Fn) (first cap : Array Value) (w : World), (Instr.makeFunc fn first cap).run Tryz.prog w = .ok (.func fn first cap) w := fun _ _ _ _ => rfl
  have HO := Lib.hid o
  have HN := Lib.hid hN
  have HR := Lib.hid (ctlM_eq p)
  obtain ⟨W, hW, hw, HB, hp⟩ := box2 w (progCells p) 31 #[.int .i64 0] 37
  have HW := Lib.hid hw
  have hbP : Blk W w.heap.size 31 (progCells p) := by rw [hW]; exact (Blk.new _ _ _).alloc _
  have hbE : Blk W (w.heap.size + 1) 37 #[.int .i64 0] := by rw [hW]; exact (by simpa using Blk.new (w.alloc (.cells (progCells p) 31)) 37 #[.int .i64 0])
  have HP := Lib.hid hbP
  have HE := Lib.hid hbE
  clear o hN hw hbP hbE
  go_enter Tryz.func136, Tryz.ntmps136
  go_upto_region 1 with fail
  rw [← hW]
  clear hW
  go_wp2_with fail
  refine (count_any p.control _ (HO.out.control.below (below_step HW.out HB) (Nat.le_refl _)) (CtlsOk.below (below_step HW.out HB) HO.out.ctl) HN.out).mono ?_
  rintro e w1 ⟨rfl, hbN⟩
  replace HB := below_step (by first | exact HB | exact below_alloc HB _ | exact below_alloc (below_alloc HB _) _ | exact below_alloc (below_alloc (below_alloc HB _) _) _) hbN
  clear hbN
  have hE1 := HE.out.below HB HE.out.lt
  have ce1 : w1.cell? ⟨w.heap.size + 1, 0, none⟩ = some (.int .i64 0) := hE1.cell 0
  have cf1 : w1.frozen? ⟨w.heap.size + 1, 0, none⟩ = false := hE1.frozen 0
  by_cases k1 : 24 < (presM p.control.l).length
  · replace HR := Lib.hid (HR.out.trans (if_pos k1))
    have hcc : (w1.setCell ⟨w.heap.size + 1, 0, none⟩ (.int .i64 12)).cell? ⟨w.heap.size + 1, 0, none⟩ = some (.int .i64 12) := (hE1.set_ 0 _).cell 0
    have HF : Hid (Below w.heap.size w (w1.setCell ⟨w.heap.size + 1, 0, none⟩ (.int .i64 12))) := Lib.hid ((below_step HW.out HB).setCell (Nat.le_succ _) _)
    clear hE1
    go_wp2
    refine bodyPost_ret (v := .tuple #[.int .i64 (-1), .int .i64 12]) (by simp [results, Tryz.results136, go_sem, hcc]) rfl ⟨ret_pp HR.out, HF.out⟩
  replace HR := Lib.hid (HR.out.trans (if_neg k1))
  have k1' : (presM p.control.l).length ≤ 24 := by omega
  clear k1
  clear hE1
  go_wp2_with fail
  clear ce1 cf1
  have hnle := nest_le p.control.l
  have HNl : Hid (nestM p.control.l ≤ 90000) := Lib.hid (by omega)
  clear hnle
  refine (nesting_any (nestM p.control.l + 1) p.control _ (Nat.lt_succ_self _) HNl.out (HO.out.control.below (below_step HW.out HB) (Nat.le_refl _)) (CtlsOk.below (below_step HW.out HB) HO.out.ctl)).mono ?_
  rintro e w2 ⟨rfl, hbN⟩
  replace HB := below_step (by first | exact HB | exact below_alloc HB _ | exact below_alloc (below_alloc HB _) _ | exact below_alloc (below_alloc (below_alloc HB _) _) _) hbN
  clear hbN
  have hE1 := HE.out.below HB HE.out.lt
  have ce1 : w2.cell? ⟨w.heap.size + 1, 0, none⟩ = some (.int .i64 0) := hE1.cell 0
  have cf1 : w2.frozen? ⟨w.heap.size + 1, 0, none⟩ = false := hE1.frozen 0
  by_cases k2 : 6 < nestM p.control.l
  · replace HR := Lib.hid (HR.out.trans (if_pos k2))
    have hcc : (w2.setCell ⟨w.heap.size + 1, 0, none⟩ (.int .i64 14)).cell? ⟨w.heap.size + 1, 0, none⟩ = some (.int .i64 14) := (hE1.set_ 0 _).cell 0
    have HF : Hid (Below w.heap.size w (w2.setCell ⟨w.heap.size + 1, 0, none⟩ (.int .i64 14))) := Lib.hid ((below_step HW.out HB).setCell (Nat.le_succ _) _)
    clear hE1
    go_wp2
    refine bodyPost_ret (v := .tuple #[.int .i64 (-1), .int .i64 14]) (by simp [results, Tryz.results136, go_sem, hcc]) rfl ⟨ret_pp HR.out, HF.out⟩
  replace HR := Lib.hid (HR.out.trans (if_neg k2))
  have k2' : nestM p.control.l ≤ 6 := by omega
  clear k2
  obtain ⟨V, hV, hv, _, _⟩ := box2 w2 #[.int .i64 0] 3 #[.slice none 0 0] 29
  have HBV := below_step HB hv
  have hsz : w.heap.size + 1 < w2.heap.size := hE1.lt
  have hst : CkSt w p w.heap.size (w.heap.size + 1) w2.heap.size (w2.heap.size + 1) 0 0 [] none 0 V := by
    refine ⟨below_step HW.out HBV, HP.out.below HBV HP.out.lt, HE.out.below HBV HE.out.lt, ?_, ?_, World.ownsRow_nil _ _ _ _⟩
    · rw [hV]; exact (Blk.new _ _ _).alloc _
    · rw [hV]; exact (by simpa using Blk.new (w2.alloc (.cells #[.int .i64 0] 3)) 29 #[.slice none 0 0])
  have HST := Lib.hid hst
  have HSZ := Lib.hid hsz
  have hca := @World.cell?_alloc_some
  have hp2 := (hp w2 HB).1 7 (show 7 < 9 by decide)
  clear hE1 hst hv HBV hsz
  go_wp2_with fail
  rw [← hV]
  clear hV hca ce1 cf1
  refine (preorder_any 90000 w 178 #[.pointer (some ⟨w.heap.size, 0, none⟩), .pointer (some ⟨w2.heap.size + 1, 0, none⟩), .pointer (some ⟨w.heap.size + 1, 0, none⟩), .pointer (some ⟨w2.heap.size, 0, none⟩)] _ _ _
    (check_visits w p HO.out w.heap.size (w.heap.size + 1) w2.heap.size (w2.heap.size + 1) (Nat.le_refl _) (by omega) HSZ.out (by omega)) (.inr ⟨rfl, _, _, _, _, rfl⟩) (nestM p.control.l + 1) p.control [] _ (Nat.lt_succ_self _) (by simpa using HN.out)
    HO.out.control HO.out.ctl ⟨none, 0, HST.out⟩).mono ?_
  rintro e w3 ⟨_, hm⟩
  rcases hrun : runM (okN p) [] (presM p.control.l) with _ | ⟨l', y⟩
  · rw [hrun] at hm
    obtain ⟨rfl, A', c', st⟩ := hm
    have HR2 := Lib.hid (HR.out.trans (show _ = ((0 : Int), (0 : Int)) by rw [hrun]))
    have ce : w3.cell? ⟨w.heap.size + 1, 0, none⟩ = some (.int .i64 0) := st.err.cell 0
    have cf : w3.frozen? ⟨w.heap.size + 1, 0, none⟩ = false := st.err.frozen 0
    have hcc : (w3.setCell ⟨w.heap.size + 1, 0, none⟩ (.int .i64 0)).cell? ⟨w.heap.size + 1, 0, none⟩ = some (.int .i64 0) := (st.err.set_ 0 _).cell 0
    have HF : Hid (Below w.heap.size w (w3.setCell ⟨w.heap.size + 1, 0, none⟩ (.int .i64 0))) := Lib.hid (st.base.setCell (Nat.le_succ _) _)
    clear st hrun
    go_wp2
    refine bodyPost_ret (v := .tuple #[.int .i64 0, .int .i64 0]) (by simp [results, Tryz.results136, go_sem, hcc]) rfl ⟨ret_pp HR2.out, HF.out⟩
  · have hne : nodeM p (usedM l') y ≠ 0 := (run_some p _ [] l' y hrun).choose_spec.2.2.1
    rw [hrun] at hm
    obtain ⟨rfl, A', c', st⟩ := hm
    have HR2 := Lib.hid (HR.out.trans (show _ = ((l'.length : Int), nodeM p (usedM l') y) by rw [hrun]))
    have hne' : (nodeM p (usedM l') y == 0) = false := beq_eq_false_iff_ne.2 hne
    generalize nodeM p (usedM l') y = ec at *
    have ce : w3.cell? ⟨w.heap.size + 1, 0, none⟩ = some (.int .i64 ec) := st.err.cell 0
    have cf : w3.frozen? ⟨w.heap.size + 1, 0, none⟩ = false := st.err.frozen 0
    have cn : w3.cell? ⟨w2.heap.size, 0, none⟩ = some (.int .i64 l'.length) := st.cnt.cell 0
    have hcc : (w3.setCell ⟨w.heap.size + 1, 0, none⟩ (.int .i64 ec)).cell? ⟨w.heap.size + 1, 0, none⟩ = some (.int .i64 ec) := (st.err.set_ 0 _).cell 0
    have HF : Hid (Below w.heap.size w (w3.setCell ⟨w.heap.size + 1, 0, none⟩ (.int .i64 ec))) := Lib.hid (st.base.setCell (Nat.le_succ _) _)
    clear st hrun hne
    go_wp2
    clear hp HST
    go_region
    all_goals
      go_wp2
      refine bodyPost_ret (v := .tuple #[.int .i64 l'.length, .int .i64 ec]) (by simp [results, Tryz.results136, go_sem, hcc]) rfl ⟨ret_pp HR2.out, HF.out.drew⟩
end Go.Proofs.YtbfjknidinkafaaGreat

