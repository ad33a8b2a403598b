/- The walk of the reference's equality of control nodes. No condition but that they lie in memory. -/
import Derived.Test.YtgfbikknkcaneaaGreatGk
import Derived.Test.YtgfbikknkcaneaaGreatGe
import Derived.BigQuiet
namespace Go.Proofs.YtgfbikknkcaneaaGreat
open Go.RowKit

set_option maxRecDepth 100000 in
set_option maxHeartbeats 4000000 in
theorem requalQ_node (x y : L NodeD) (w : World) (h : LOk w 3 NodeD.cells x) (h2 : LOk w 3 NodeD.cells y) :
    Calls Tryz.prog 143 #[x.v, y.v] w fun e w' => (∃ b : Bool, e = .returned (.bool b) ∧ (b = true ↔ x.l = y.l)) ∧ ∃ q, w' = w.drewN q := by
  obtain ⟨l, A0, c0⟩ := x
  obtain ⟨m, A1, c1⟩ := y
  have HX := Lib.hid h
  have HY := Lib.hid h2
  have hmx := h.1
  have hmy := h2.1
  unfold maxLen at hmx hmy
  clear h h2
  simp only [L.v] at *
  by_cases hl : l.length = m.length
  case neg =>
    have hne : (((l.length : Nat) : Int) == ((m.length : Nat) : Int)) = false := by rw [beq_eq_false_iff_ne]; omega
    have hne2 : ¬ ((l.length : Nat) : Int) = ((m.length : Nat) : Int) := by omega
    have HL := Lib.hid hl
    clear hl
    go_enter Tryz.func143, Tryz.ntmps143
    go_wp2
    go_ret
    exact ⟨⟨false, rfl, by simp; exact fun e => HL.out (by rw [e])⟩, 0, rfl⟩
  rw [← hl]
  have HL := Lib.hid hl
  clear hl hmy
  go_enter Tryz.func143, Tryz.ntmps143
  go_wp2
  go_loopw [5] (fun iv wr => ∃ k : Nat, k ≤ l.length ∧ iv = .int .i64 k ∧ Hid (l.take k = m.take k) ∧ ∃ q, wr = w.drewN q) (fun i _ => l.length - (intOf i).toNat)
  case atStart => exact ⟨0, Nat.zero_le _, rfl, Lib.hid rfl, 0, rfl⟩
  case round =>
    obtain ⟨k, hk, rfl, HK, q, rfl⟩ := hrel
    by_cases hlt : k < l.length
    · have hlt2 : k < m.length := by have := HL.out; omega
      obtain ⟨g, of, hA, d0, d1, d2⟩ := NodeD.at HX.out hlt
      obtain ⟨g2, of2, hA2, e0, e1, e2⟩ := NodeD.at HY.out hlt2
      simp only at hA hA2
      subst hA hA2
      simp only at d0 d1 d2 e0 e1 e2
      have HS : Hid (l[k] = m[k] → l.take (k + 1) = m.take (k + 1)) := Lib.hid (take_step hlt hlt2 HK.out)
      have HN : Hid (¬ l[k] = m[k] → ¬ l = m) := Lib.hid (fun h e => h (by subst e; rfl))
      generalize l[k] = a at *
      generalize m[k] = b at *
      clear hlt2
      obtain ⟨bb, hb0, hbb⟩ := neq_node a b
      have HBB := Lib.hid hb0
      clear hb0
      cases bb with
      | true =>
        have HN2 := Lib.hid (HN.out (by intro e; have := HBB.out.2 e; cases this))
        clear HN HS
        go_wp2
        go_quiet (fail)
        go_wp2
        go_ret
        exact ⟨⟨false, rfl, by simp; exact HN2.out⟩, q + nq, by first | exact World.drewN_drewN _ _ _ | rfl⟩
      | false =>
        have HS2 := Lib.hid (HS.out (HBB.out.1 rfl))
        clear HN HS
        go_wp2
        go_quiet (fail)
        go_wp2
        go_roundw
        case rel => exact ⟨k + 1, by omega, by go_num, HS2, q + nq, by first | exact World.drewN_drewN _ _ _ | rfl⟩
        case measure => simp [intOf]; omega
    · have hk' : k = l.length := by omega
      subst hk'
      have HE : Hid (l = m) := Lib.hid (by have := HK.out; rw [List.take_length, HL.out, List.take_length] at this; exact this)
      go_wp2
      go_ret
      exact ⟨⟨true, rfl, by simp; exact HE.out⟩, q, rfl⟩

set_option maxRecDepth 100000 in
set_option maxHeartbeats 16000000 in
theorem rctl_any : ∀ (N : Nat) (x y : L CtlD) (w : World), (presM x.l).length < N → LOk w 5 CtlD.cells x → (∀ s ∈ x.l, CtlOk w s) → LOk w 5 CtlD.cells y → (∀ s ∈ y.l, CtlOk w s) →
    Calls Tryz.prog 86 #[x.v, y.v] w fun e w' => (∃ b : Bool, e = .returned (.bool b) ∧ (b = true ↔ x.l.map CtlD.bare = y.l.map CtlD.bare)) ∧ ∃ q, w' = w.drewN q
  | 0, _, _, _, h, _, _, _, _ => absurd h (Nat.not_lt_zero _)
  | N + 1, x, y, w, hlt0, hx, hxe, hy, hye => by
    have IH := Lib.hid (rctl_any N)
    have HNN := Lib.hid hlt0
    clear hlt0
    obtain ⟨l, A0, c0⟩ := x
    obtain ⟨m, A1, c1⟩ := y
    have HX := Lib.hid hx
    have HY := Lib.hid hy
    have HXE := Lib.hid hxe
    have HYE := Lib.hid hye
    have hmx := hx.1
    have hmy := hy.1
    unfold maxLen at hmx hmy
    clear hx hy hxe hye
    simp only [L.v] at *
    by_cases hl : l.length = m.length
    case neg =>
      have hne : (((l.length : Nat) : Int) == ((m.length : Nat) : Int)) = false := by rw [beq_eq_false_iff_ne]; omega
      have hne2 : ¬ ((l.length : Nat) : Int) = ((m.length : Nat) : Int) := by omega
      have HL := Lib.hid hl
      clear hl
      go_enter Tryz.func86, Tryz.ntmps86
      go_wp2
      go_ret
      exact ⟨⟨false, rfl, by simp only [Bool.false_eq_true, false_iff]; exact fun e => HL.out (by simpa using congrArg List.length e)⟩, 0, rfl⟩
    rw [← hl]
    have HL := Lib.hid hl
    clear hl hmy
    go_enter Tryz.func86, Tryz.ntmps86
    go_wp2
    go_loopw [5] (fun iv wr => ∃ k : Nat, k ≤ l.length ∧ iv = .int .i64 k ∧ Hid ((l.take k).map CtlD.bare = (m.take k).map CtlD.bare) ∧ ∃ q, wr = w.drewN q) (fun i _ => l.length - (intOf i).toNat)
    case atStart => exact ⟨0, Nat.zero_le _, rfl, Lib.hid rfl, 0, rfl⟩
    case round =>
      obtain ⟨k, hk, rfl, HK, q, hq⟩ := hrel
      have HQ := Lib.hid hq
      clear hq
      by_cases hlt : k < l.length
      · have hlt2 : k < m.length := by have := HL.out; omega
        obtain ⟨g, of, hA, d0, d1, d2, d3, d4⟩ := CtlD.at (w := wr) (by rw [HQ.out]; exact HX.out) hlt
        obtain ⟨g2, of2, hA2, e0, e1, e2, e3, e4⟩ := CtlD.at (w := wr) (by rw [HQ.out]; exact HY.out) hlt2
        simp only at hA hA2
        subst hA hA2
        simp only at d0 d1 d2 d3 d4 e0 e1 e2 e3 e4
        have HS : Hid (l[k].bare = m[k].bare → (l.take (k + 1)).map CtlD.bare = (m.take (k + 1)).map CtlD.bare) := Lib.hid (take_bare hlt hlt2 HK.out)
        have HN : Hid (l.map CtlD.bare = m.map CtlD.bare → l[k].bare = m[k].bare) := Lib.hid (map_get hlt hlt2)
        rw [ctl_bare_iff] at HS HN
        have HO : Hid ((∀ n, Calls Tryz.prog 143 #[l[k].cond.v, m[k].cond.v] (wr.drewN n) fun e w' => (∃ b : Bool, e = .returned (.bool b) ∧ (b = true ↔ l[k].cond.l = m[k].cond.l)) ∧ ∃ q', w' = (wr.drewN n).drewN q') ∧ (∀ n, Calls Tryz.prog 86 #[.slice l[k].th.A l[k].th.l.length l[k].th.c, .slice m[k].th.A m[k].th.l.length m[k].th.c] (wr.drewN n) fun e w2 => (∃ b : Bool, e = .returned (.bool b) ∧ (b = true ↔ l[k].th.l.map CtlD.bare = m[k].th.l.map CtlD.bare)) ∧ ∃ q', w2 = (wr.drewN n).drewN q') ∧ ∀ n, Calls Tryz.prog 86 #[.slice l[k].el.A l[k].el.l.length l[k].el.c, .slice m[k].el.A m[k].el.l.length m[k].el.c] (wr.drewN n) fun e w2 => (∃ b : Bool, e = .returned (.bool b) ∧ (b = true ↔ l[k].el.l.map CtlD.bare = m[k].el.l.map CtlD.bare)) ∧ ∃ q', w2 = (wr.drewN n).drewN q') := Lib.hid (by
          have hm := List.getElem_mem hlt
          have hm2 := List.getElem_mem hlt2
          have hp := pres_th hm
          have h1 : (presM l).length < N + 1 := HNN.out
          have ho := ctl_parts (HXE.out _ hm)
          have ho2 := ctl_parts (HYE.out _ hm2)
          refine ⟨fun n => requalQ_node l[k].cond m[k].cond (wr.drewN n) (by rw [HQ.out]; exact ho.1) (by rw [HQ.out]; exact ho2.1), fun n => ?_, fun n => ?_⟩
          · exact IH.out l[k].th m[k].th (wr.drewN n) (by omega) (by rw [HQ.out]; exact ho.2.1) (fun z hz => ctls_mem (CtlsOk.below (by rw [HQ.out]; exact below_drewN (below_drewN (Below.refl w.heap.size w) q) n) ho.2.2.2.1) hz) (by rw [HQ.out]; exact ho2.2.1) (fun z hz => ctls_mem (CtlsOk.below (by rw [HQ.out]; exact below_drewN (below_drewN (Below.refl w.heap.size w) q) n) ho2.2.2.2.1) hz)
          · exact IH.out l[k].el m[k].el (wr.drewN n) (by omega) (by rw [HQ.out]; exact ho.2.2.1) (fun z hz => ctls_mem (CtlsOk.below (by rw [HQ.out]; exact below_drewN (below_drewN (Below.refl w.heap.size w) q) n) ho.2.2.2.2) hz) (by rw [HQ.out]; exact ho2.2.2.1) (fun z hz => ctls_mem (CtlsOk.below (by rw [HQ.out]; exact below_drewN (below_drewN (Below.refl w.heap.size w) q) n) ho2.2.2.2.2) hz))
        generalize l[k] = a at *
        generalize m[k] = b at *
        clear hlt2
        by_cases c0 : a.kind = b.kind
        case neg =>
          have hb0 : (a.kind == b.kind) = false := beq_eq_false_iff_ne.2 c0
          have hb1 : (a.kind != b.kind) = true := by simp [c0]
          have HN2 : Hid (¬ l.map CtlD.bare = m.map CtlD.bare) := Lib.hid (fun e => c0 (HN.out e).1)
          clear c0 HN HS
          go_upto_region 6 with fail
          refine wp_region_quiet_lit (by kernel_rfl) (by kernel_rfl) ?_
          simp only [List.append]
          repeat (go_big_quiet_step (fail))
          refine wpQuiet_nil ?_
          intro _ hw'
          obtain ⟨nq, hw''⟩ := hw'
          subst hw''
          go_wp2
          go_ret
          exact ⟨⟨false, rfl, by simp only [Bool.false_eq_true, false_iff]; exact HN2.out⟩, q + nq, by rw [HQ.out]; first | exact World.drewN_drewN _ _ _ | rfl⟩
        have hk0 : (a.kind == b.kind) = true := beq_iff_eq.2 c0
        have hk1 : (a.kind != b.kind) = false := by simp [c0]
        have HC0 := Lib.hid c0
        clear c0
        by_cases c1 : a.table = b.table
        case neg =>
          have hb0 : (a.table == b.table) = false := beq_eq_false_iff_ne.2 c1
          have hb1 : (a.table != b.table) = true := by simp [c1]
          have HN2 : Hid (¬ l.map CtlD.bare = m.map CtlD.bare) := Lib.hid (fun e => c1 (HN.out e).2.1)
          clear c1 HN HS
          go_upto_region 6 with fail
          refine wp_region_quiet_lit (by kernel_rfl) (by kernel_rfl) ?_
          simp only [List.append]
          repeat (go_big_quiet_step (fail))
          refine wpQuiet_nil ?_
          intro _ hw'
          obtain ⟨nq, hw''⟩ := hw'
          subst hw''
          go_wp2
          go_ret
          exact ⟨⟨false, rfl, by simp only [Bool.false_eq_true, false_iff]; exact HN2.out⟩, q + nq, by rw [HQ.out]; first | exact World.drewN_drewN _ _ _ | rfl⟩
        have ht0 : (a.table == b.table) = true := beq_iff_eq.2 c1
        have ht1 : (a.table != b.table) = false := by simp [c1]
        have HC1 := Lib.hid c1
        clear c1
        by_cases c2 : a.cond.l = b.cond.l
        case neg =>
          have HC : ∀ n, Calls Tryz.prog 143 #[a.cond.v, b.cond.v] (wr.drewN n) fun e w' => e = .returned (.bool false) ∧ ∃ q', w' = (wr.drewN n).drewN q' := fun n => (HO.out.1 n).mono (fun e w' ⟨⟨r, h1, h2⟩, h3⟩ => ⟨by rw [h1, Bool.eq_false_iff.2 (fun h => c2 (h2.1 h))], h3⟩)
          have HC := Lib.hid HC
          have HN2 : Hid (¬ l.map CtlD.bare = m.map CtlD.bare) := Lib.hid (fun e => c2 (HN.out e).2.2.1)
          clear c2 HN HS
          go_upto_region 6 with fail
          refine wp_region_quiet_lit (by kernel_rfl) (by kernel_rfl) ?_
          simp only [List.append]
          repeat (go_big_quiet_step (first | (go_at_call 143; refine Calls.quiet_of (HC.out _))))
          refine wpQuiet_nil ?_
          intro _ hw'
          obtain ⟨nq, hw''⟩ := hw'
          subst hw''
          go_wp2
          go_ret
          exact ⟨⟨false, rfl, by simp only [Bool.false_eq_true, false_iff]; exact HN2.out⟩, q + nq, by rw [HQ.out]; first | exact World.drewN_drewN _ _ _ | rfl⟩
        have HC : ∀ n, Calls Tryz.prog 143 #[a.cond.v, b.cond.v] (wr.drewN n) fun e w' => e = .returned (.bool true) ∧ ∃ q', w' = (wr.drewN n).drewN q' := fun n => (HO.out.1 n).mono (fun e w' ⟨⟨r, h1, h2⟩, h3⟩ => ⟨by rw [h1, h2.2 c2], h3⟩)
        have HC := Lib.hid HC
        have HC2 := Lib.hid c2
        clear c2
        by_cases c3 : a.th.l.map CtlD.bare = b.th.l.map CtlD.bare
        case neg =>
          have HT : ∀ n, Calls Tryz.prog 86 #[a.th.v, b.th.v] (wr.drewN n) fun e w' => e = .returned (.bool false) ∧ ∃ q', w' = (wr.drewN n).drewN q' := fun n => (HO.out.2.1 n).mono (fun e w' ⟨⟨r, h1, h2⟩, h3⟩ => ⟨by rw [h1, Bool.eq_false_iff.2 (fun h => c3 (h2.1 h))], h3⟩)
          have HT := Lib.hid HT
          have HN2 : Hid (¬ l.map CtlD.bare = m.map CtlD.bare) := Lib.hid (fun e => c3 (HN.out e).2.2.2.1)
          clear c3 HN HS
          go_upto_region 6 with fail
          refine wp_region_quiet_lit (by kernel_rfl) (by kernel_rfl) ?_
          simp only [List.append]
          repeat (go_big_quiet_step (first | (go_at_call 143; refine Calls.quiet_of (HC.out _)) | (go_at_call 86; with_reducible refine Calls.quiet_of (HT.out _))))
          refine wpQuiet_nil ?_
          intro _ hw'
          obtain ⟨nq, hw''⟩ := hw'
          subst hw''
          go_wp2
          go_ret
          exact ⟨⟨false, rfl, by simp only [Bool.false_eq_true, false_iff]; exact HN2.out⟩, q + nq, by rw [HQ.out]; first | exact World.drewN_drewN _ _ _ | rfl⟩
        have HT : ∀ n, Calls Tryz.prog 86 #[a.th.v, b.th.v] (wr.drewN n) fun e w' => e = .returned (.bool true) ∧ ∃ q', w' = (wr.drewN n).drewN q' := fun n => (HO.out.2.1 n).mono (fun e w' ⟨⟨r, h1, h2⟩, h3⟩ => ⟨by rw [h1, h2.2 c3], h3⟩)
        have HT := Lib.hid HT
        have HC3 := Lib.hid c3
        clear c3
        by_cases c4 : a.el.l.map CtlD.bare = b.el.l.map CtlD.bare
        case neg =>
          have HE : ∀ n, Calls Tryz.prog 86 #[a.el.v, b.el.v] (wr.drewN n) fun e w' => e = .returned (.bool false) ∧ ∃ q', w' = (wr.drewN n).drewN q' := fun n => (HO.out.2.2 n).mono (fun e w' ⟨⟨r, h1, h2⟩, h3⟩ => ⟨by rw [h1, Bool.eq_false_iff.2 (fun h => c4 (h2.1 h))], h3⟩)
          have HE := Lib.hid HE
          have HN2 : Hid (¬ l.map CtlD.bare = m.map CtlD.bare) := Lib.hid (fun e => c4 (HN.out e).2.2.2.2)
          clear c4 HN HS
          go_upto_region 6 with fail
          refine wp_region_quiet_lit (by kernel_rfl) (by kernel_rfl) ?_
          simp only [List.append]
          repeat (go_big_quiet_step (first | (go_at_call 143; refine Calls.quiet_of (HC.out _)) | (go_at_call 86; with_reducible refine Calls.quiet_of (HT.out _)) | (go_at_call 86; with_reducible refine Calls.quiet_of (HE.out _))))
          refine wpQuiet_nil ?_
          intro _ hw'
          obtain ⟨nq, hw''⟩ := hw'
          subst hw''
          go_wp2
          go_ret
          exact ⟨⟨false, rfl, by simp only [Bool.false_eq_true, false_iff]; exact HN2.out⟩, q + nq, by rw [HQ.out]; first | exact World.drewN_drewN _ _ _ | rfl⟩
        have HE : ∀ n, Calls Tryz.prog 86 #[a.el.v, b.el.v] (wr.drewN n) fun e w' => e = .returned (.bool true) ∧ ∃ q', w' = (wr.drewN n).drewN q' := fun n => (HO.out.2.2 n).mono (fun e w' ⟨⟨r, h1, h2⟩, h3⟩ => ⟨by rw [h1, h2.2 c4], h3⟩)
        have HE := Lib.hid HE
        have HS2 := Lib.hid (HS.out ⟨HC0.out, HC1.out, HC2.out, HC3.out, c4⟩)
        clear c4 HN HS
        go_upto_region 6 with fail
        refine wp_region_quiet_lit (by kernel_rfl) (by kernel_rfl) ?_
        simp only [List.append]
        repeat (go_big_quiet_step (first | (go_at_call 143; refine Calls.quiet_of (HC.out _)) | (go_at_call 86; with_reducible refine Calls.quiet_of (HT.out _)) | (go_at_call 86; with_reducible refine Calls.quiet_of (HE.out _))))
        refine wpQuiet_nil ?_
        intro _ hw'
        obtain ⟨nq, hw''⟩ := hw'
        subst hw''
        go_wp2
        go_roundw
        case rel => exact ⟨k + 1, by omega, by go_num, HS2, q + nq, by rw [HQ.out]; first | exact World.drewN_drewN _ _ _ | rfl⟩
        case measure => simp [intOf]; omega
      · have hk' : k = l.length := by omega
        subst hk'
        have HE : Hid (l.map CtlD.bare = m.map CtlD.bare) := Lib.hid (by have := HK.out; rw [List.take_length, HL.out, List.take_length] at this; exact this)
        go_wp2
        go_ret
        exact ⟨⟨true, rfl, by simp only [true_iff]; exact HE.out⟩, q, HQ.out⟩
end Go.Proofs.YtgfbikknkcaneaaGreat
