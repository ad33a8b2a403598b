/- The walk of the law ProgramEqual. No condition but that the programs were read from memory. -/
import Derived.Test.YtgfbikknkcaneaaGreatGh
import Derived.Test.YtgfbikknkcaneaaGreatGm
import Derived.Deep.RegionHeld3
namespace Go.Proofs.YtgfbikknkcaneaaGreat
open Go.RowKit

theorem SmallP.fit {p : ProgD} (h : SmallP p) : ProgFit p where
  headers := Nat.le_trans h.headers (by decide)
  hdr := fun x hx => Nat.le_trans (h.hdr x hx).len (by decide)
  metadata := Nat.le_trans h.metadata (by decide)
  registers := Nat.le_trans h.registers (by decide)
  actions := Nat.le_trans h.actions (by decide)
  act := fun a ha => ⟨Nat.le_trans (h.act a ha).params (by decide), Nat.le_trans (h.act a ha).body (by decide), fun s hs => ⟨Nat.le_trans ((h.act a ha).stmts s hs).1 (by decide), Nat.le_trans ((h.act a ha).stmts s hs).2 (by decide)⟩⟩
  tables := Nat.le_trans h.tables (by decide)
  tab := fun t ht => ⟨Nat.le_trans (h.tab t ht).keys (by decide), Nat.le_trans (h.tab t ht).acts (by decide), Nat.le_trans (h.tab t ht).args (by decide)⟩
  states := Nat.le_trans h.states (by decide)
  state := fun s hs => ⟨Nat.le_trans (h.state s hs).extract (by decide), Nat.le_trans (h.state s hs).cases (by decide)⟩
  control := Nat.le_trans h.nodes (by decide)
  conds := fun z hz => Nat.le_trans (h.conds z hz) (by decide)
  deparser := Nat.le_trans h.deparser (by decide)
/-- an own program's slices reach at least to their ends -/
theorem own_cap {w : World} {F : Nat → Prop} {t : TypeId} {k : Nat} {α : Type} {cells : α → List Value} {x : L α} (h : Own w F t k cells x) : x.l.length ≤ x.c := by
  obtain ⟨A, c, e, hle⟩ := own_slice h.1
  obtain ⟨l, A', c'⟩ := x
  injection e with _ _ e3
  show l.length ≤ c'
  have e4 : c' = c := e3
  rw [e4]
  exact hle
theorem ProgOwn.cap {w : World} {F : Nat → Prop} {p q : ProgD} (o : ProgOwn w F q) (h : ProgCap p) (e : q.bare = p.bare) : ProgCap q := by
  have e1 : q.tables.l.map TabD.bare = p.tables.l.map TabD.bare := congrArg ProgP.tables e
  have e2 : q.states.l.map StateD.bare = p.states.l.map StateD.bare := congrArg ProgP.states e
  refine ⟨fun x hx => own_cap (o.hdr x hx).fields, fun a ha => own_cap (o.act a ha).params, own_cap o.deparser, fun t ht => ?_, fun t ht v hv => ?_, fun s hs c hc => ?_⟩
  · obtain ⟨u, hu, ex⟩ := mem_bare e1 ht
    have := h.dflt u hu
    rwa [show u.defA = t.defA from congrArg TabP.defA ex] at this
  · obtain ⟨u, hu, ex⟩ := mem_bare e1 ht
    exact h.args u hu v (by rw [show u.args.l = t.args.l from congrArg TabP.args ex]; exact hv)
  · obtain ⟨u, hu, ex⟩ := mem_bare e2 hs
    exact h.cases u hu c (by rw [show u.cases.l = s.cases.l from congrArg StateP.cases ex]; exact hc)
theorem Says.is {e : Ending} {p : Prop} (h : Says e p) (b : Bool) (hb : b = true ↔ p) : e = .returned (.bool b) := by
  obtain ⟨c, rfl, hc⟩ := h
  have : c = b := by rw [Bool.eq_iff_iff, hc, hb]
  rw [this]
set_option maxRecDepth 100000 in
set_option maxHeartbeats 16000000 in
theorem law_equal (p q : ProgD) (w : World) (hp0 : ProgGood w p) (hq0 : ProgGood w q) :
    Calls Tryz.prog 6 #[.agg (progCells p), .agg (progCells q)] w fun e w' => e = .returned (.bool true) ∧ Below w.heap.size w w' := by
  obtain ⟨W, hW, hw, HB, hp⟩ := box2 w (progCells p) 31 (progCells q) 31
  have HW := Lib.hid hw
  have HP := Lib.hid (hp0.ok.below hw)
  have HQ := Lib.hid (hq0.ok.below hw)
  have HLp := Lib.hid (fun u (hb : Below W.heap.size W u) => tooLarge_any p u (HP.out.below hb) (len_cap hp0.control (by decide)) hp0.caps)
  have HLq := Lib.hid (fun u (hb : Below W.heap.size W u) => tooLarge_any q u (HQ.out.below hb) (len_cap hq0.control (by decide)) hq0.caps)
  have HCap := Lib.hid hp0.cap
  clear hp0 hq0 hw
  go_enter Tryz.func6, Tryz.ntmps6
  go_upto_region 1 with fail
  rw [← hW]
  clear hW
  go_wp2_with fail
  refine (HLp.out _ HB).mono ?_
  rintro e w1 ⟨⟨b, rfl, hb⟩, hbN⟩
  replace HB := below_step HB hbN
  have HS := Lib.hid hb
  clear hbN hb
  cases b with
  | true =>
    go_wp2_with fail
    refine (works_any _).mono ?_
    rintro e w2 ⟨rfl, hbN⟩
    replace HB := below_step HB hbN
    clear hbN
    go_wp2
    go_ret
    exact ⟨rfl, below_step HW.out HB⟩
  | false =>
  have HSm := Lib.hid (HS.out rfl)
  clear HS HLp
  go_wp2_with fail
  refine (HLq.out _ HB).mono ?_
  rintro e w1 ⟨⟨b, rfl, hb⟩, hbN⟩
  replace HB := below_step HB hbN
  clear hbN hb HLq
  cases b with
  | true =>
    go_wp2_with fail
    refine (works_any _).mono ?_
    rintro e w2 ⟨rfl, hbN⟩
    replace HB := below_step HB hbN
    clear hbN
    go_wp2
    go_ret
    exact ⟨rfl, below_step HW.out HB⟩
  | false =>
  go_wp2_with fail
  refine (clone_any p _ (HP.out.below HB) HSm.out.fit).mono ?_
  rintro e w2 ⟨c, rfl, hbare, hown, hbN⟩
  replace HB := below_step HB hbN
  refine Exists.elim (⟨_, rfl⟩ : ∃ V, V = w2.alloc (.cells (progCells c) 31)) fun V hV => ?_
  obtain ⟨k1, hu, hsz⟩ := box_cells hV
  have HBV := Lib.hid (below_step HB hu)
  have HPV := Lib.hid (HP.out.below HBV.out)
  have HQV := Lib.hid (HQ.out.below HBV.out)
  have HCV := Lib.hid ((hown.ok (HP.out) hbare).below hu)
  have HCc := Lib.hid (hown.cap HCap.out hbare)
  have HBare := Lib.hid hbare
  have hpc := fun w' h => blk_cells (n := 9) k1 w' h
  have hpV := fun w' (h : Below V.heap.size V w') => hp w' (below_step HBV.out h)
  clear hbare hown hbN k1 hu hsz hp
  go_upto_region 4 with fail
  rw [← hV]
  clear hV HB
  have H0 := Lib.hid (Below.refl V.heap.size V)
  have hB0 : Below V.heap.size V V := Below.refl _ _
  obtain ⟨r, hr⟩ : ∃ r : Bool, r = true ↔ p.bare = q.bare := ⟨@decide (p.bare = q.bare) (Classical.propDecidable _), by simp⟩
  have E1 : Hid (∀ u, Below V.heap.size V u → Calls Tryz.prog 21 #[.agg (progCells p), .agg (progCells q)] u fun e w2 => e = .returned (.bool r) ∧ Below u.heap.size u w2) := Lib.hid (fun u hb => (equal_any p q u (HPV.out.below hb) (HQV.out.below hb)).mono fun e w2 ⟨h1, h2⟩ => ⟨h1.is r hr, h2⟩)
  have E2 : Hid (∀ u, Below V.heap.size V u → Calls Tryz.prog 22 #[.agg (progCells p), .agg (progCells q)] u fun e w2 => e = .returned (.bool r) ∧ Below u.heap.size u w2) := Lib.hid (fun u hb => (requal_any p q u (HPV.out.below hb) (HQV.out.below hb)).mono fun e w2 ⟨h1, h2⟩ => ⟨h1.is r hr, h2⟩)
  have E3 : Hid (∀ u, Below V.heap.size V u → Calls Tryz.prog 21 #[.agg (progCells q), .agg (progCells p)] u fun e w2 => e = .returned (.bool r) ∧ Below u.heap.size u w2) := Lib.hid (fun u hb => (equal_any q p u (HQV.out.below hb) (HPV.out.below hb)).mono fun e w2 ⟨h1, h2⟩ => ⟨h1.is r (hr.trans eq_comm), h2⟩)
  have E4 : Hid (∀ u, Below V.heap.size V u → Calls Tryz.prog 22 #[.agg (progCells p), .agg (progCells c)] u fun e w2 => e = .returned (.bool true) ∧ Below u.heap.size u w2) := Lib.hid (fun u hb => (requal_any p c u (HPV.out.below hb) (HCV.out.below hb)).mono fun e w2 ⟨h1, h2⟩ => ⟨h1.is true (by simp [HBare.out]), h2⟩)
  have E5 : Hid (∀ u, Below V.heap.size V u → Calls Tryz.prog 21 #[.agg (progCells p), .agg (progCells c)] u fun e w2 => e = .returned (.bool true) ∧ Below u.heap.size u w2) := Lib.hid (fun u hb => (equal_any p c u (HPV.out.below hb) (HCV.out.below hb)).mono fun e w2 ⟨h1, h2⟩ => ⟨h1.is true (by simp [HBare.out]), h2⟩)
  obtain ⟨d, hd⟩ : ∃ d, d = diagM p := ⟨_, rfl⟩
  obtain ⟨d0, d1, d2, d3⟩ := d
  have E6 : Hid (∀ u, Below V.heap.size V u → Calls Tryz.prog 19 #[.agg (progCells c)] u fun e w2 => e = .returned (.agg #[.int .i64 d0, .int .i64 d1, .int .i64 d2, .int .i64 d3]) ∧ Below u.heap.size u w2) := Lib.hid (fun u hb => by
    have h := check_any c u (HCV.out.below hb) HCc.out (by
      have h1 := pres_bare (show CtlD.bares c.control.l = CtlD.bares p.control.l by rw [bares_map, bares_map]; exact congrArg ProgP.control HBare.out)
      rw [len_bare h1]; exact Nat.le_trans HSm.out.nodes (by decide))
    rw [diagM_bare HBare.out, ← hd] at h
    exact h)
  have E7 : Hid (∀ u, Below V.heap.size V u → Calls Tryz.prog 19 #[.agg (progCells p)] u fun e w2 => e = .returned (.agg #[.int .i64 d0, .int .i64 d1, .int .i64 d2, .int .i64 d3]) ∧ Below u.heap.size u w2) := Lib.hid (fun u hb => by
    have h := check_any p u (HPV.out.below hb) HCap.out (Nat.le_trans HSm.out.nodes (by decide))
    rw [← hd] at h
    exact h)
  have hdd := eql_diag d0 d1 d2 d3
  have hrr : (r == r) = true := by simp
  clear hd hr
  go_region_held3 (fun w' => Below V.heap.size V w') (first | exact H0.out | exact below_drew H0.out | (exact below_step (by assumption) (by assumption)) | assumption)
    (first
    | (go_at_call 21; with_reducible (refine (E1.out _ (by assumption)).mono ?_); rintro e w5 ⟨rfl, hb1⟩)
    | (go_at_call 22; with_reducible (refine (E2.out _ (by assumption)).mono ?_); rintro e w5 ⟨rfl, hb1⟩)
    | (go_at_call 21; with_reducible (refine (E3.out _ (by assumption)).mono ?_); rintro e w5 ⟨rfl, hb1⟩)
    | (go_at_call 22; with_reducible (refine (E4.out _ (by assumption)).mono ?_); rintro e w5 ⟨rfl, hb1⟩)
    | (go_at_call 21; with_reducible (refine (E5.out _ (by assumption)).mono ?_); rintro e w5 ⟨rfl, hb1⟩)
    | (go_at_call 19; with_reducible (refine (E6.out _ (by assumption)).mono ?_); rintro e w5 ⟨rfl, hb1⟩)
    | (go_at_call 19; with_reducible (refine (E7.out _ (by assumption)).mono ?_); rintro e w5 ⟨rfl, hb1⟩)
    | (go_at_call 18; refine (works_any _).mono ?_; rintro e w5 ⟨rfl, hb1⟩))
  have HB5 : Hid (Below V.heap.size V _) := Lib.hid (by assumption)
  go_wp2
  go_ret
  exact ⟨rfl, below_step HW.out (below_step HBV.out HB5.out)⟩
end Go.Proofs.YtgfbikknkcaneaaGreat
