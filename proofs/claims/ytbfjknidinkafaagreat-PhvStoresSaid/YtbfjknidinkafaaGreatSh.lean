/- The walks of the reference's equality of environments, at equal environments (package patchbayref12). No condition but that both lie in memory. -/
import Derived.Test.YtbfjknidinkafaaGreatSg
import Derived.Test.YtbfjknidinkafaaGreatSf
import Derived.Test.YtbfjknidinkafaaGreatSd
import Derived.Test.YtbfjknidinkafaaGreatSa
import Derived.Laws.BytesArg
import Derived.BigQuiet
namespace Go.Proofs.YtbfjknidinkafaaGreat
open Go.RowKit
set_option maxRecDepth 100000
set_option maxHeartbeats 16000000
structure VB (w : World) (B : Nat) (v : L Int) (b : L Bool) : Prop where
  v : OwnL w B 83 ucell v
  b : OwnL w B 4 bcell b
theorem VB.below {w w' : World} {B : Nat} {v : L Int} {b : L Bool} (o : VB w B v b) (hb : Below w.heap.size w w') : VB w' B v b := ⟨o.v.below hb, o.b.below hb⟩
theorem VB.four {w : World} {B ga : Nat} {v : L Int} {b : L Bool} (o : VB w B v b) (h : ga < B) (x y z u : Value) : VB ((((w.setCell ⟨ga, 0, none⟩ x).setCell ⟨ga, 1, none⟩ y).setCell ⟨ga, 2, none⟩ z).setCell ⟨ga, 3, none⟩ u) B v b :=
  ⟨o.v.four (fun q e1 e2 => by have := (o.v.lt q e1).1; omega) x y z u, o.b.four (fun q e1 e2 => by have := (o.b.lt q e1).1; omega) x y z u⟩
theorem below_step_ge {a b c : World} {B : Nat} (h : Below B a b) (h2 : Below b.heap.size b c) (hB : B ≤ b.heap.size) : Below B a c := h.trans (h2.mono hB)
theorem row_u {u : World} {B gf k : Nat} {x : L Int} (ho : OwnL u B 83 ucell x) (hA : x.A = some ⟨gf, 0, none⟩) (hk : k < x.l.length) : u.cell? ⟨gf, k, none⟩ = some (.int .u32 x.l[k]) := by
  obtain ⟨l, A, c⟩ := x
  simp only at hA hk ⊢
  subst hA
  obtain ⟨g', o', e1, d1⟩ := ucell_atA (ho.ok (fun _ => rfl)).1 hk
  simp only at e1
  injection e1 with e1
  injection e1 with e1 e2
  subst e1 e2
  have d2 := d1 u (Below.refl _ _)
  rw [Nat.zero_add] at d2
  exact d2
theorem preF_up (p : ProgD) (k : Nat) : ∀ d, preF p k ≤ preF p (k + d)
  | 0 => Nat.le_refl _
  | d + 1 => Nat.le_trans (preF_up p k d) (by rw [show k + (d + 1) = (k + d) + 1 by omega, preF]; omega)
theorem preF_in {p : ProgD} {k f : Nat} (hk : k < p.headers.l.length) (hf : f < nF p k) : preF p k + f < fN p := by
  have h1 := preF_up p (k + 1) (p.headers.l.length - (k + 1))
  rw [show k + 1 + (p.headers.l.length - (k + 1)) = p.headers.l.length by omega, preF] at h1
  unfold fN
  omega
theorem hdr_at {p : ProgD} {W : World} (o : ProgOk W p) {k : Nat} (hk : k < p.headers.l.length) : ∃ g0 of0 fA fc, p.headers.A = some ⟨g0, of0, none⟩ ∧ ∀ u, Below W.heap.size W u → u.cell? ⟨g0, of0 + k * 2 + 1, none⟩ = some (.slice fA (nF p k) fc) := by
  obtain ⟨g0, of0, hA, hall⟩ := HeaderD.atA o.headers hk
  refine ⟨g0, of0, p.headers.l[k].fields.A, p.headers.l[k].fields.c, hA, fun u hu => ?_⟩
  have h9 := (hall u hu).2
  rw [← nF_at hk] at h9
  exact h9
theorem cutV_zero (w : Int) : cutV w 0 = 0 := by
  unfold cutV
  split
  · rfl
  · rw [bits_and32]; show (((0#32) &&& bv (maskM w)).toNat : Int) = 0; simp
theorem heldM_none {l : List SlotD} {c : ConM} {i : Nat} (h : l.length ≤ i) : heldM l c i = 0 := by rw [heldM, List.getElem?_eq_none h]
theorem getC_range (c : ConM) (s : SlotD) : 0 ≤ getC c s ∧ getC c s ≤ 4294967295 := by
  unfold getC
  split
  · rename_i h
    have h1 := getI_range h.1 ((ofC c s.size).getD s.index.toNat 0)
    have h2 := maskM_lt s.width
    omega
  · exact ⟨Int.le_refl _, by decide⟩
theorem heldM_range (l : List SlotD) (c : ConM) (i : Nat) : 0 ≤ heldM l c i ∧ heldM l c i ≤ 4294967295 := by
  unfold heldM
  split
  · exact ⟨Int.le_refl _, by decide⟩
  · exact getC_range _ _
theorem range_short (l : List SlotD) (c : ConM) (N k : Nat) (_hk : k ≤ l.length) (h : k < N) (hl : k < l.length) : (List.range (min (k + 1) N)).map (heldM l c) = (List.range (min k N)).map (heldM l c) ++ [getC c l[k]] := by
  rw [show min (k + 1) N = min k N + 1 by omega, List.range_succ, List.map_append, show min k N = k by omega]
  simp only [List.map_cons, List.map_nil]
  rw [heldM, List.getElem?_eq_getElem hl]
def refSt (p : ProgD) (l : List SlotD) (c : ConM) (pl : List Int) (k f m : Nat) : EnvP :=
  stateE p (fun i => decide (i < k ∨ (i = k ∧ f ≠ 0)) && decide (heldM l c (fN p + i) ≠ 0)) (fun i j => if i < k ∨ (i = k ∧ j + 1 < f) then (if heldM l c (fN p + i) ≠ 0 then cutV (widthAt p i j) (heldM l c (preF p i + j)) else 0) else 0) (fun j => if j < m then cutV (widthAt p (-1) j) (heldM l c (fN p + p.headers.l.length + j)) else 0) pl
theorem refSt_zero (p : ProgD) (l : List SlotD) (c : ConM) (pl : List Int) : refSt p l c pl 0 0 0 = stateE p (fun _ => false) (fun _ _ => 0) (fun _ => 0) pl := by
  unfold refSt
  refine stateE_congr (fun h _ => by simp) (fun h _ f _ => by simp) (fun f _ => by simp)
theorem refSt_add {p : ProgD} {l : List SlotD} {c : ConM} {pl : List Int} {k : Nat} (hk : k < p.headers.l.length) (h : heldM l c (fN p + k) ≠ 0) : addE p (refSt p l c pl k 0 0) k = refSt p l c pl k 1 0 := by
  unfold refSt
  rw [add_state hk (fun _ f _ => by rw [if_neg (by omega)])]
  refine stateE_congr (fun i _ => ?_) (fun i _ f _ => ?_) (fun f _ => rfl)
  · by_cases e : i = k
    · subst e; simp [h]
    · rw [if_neg e]
      congr 1
      exact decide_eq_decide.2 (by omega)
  · congr 1
    exact propext (by omega)
theorem refSt_skip {p : ProgD} {l : List SlotD} {c : ConM} {pl : List Int} {k : Nat} (h : heldM l c (fN p + k) = 0) : refSt p l c pl k 0 0 = refSt p l c pl k 1 0 := by
  unfold refSt
  refine stateE_congr (fun i _ => ?_) (fun i _ f _ => ?_) (fun f _ => rfl)
  · by_cases e : i = k
    · subst e; simp [h]
    · congr 1
      exact decide_eq_decide.2 (by omega)
  · congr 1
    exact propext (by omega)
theorem refSt_set {p : ProgD} {l : List SlotD} {c : ConM} {pl : List Int} {k f : Nat} (hk : k < p.headers.l.length) : setE p (refSt p l c pl k (f + 1) 0) k f (heldM l c (preF p k + f)) = refSt p l c pl k (f + 2) 0 := by
  unfold refSt
  rw [set_fld hk]
  refine stateE_congr (fun i _ => ?_) (fun i _ j _ => ?_) (fun f _ => rfl)
  · congr 1
    exact decide_eq_decide.2 (by omega)
  · by_cases h1 : i = k ∧ j = f
    · obtain ⟨rfl, rfl⟩ := h1
      rw [if_pos (show i < i ∨ (i = i ∧ j + 1 < j + 2) by omega), if_neg (show ¬ (i < i ∨ (i = i ∧ j + 1 < j + 1)) by omega)]
      by_cases h2 : heldM l c (fN p + i) = 0
      · rw [if_neg (by simp [h2]), if_neg (by simp [h2])]
      · unfold cutV
        by_cases h3 : widthAt p i j = 0
        · rw [if_neg (by simp [h3]), if_pos h2, if_pos h3]
        · rw [if_pos ⟨rfl, rfl, by simp [h2], h3⟩, if_pos h2, if_neg h3]
    · rw [if_neg (fun h2 => h1 ⟨h2.1, h2.2.1⟩)]
      congr 1
      exact propext (by omega)
theorem refSt_keep {p : ProgD} {l : List SlotD} {c : ConM} {pl : List Int} {k f : Nat} (h : heldM l c (preF p k + f) = 0) : refSt p l c pl k (f + 1) 0 = refSt p l c pl k (f + 2) 0 := by
  unfold refSt
  refine stateE_congr (fun i _ => ?_) (fun i _ j _ => ?_) (fun f _ => rfl)
  · congr 1
    exact decide_eq_decide.2 (by omega)
  · by_cases h1 : i = k ∧ j = f
    · obtain ⟨rfl, rfl⟩ := h1
      rw [if_pos (show i < i ∨ (i = i ∧ j + 1 < j + 2) by omega), if_neg (show ¬ (i < i ∨ (i = i ∧ j + 1 < j + 1)) by omega), h, cutV_zero]
      simp
    · congr 1
      exact propext (by omega)
theorem refSt_next {p : ProgD} {l : List SlotD} {c : ConM} {pl : List Int} {k : Nat} : refSt p l c pl k (nF p k + 1) 0 = refSt p l c pl (k + 1) 0 0 := by
  unfold refSt
  refine stateE_congr (fun i _ => ?_) (fun i _ j hj => ?_) (fun f _ => rfl)
  · congr 1
    exact decide_eq_decide.2 (by omega)
  · congr 1
    refine propext ⟨fun h => ?_, fun h => ?_⟩
    · omega
    · rcases Nat.lt_or_ge i k with h1 | h1
      · exact .inl h1
      · have h2 : i = k := by omega
        subst h2
        exact .inr ⟨rfl, by omega⟩
theorem refSt_meta {p : ProgD} {l : List SlotD} {c : ConM} {pl : List Int} {k f : Nat} : setE p (refSt p l c pl k 0 f) (-1) f (heldM l c (fN p + p.headers.l.length + f)) = refSt p l c pl k 0 (f + 1) := by
  unfold refSt
  rw [set_meta]
  refine stateE_congr (fun _ _ => rfl) (fun _ _ _ _ => rfl) (fun j _ => ?_)
  by_cases h1 : j = f
  · subst h1
    rw [if_pos (show j < j + 1 by omega), if_neg (show ¬ j < j by omega)]
    unfold cutV
    by_cases h3 : widthAt p (-1) j = 0
    · rw [if_pos h3, if_neg (by simp [h3])]
    · rw [if_neg h3, if_pos ⟨rfl, h3⟩]
  · rw [if_neg (fun h2 => h1 h2.1)]
    congr 1
    exact propext (by omega)
theorem refSt_end {p : ProgD} {l : List SlotD} {c : ConM} {pl : List Int} {f : Nat} (h : f = p.metadata.l.length ∨ l.length ≤ fN p + p.headers.l.length + f) : refSt p l c pl p.headers.l.length 0 f = storeM p l c pl := by
  unfold refSt storeM
  refine stateE_congr (fun i hi => ?_) (fun i hi j hj => ?_) (fun j hj => ?_)
  · rw [decide_eq_true (show i < p.headers.l.length ∨ (i = p.headers.l.length ∧ 0 ≠ 0) by omega), Bool.true_and]
  · rw [if_pos (show i < p.headers.l.length ∨ (i = p.headers.l.length ∧ j + 1 < 0) by omega)]
  · by_cases h1 : j < f
    · rw [if_pos h1]
    · rw [if_neg h1, heldM_none (by omega), cutV_zero]
theorem refSt_fit {p : ProgD} {l : List SlotD} {c : ConM} {pl : List Int} (hs : AccSm p) (hp : pl.length ≤ 1000) (k f m : Nat) : EnvFit (refSt p l c pl k f m) := state_fit hs hp
theorem refSt_len {p : ProgD} {l : List SlotD} {c : ConM} {pl : List Int} (k f m : Nat) : (refSt p l c pl k f m).valid.length = p.headers.l.length ∧ (refSt p l c pl k f m).fields.length = p.headers.l.length := by simp [refSt, stateE]
theorem rstore_any (p : ProgD) (x : L SlotD) (c : ConD) (pl : L Int) (w : World) (o : ProgOk w p) (hs : AccSm p) (hx : LOk w 4 SlotD.cells x) (hl : x.l.length ≤ 1000) (hc : ConLOk w c) (hu : ConU c) (hp : LOkN w 1 ycell pl) (hpl : pl.l.length ≤ 1000) :
    Calls Tryz.prog 28 #[.agg (progCells p), .slice x.A x.l.length x.c, .agg (rconCells c), .slice pl.A pl.l.length pl.c] w fun r w' =>
      ∃ (e' : EnvD) (b : L Bool), r = .returned (.tuple #[.agg (envCells e'), .slice b.A b.l.length b.c]) ∧ e'.bare = storeM p x.l c.bare pl.l ∧ b.l = bitsOutM p x.l c.bare ∧ EnvHas w' w.heap.size e' ∧ OwnL w' w.heap.size 4 bcell b ∧ Below w.heap.size w w' := by
  obtain ⟨W, hW⟩ : ∃ W, W = ((w.alloc (.cells (progCells p) 31)).alloc (.cells (rconCells c) 62)).alloc (.cells #[.slice none 0 0, .slice none 0 0, .slice none 0 0, .slice none 0 0] 56) := ⟨_, rfl⟩
  have hw : Below w.heap.size w W := by rw [hW]; exact below3 _ _ _ _
  have HW := hi_ hw
  have HSz : Hid (W.heap.size = w.heap.size + 1 + 1 + 1) := hi_ (by rw [hW]; simp)
  have HP : Hid (Blk W w.heap.size 31 (progCells p)) := hi_ (by rw [hW]; exact ((Blk.new _ _ _).alloc _).alloc _)
  have HK : Hid (Blk W (w.heap.size + 1) 62 (rconCells c)) := hi_ (by rw [hW]; exact (by simpa using Blk.new (w.alloc (.cells (progCells p) 31)) 62 (rconCells c) : Blk _ (w.heap.size + 1) _ _).alloc _)
  have HZ : Hid (Blk W (w.heap.size + 1 + 1) 56 #[.slice none 0 0, .slice none 0 0, .slice none 0 0, .slice none 0 0]) := hi_ (by rw [hW]; simpa using Blk.new ((w.alloc (.cells (progCells p) 31)).alloc (.cells (rconCells c) 62)) 56 #[.slice none 0 0, .slice none 0 0, .slice none 0 0, .slice none 0 0])
  have HO := hi_ (fun u (hb : Below W.heap.size W u) => o.below (below_step hw hb))
  have HNw := hi_ (fun u (hb : Below W.heap.size W u) => rnew_any p u (HO.out u hb) hs)
  have HCc := hi_ (fun u (hb : Below W.heap.size W u) => rcells36_any p u (HO.out u hb) hs)
  have HGt := hi_ (fun u (hb : Below W.heap.size W u) s => rget36_any c s u (hc.below (below_step hw hb)) hu)
  have HXo := hi_ (fun u (hb : Below W.heap.size W u) => hx.below (below_step hw hb) (Nat.le_refl _))
  have HPl := hi_ (fun u (hb : Below W.heap.size W u) => hp.below (below_step hw hb))
  have HS := hi_ hs
  have HPL := hi_ (preF_le hs)
  have hHd := hs.headers
  have hMd := hs.metadata
  have hp0 := fun w' (h : Below W.heap.size W w') => blk_cells' (n := 9) HP.out w' h
  have hk0 := fun w' (h : Below W.heap.size W w') => blk_cells' (n := 3) HK.out w' h
  have hcl : cellsN p ≤ 10200 := by have := fN_le hs; have := hs.headers; have := hs.metadata; unfold cellsN; omega
  clear o hs hx hc hu hp hw
  obtain ⟨l, A, cx⟩ := x
  obtain ⟨pl, pA, pc⟩ := pl
  simp only at hl hpl HXo HPl ⊢
  have HCN := hi_ (show cellsN p = fN p + (p.headers.l.length + p.metadata.l.length) from rfl)
  have HBo : Hid (bitsOutM p l c.bare = (l.drop (cellsN p)).map fun s => decide (getC c.bare s ≠ 0)) := hi_ rfl
  generalize hN : cellsN p = N at *
  have HNn := hi_ hN
  clear hN
  have HB0 := hi_ (Below.refl W.heap.size W)
  go_enter Tryz.func28, Tryz.ntmps28
  go_upto_region 1 with fail
  rw [← hW]
  clear hW
  have hq := hp0 W HB0.out
  go_wp2_with fail
  refine (HNw.out W HB0.out).mono ?_
  rintro r w1 ⟨e0, rfl, hbe, hm, hpn, hb1⟩
  have HM1 := hi_ hm
  have HB1 := hi_ hb1
  have HBe := hi_ hbe
  obtain ⟨ev, ef, em, ep⟩ := e0
  simp only at hpn
  subst hpn
  clear hbe hm hb1 hq HNw
  refine Exists.elim (⟨_, rfl⟩ : ∃ V, V = w1.alloc (.cells #[.slice ev.A ev.l.length ev.c, .slice ef.A ef.l.length ef.c, .slice em.A em.l.length em.c, .slice none 0 0] 56)) fun V hV => ?_
  have HGV : Hid (Blk V w1.heap.size 56 (envCells ⟨ev, ef, em, ⟨[], none, 0⟩⟩)) := hi_ (by rw [hV]; exact Blk.new _ _ _)
  have HBV : Hid (Below W.heap.size W V) := hi_ (by rw [hV]; exact below_step HB1.out (below1 _ _))
  have HB1V : Hid (Below w1.heap.size w1 V) := hi_ (by rw [hV]; exact below1 _ _)
  go_upto_region 3 with fail
  rw [← hV]
  clear hV
  have g3 : V.cell? ⟨w1.heap.size, 3, none⟩ = some (.slice none 0 0) := HGV.out.cell 3
  have gf := HGV.out.frozen 3
  obtain ⟨i0, hi, hz0, hz1, hz2⟩ := info_parts info_u8
  have hgl := HGV.out.lt
  go_wp2_with (first
    | (at_builtin; refine wpList_append_L rfl _ _ 54 rfl V.heap.size 5 i0 _ 1 1 Tryz.underlying54 hi hz0 hz1 hz2 rfl (by decide) _ _ _ rfl (World.ownsRow_nil _ _ _ _) ⟨pl, pA, pc⟩ rfl (HPl.out V HBV.out).1 (HPl.out V HBV.out).2 (fun _ => rfl) one_ycell ?c1 ?c2 ?c3 ?_))
  case c1 => unfold maxLen; omega
  case c2 => omega
  try (case c3 => exact Nat.le_refl _)
  intro v' w3 hown3 hgrow
  have HB3 : Hid (Below V.heap.size V w3) := hi_ (grown_below (World.ownsRow_nil V V.heap.size 5 1) hgrow (Nat.le_refl _))
  try simp only [Nat.zero_add, List.nil_append] at hown3
  obtain ⟨A3, c3, rfl, _⟩ := own_list (cells := ycell) (l := pl) (fun _ => rfl) hown3
  have HPo : Hid (OwnL w3 V.heap.size 5 ycell ⟨pl, A3, c3⟩) := hi_ hown3
  have HG3 := hi_ (HGV.out.below HB3.out HGV.out.lt)
  have g3' : w3.cell? ⟨w1.heap.size, 3, none⟩ = some (.slice none 0 0) := HG3.out.cell 3
  have gf' := HG3.out.frozen 3
  clear hown3 hgrow g3 gf
  go_upto_region 6 with fail
  refine Exists.elim (⟨_, rfl⟩ : ∃ U, U = w3.setCell ⟨w1.heap.size, 3, none⟩ (.slice A3 pl.length c3)) fun U hU => ?_
  have HGU : Hid (Blk U w1.heap.size 56 (envCells ⟨ev, ef, em, ⟨pl, A3, c3⟩⟩)) := hi_ (by
    rw [hU]
    have h9 := HG3.out.set_ 3 (.slice A3 pl.length c3)
    simpa [envCells] using h9)
  have HBU : Hid (Below W.heap.size W U) := hi_ (by rw [hU]; exact (below_step HBV.out HB3.out).setCell (by exact HB1.out.size) _)
  have HEU : Hid (EnvHas U W.heap.size ⟨ev, ef, em, ⟨pl, A3, c3⟩⟩) := hi_ (by
    rw [hU]
    have hh : ∀ {t : TypeId} {α : Type} {cells : α → List Value} {y : L α}, OwnL w1 W.heap.size t cells y → OwnL (w3.setCell ⟨w1.heap.size, 3, none⟩ (.slice A3 pl.length c3)) W.heap.size t cells y := fun {t α cells y} ho =>
      ((ho.below HB1V.out).below HB3.out).oneSet (fun b e1 e2 => by have := (ho.lt b e1).2; omega) 3 _
    exact ⟨hh HM1.out.valid, hh HM1.out.fields, fun x hx => hh (HM1.out.each x hx), hh HM1.out.metaV, (HPo.out.oneSet (fun b e1 e2 => by have := (HPo.out.lt b e1).1; omega) 3 _).lower HBV.out.size⟩)
  have HE1 : Hid ((⟨ev, ef, em, ⟨pl, A3, c3⟩⟩ : EnvD).bare = refSt p l c.bare pl 0 0 0) := hi_ (by
    rw [refSt_zero]
    have h9 := HBe.out
    unfold newE stateE EnvD.bare at h9
    unfold stateE EnvD.bare
    simp only [EnvP.mk.injEq] at h9 ⊢
    exact ⟨h9.1, h9.2.1, h9.2.2.1, trivial⟩)
  rw [← hU]
  have HGW : Hid (W.heap.size ≤ w1.heap.size) := hi_ HB1.out.size
  generalize w1.heap.size = ga at *
  obtain ⟨e1, he1⟩ : ∃ e1 : EnvD, e1 = ⟨ev, ef, em, ⟨pl, A3, c3⟩⟩ := ⟨_, rfl⟩
  rw [← he1] at HGU HEU HE1
  clear hU HGV HBV HB1V HB3 HPo HG3 g3' gf' hgl HM1 HB1 HBe hi hz0 hz1 hz2 he1
  have hq := hp0 U HBU.out
  go_wp2_with fail
  refine (HCc.out U HBU.out).mono ?_
  rintro r w4 ⟨rfl, hb4⟩
  have HEA : Hid (EAt w4 W.heap.size ga e1) := hi_ ⟨HEU.out.below hb4, HGU.out.below hb4 HGU.out.lt⟩
  have HB4 := hi_ (below_step HBU.out hb4)
  have HGB : Hid (ga < w4.heap.size) := hi_ HEA.out.blk.lt
  clear hq hb4 HGU HEU HBU HCc
  have hk4 := hk0 w4 HB4.out
  go_wp2
  clear hk4
  obtain ⟨gB, hgB⟩ : ∃ gB, gB = w4.heap.size := ⟨_, rfl⟩
  rw [← hgB] at HGB
  have HgB := hi_ hgB
  clear hgB
  obtain ⟨i1, gi, gz0, gz1, gz2⟩ := info_parts info_u32
  obtain ⟨j1, ji, jz0, jz1, jz2⟩ := info_parts info_bool
  go_loopw [12, 13, 15, 16] (fun vv bv iv _ wr => ∃ (k : Nat) (lv : List Int) (Av : Option Addr) (cv : Nat) (lb : List Bool) (Ab : Option Addr) (cb : Nat), k ≤ l.length ∧ iv = .int .i64 k ∧ vv = .slice Av lv.length cv ∧ bv = .slice Ab lb.length cb ∧ lv.length ≤ k ∧ lb.length ≤ k ∧ Hid (lv = (List.range (min k N)).map (heldM l c.bare)) ∧ Hid (lb = ((l.drop N).take (k - N)).map (fun s => decide (getC c.bare s ≠ 0))) ∧ Hid (VB wr gB ⟨lv, Av, cv⟩ ⟨lb, Ab, cb⟩ ∧ AptB (⟨lv, Av, cv⟩ : L Int).v (⟨lb, Ab, cb⟩ : L Bool).v) ∧ Hid (Below gB w4 wr)) (fun _ _ i _ _ => l.length - (intOf i).toNat)
  case atStart => exact ⟨0, [], none, 0, [], none, 0, Nat.zero_le _, rfl, rfl, rfl, Nat.zero_le _, Nat.zero_le _, hi_ (by simp), hi_ (by simp), hi_ ⟨⟨World.ownsRow_nil _ _ _ _, World.ownsRow_nil _ _ _ _⟩, fun b h => (by cases h)⟩, hi_ (by rw [HgB.out]; exact Below.refl _ _)⟩
  case round =>
  obtain ⟨k, lv, Av, cv, lb, Ab, cb, hk, rfl, rfl, rfl, hlv, hlb, HLv, HLb, HVB, HB⟩ := hrel
  have HBr : Hid (Below W.heap.size W wr) := hi_ (below_step HB4.out (by rw [← HgB.out]; exact HB.out))
  by_cases hlt : k < l.length
  case pos =>
    obtain ⟨g0, of0, hA, hall⟩ := SlotD.atA (HXo.out W HB0.out) hlt
    simp only at hA
    have d4 := hall
    obtain ⟨d0, d1, d2, d3⟩ := hall wr HBr.out
    have HLn : Hid (k < N → lv ++ [getC c.bare l[k]] = (List.range (min (k + 1) N)).map (heldM l c.bare)) := hi_ (fun h => by rw [HLv.out, range_short l c.bare N k hk h hlt])
    have HLs : Hid (¬ k < N → lv = (List.range (min (k + 1) N)).map (heldM l c.bare)) := hi_ (fun h => by rw [HLv.out, show min (k + 1) N = min k N by omega])
    have HBn : Hid (¬ k < N → lb ++ [decide (getC c.bare l[k] ≠ 0)] = ((l.drop N).take (k + 1 - N)).map (fun s => decide (getC c.bare s ≠ 0))) := hi_ (fun h => by
      rw [HLb.out, show k + 1 - N = (k - N) + 1 by omega, List.take_succ_eq_append_getElem (by simp; omega), List.map_append]
      congr 1
      simp only [List.map_cons, List.map_nil, List.getElem_drop]
      congr 4
      all_goals (first | (congr 1; omega) | omega))
    have HBs : Hid (k < N → lb = ((l.drop N).take (k + 1 - N)).map (fun s => decide (getC c.bare s ≠ 0))) := hi_ (fun h => by rw [HLb.out, show k + 1 - N = k - N by omega])
    have hgs : gB ≤ wr.heap.size := by have := HB.out.size; have := HgB.out; omega
    have hk4 := hk0 wr HBr.out
    have HS4 : Hid (∀ u, Below W.heap.size W u → (u.cell? ⟨g0, of0 + k * 4, none⟩ = some (.int .i64 l[k].size) ∧ u.cell? ⟨g0, of0 + k * 4 + 1, none⟩ = some (.int .i64 l[k].index) ∧ u.cell? ⟨g0, of0 + k * 4 + 2, none⟩ = some (.int .i64 l[k].off) ∧ u.cell? ⟨g0, of0 + k * 4 + 3, none⟩ = some (.int .i64 l[k].width))) := hi_ d4
    have hlki : (k : Int) < (l.length : Int) := by omega
    have hlk2 := hlt
    subst hA
    clear hall d4
    generalize l[k] = s at *
    clear hlt
    obtain ⟨z, i, f, d⟩ := s
    simp only at d0 d1 d2 d3 HS4
    have HK0 := hi_ hk0
    clear d0 d1 d2 d3 hk4
    go_upto_region 10 with fail
    have hk4 := fun u (h : Below wr.heap.size wr u) => HK0.out u (below_step HBr.out h)
    have hs4 := fun u (h : Below wr.heap.size wr u) => HS4.out u (below_step HBr.out h)
    have H0 := hi_ (Below.refl wr.heap.size wr)
    go_region_held3 (fun w' => Below wr.heap.size wr w') (first | exact H0.out | exact below_drew H0.out | (exact below_step (by assumption) (by assumption)) | assumption)
      (first | (go_at_call 74; refine (HGt.out _ (below_step HBr.out (by assumption)) ⟨z, i, f, d⟩).mono ?_; rintro r w6 ⟨rfl, hb6⟩))
    have HB6r : Hid (Below wr.heap.size wr w6) := hi_ (by assumption)
    have HB6 := hi_ (show Below gB w4 w6 from HB.out.trans (HB6r.out.mono hgs))
    have HV6 := hi_ (HVB.out.1.below HB6r.out)
    have hAp := hi_ HVB.out.2
    have hgs6 : gB ≤ w6.heap.size := Nat.le_trans hgs HB6r.out.size
    have HGr := hi_ (getC_range c.bare ⟨z, i, f, d⟩)
    clear hk4 hs4 H0
    by_cases hkN : k < N
    case pos =>
      have hkNi : (k : Int) < (N : Int) := by omega
      have HLn2 := hi_ (HLn.out hkN)
      have HBs2 := hi_ (HBs.out hkN)
      generalize getC c.bare ⟨z, i, f, d⟩ = gv at *
      have hown := HV6.out.v
      unfold OwnL at hown
      simp only [L.v] at hown
      clear HLn HLs HBn HBs hkN HVB
      go_wp2_with (first
        | (at_builtin; refine wpList_append_own_at _ rfl _ _ 53 rfl gB 83 i1 _ 1 4 Tryz.underlying53 gi gz0 gz1 gz2 rfl (by decide) _ _ _ rfl (hown.alloc _) ⟨w6.heap.size, 0, none⟩ 1 1 [.int .u32 gv] rfl rfl ?g01 ?g02 ?g03 ?g04 ?g05 ?_))
      case g01 => exact new_cells _ _ _
      case g02 => intro u hu; simp only [List.mem_cons, List.not_mem_nil, or_false] at hu; subst hu; rfl
      case g03 => unfold maxLen; omega
      case g04 => omega
      case g05 => first | omega | (simp; omega)
      intro v1 w7 hown2 hgrow _ hat
      obtain ⟨A1, c1, rfl⟩ := row_slice1 hown2
      have HB7 : Hid (Below gB w4 w7) := hi_ ((below_step_ge HB6.out (below1 _ _) hgs6).grown hgrow (by simp; omega) (fun j e => (HV6.out.v.lt j e).1))
      have HO7 : Hid (OwnL w7 gB 83 ucell ⟨lv ++ [gv], A1, c1⟩) := hi_ (by
        unfold OwnL
        simp only [L.v, List.length_append, List.length_cons, List.length_nil, Nat.zero_add]
        simpa [List.flatMap_append, ucell] using hown2)
      have HOb7 : Hid (OwnL w7 gB 4 bcell ⟨lb, Ab, cb⟩) := hi_ ((HV6.out.b.below (below1 _ _)).grown hgrow (fun j e1 e2 => hAp.out j e2 e1))
      have HAp7 : Hid (AptB (⟨lv ++ [gv], A1, c1⟩ : L Int).v (⟨lb, Ab, cb⟩ : L Bool).v) := hi_ (fun j e1 e2 => by
        have h1 := (HV6.out.b.lt j e2).2
        rcases hat with h2 | h2
        · exact hAp.out j (h2.symm.trans (by simpa [L.v] using e1)) e2
        · have h3 := h2.symm.trans (by simpa [L.v] using e1 : _ = some j)
          simp at h3
          omega)
      clear hown hown2 hgrow hat HV6 HB6 HB6r hAp
      go_wp2
      go_roundw
      case rel => exact ⟨k + 1, lv ++ [gv], A1, c1, lb, Ab, cb, by omega, by go_num, by simp, rfl, by simp; omega, by omega, HLn2, HBs2, hi_ ⟨⟨HO7.out, HOb7.out⟩, HAp7.out⟩, HB7⟩
      case measure => simp [intOf]; omega
    have hkNi : ¬ (k : Int) < (N : Int) := by omega
    have HLs2 := hi_ (HLs.out hkN)
    have HBn2 := hi_ (HBn.out hkN)
    obtain ⟨b0, hb0⟩ : ∃ b0 : Bool, b0 = decide (getC c.bare ⟨z, i, f, d⟩ ≠ 0) := ⟨_, rfl⟩
    have hbn : (getC c.bare ⟨z, i, f, d⟩ != 0) = b0 := by rw [hb0]; by_cases h9 : getC c.bare ⟨z, i, f, d⟩ = 0 <;> simp [h9]
    rw [← hb0] at HBn2
    generalize getC c.bare ⟨z, i, f, d⟩ = gv at *
    have hown := HV6.out.b
    unfold OwnL at hown
    simp only [L.v] at hown
    clear HLn HLs HBn HBs hkN HVB hb0
    go_wp2_with (first
      | (at_builtin; refine wpList_append_own_at _ rfl _ _ 51 rfl gB 4 j1 _ 1 1 Tryz.underlying51 ji jz0 jz1 jz2 rfl (by decide) _ _ _ rfl (hown.alloc _) ⟨w6.heap.size, 0, none⟩ 1 1 [.bool b0] rfl rfl ?g11 ?g12 ?g13 ?g14 ?g15 ?_))
    try (case g11 => exact new_cells _ _ _)
    case g12 => first | rfl | (intro u hu; simp only [List.mem_cons, List.not_mem_nil, or_false] at hu; subst hu; rfl)
    case g13 => unfold maxLen; omega
    case g14 => omega
    case g15 => first | omega | (simp; omega)
    intro v1 w7 hown2 hgrow _ hat
    obtain ⟨A1, c1, rfl⟩ := row_slice1 hown2
    have HB7 : Hid (Below gB w4 w7) := hi_ ((below_step_ge HB6.out (below1 _ _) hgs6).grown hgrow (by simp; omega) (fun j e => (HV6.out.b.lt j e).1))
    have HO7 : Hid (OwnL w7 gB 4 bcell ⟨lb ++ [b0], A1, c1⟩) := hi_ (by
      unfold OwnL
      simp only [L.v, List.length_append, List.length_cons, List.length_nil, Nat.zero_add]
      simpa [List.flatMap_append, bcell] using hown2)
    have HOv7 : Hid (OwnL w7 gB 83 ucell ⟨lv, Av, cv⟩) := hi_ ((HV6.out.v.below (below1 _ _)).grown hgrow (fun j e1 e2 => hAp.out j e1 e2))
    have HAp7 : Hid (AptB (⟨lv, Av, cv⟩ : L Int).v (⟨lb ++ [b0], A1, c1⟩ : L Bool).v) := hi_ (fun j e1 e2 => by
      have h1 := (HV6.out.v.lt j e1).2
      rcases hat with h2 | h2
      · exact hAp.out j e1 (h2.symm.trans (by simpa [L.v] using e2))
      · have h3 := h2.symm.trans (by simpa [L.v] using e2 : _ = some j)
        simp at h3
        omega)
    clear hown hown2 hgrow hat HV6 HB6 HB6r hAp hbn
    go_wp2
    go_roundw
    case rel => exact ⟨k + 1, lv, Av, cv, lb ++ [b0], A1, c1, by omega, by go_num, rfl, by simp, by omega, by simp; omega, HLs2, HBn2, hi_ ⟨⟨HOv7.out, HO7.out⟩, HAp7.out⟩, HB7⟩
    case measure => simp [intOf]; omega
  have hkl : k = l.length := by omega
  have HLl : Hid (lv.length = min l.length N) := hi_ (by rw [HLv.out, hkl]; simp)
  have HLat : Hid (∀ i (h : i < lv.length), lv[i] = heldM l c.bare i) := hi_ (fun i h => by
    have h9 : lv[i]? = some (heldM l c.bare i) := by
      rw [HLv.out] at h ⊢
      simp at h
      simp [h]
    rw [List.getElem?_eq_getElem h] at h9
    injection h9)
  have HLbE : Hid (lb = bitsOutM p l c.bare) := hi_ (by rw [HLb.out, HBo.out, hkl, List.take_of_length_le (by simp)])
  have HEr : Hid (EAt wr W.heap.size ga e1) := hi_ (HEA.out.below (by rw [← HgB.out]; exact HB.out))
  have HVr := hi_ HVB.out.1
  obtain ⟨wS, hwS⟩ : ∃ wS, wS = wr := ⟨_, rfl⟩
  rw [← hwS] at HEr HVr HBr ⊢
  clear hwS HB HVB HLv HLb hkl HgB HEA hk0 HBo
  have hcl2 := HCN.out
  obtain ⟨q, hqq⟩ : ∃ q, q = p.headers.A := ⟨_, rfl⟩
  have HS1 : Hid (∀ u, Below W.heap.size W u → u.cell? ⟨w.heap.size, 1, none⟩ = some (.slice q p.headers.l.length p.headers.c)) := hi_ (fun u h => by rw [hqq]; exact hp0 u h 1 (by decide))
  have HS2 : Hid (∀ u, Below W.heap.size W u → u.cell? ⟨w.heap.size, 2, none⟩ = some (.slice p.metadata.A p.metadata.l.length p.metadata.c)) := hi_ (fun u h => hp0 u h 2 (by decide))
  have HQ := hi_ hqq
  have HP00 := hi_ hp0
  clear hqq hp0
  go_wp2
  go_loopw [17, 18] (fun fv iv wr => ∃ k m : Nat, k ≤ p.headers.l.length ∧ iv = .int .i64 k ∧ fv = .int .i64 m ∧ m ≤ 100 * k ∧ Hid (m = preF p k) ∧ wS = wr) (fun _ i _ => p.headers.l.length - (intOf i).toNat)
  case atStart => exact ⟨0, 0, Nat.zero_le _, rfl, rfl, Nat.le_refl _, hi_ rfl, rfl⟩
  case round =>
  obtain ⟨k2, m, hk2, rfl, rfl, hm, HM, rfl⟩ := hrel
  by_cases hlt2 : k2 < p.headers.l.length
  case pos =>
    obtain ⟨g0, of0, hA, hall⟩ := HeaderD.atA (HO.out W HB0.out).headers hlt2
    obtain ⟨d0, d1⟩ := hall wS HBr.out
    have hn1 := nF_at hlt2
    rw [← hn1] at d1
    have hqs : q = some ⟨g0, of0, none⟩ := by rw [HQ.out]; exact hA
    have hn2 := HS.out.fields k2
    obtain ⟨n, hnn⟩ : ∃ n, n = nF p k2 := ⟨_, rfl⟩
    rw [← hnn] at d1 hn2
    have HNn2 := hi_ hnn
    have s1 := HS1.out wS HBr.out
    have hlti : (k2 : Int) < (p.headers.l.length : Int) := by omega
    generalize p.headers.l[k2].fields.A = fA at *
    generalize p.headers.l[k2].fields.c = fc at *
    clear hall hn1 hA hnn d0 hlt2
    subst hqs
    go_wp2
    go_roundw
    case rel => exact ⟨k2 + 1, m + n, by omega, by go_num, by go_num, by omega, hi_ (by rw [HM.out, HNn2.out]; rfl), by first | trivial | rfl⟩
    case measure => simp [intOf]; omega
  have HMF : Hid (m = fN p) := hi_ (by rw [HM.out, fN, show k2 = p.headers.l.length by omega])
  have hmb : m ≤ 10000 := by rw [HMF.out]; exact fN_le HS.out
  have hk2i : ¬ (k2 : Int) < (p.headers.l.length : Int) := by omega
  have s1 := HS1.out wS HBr.out
  clear hm HM hlt2 hk2
  go_wp2
  clear s1 hk2i
  go_loopw [19, 20, 21] (fun av iv _ wr => ∃ (k a : Nat) (ee : EnvD), k ≤ p.headers.l.length ∧ iv = .int .i64 k ∧ av = .int .i64 a ∧ a ≤ 100 * k ∧ Hid (a = preF p k) ∧ Hid (ee.bare = refSt p l c.bare pl k 0 0) ∧ Hid (EAt wr W.heap.size ga ee) ∧ Hid (VB wr gB ⟨lv, Av, cv⟩ ⟨lb, Ab, cb⟩) ∧ Hid (Below W.heap.size W wr)) (fun _ i _ _ => p.headers.l.length - (intOf i).toNat)
  case atStart => exact ⟨0, 0, e1, Nat.zero_le _, rfl, rfl, Nat.le_refl _, hi_ rfl, HE1, HEr, HVr, HBr⟩
  clear HE1 HEr HVr HBr
  case round =>
  obtain ⟨k, a, ee, hk, rfl, rfl, ha, HA, HBe, HEw, HVw, HBw⟩ := hrel
  by_cases hlt : k < p.headers.l.length
  case pos =>
    have HHd : Hid (∃ g0 of0 fA fc, q = some ⟨g0, of0, none⟩ ∧ ∀ u, Below W.heap.size W u → u.cell? ⟨g0, of0 + k * 2 + 1, none⟩ = some (.slice fA (nF p k) fc)) := hi_ (by rw [HQ.out]; exact hdr_at (HO.out W HB0.out) hlt)
    have hn2 := HS.out.fields k
    have hlti : (k : Int) < (p.headers.l.length : Int) := by omega
    have hmk : fN p + k < N := by omega
    have HHv := hi_ (heldM_range l c.bare (fN p + k))
    have hq := HP00.out wr HBw.out
    have HSk := hi_ (fun (h : heldM l c.bare (fN p + k) = 0) => HBe.out.trans (refSt_skip h))
    have HFit : Hid (EnvFit ee.bare) := hi_ (by rw [HBe.out]; exact refSt_fit HS.out hpl _ _ _)
    have HAd := hi_ (fun u (hu : Below wr.heap.size wr u) => raddHeader_any p ee k u hlt (HEw.out.ok.below hu) HFit.out (by rw [HBe.out, (refSt_len _ _ _).1]; exact hlt) (by rw [HBe.out, (refSt_len _ _ _).2]; exact hlt))
    have HAb := hi_ (fun (h : heldM l c.bare (fN p + k) ≠ 0) => show addE p ee.bare k = _ from by rw [HBe.out, refSt_add hlt h])
    obtain ⟨n, hnn⟩ : ∃ n, n = nF p k := ⟨_, rfl⟩
    rw [← hnn] at HHd hn2
    have HNn2 := hi_ hnn
    rw [← HMF.out] at HHv HSk HAb hmk
    clear hnn
    by_cases hin : m + k < lv.length
    case neg =>
      have h0 : heldM l c.bare (m + k) = 0 := heldM_none (by have := HLl.out; omega)
      have HBn := hi_ (HSk.out h0)
      have hini : ¬ (m : Int) + (k : Int) < (lv.length : Int) := by omega
      obtain ⟨wt, hwt⟩ : ∃ wt, wt = wr := ⟨_, rfl⟩
      rw [← hwt] at HEw HVw HBw hq ⊢
      clear hwt HAd HAb HSk h0 HHv hin HBe HFit
      obtain ⟨et, het⟩ : ∃ et, et = ee := ⟨_, rfl⟩
      rw [← het] at HBn HEw
      clear het
      obtain ⟨g0, of0, fA, fc, hqs, hHd⟩ := HHd.out
      have HHf := hi_ hHd
      subst hqs
      have s1 := HS1.out wt HBw.out
      have dh := hHd wt HBw.out
      clear hHd HHd hq
      go_wp2
      go_loopw [19, 21] (fun av fv wq => ∃ (f b : Nat) (eq : EnvD), f ≤ n ∧ fv = .int .i64 f ∧ av = .int .i64 b ∧ b ≤ 20000 ∧ Hid (b = a + f) ∧ Hid (eq.bare = refSt p l c.bare pl k (f + 1) 0) ∧ Hid (EAt wq W.heap.size ga eq) ∧ Hid (VB wq gB ⟨lv, Av, cv⟩ ⟨lb, Ab, cb⟩) ∧ Hid (Below W.heap.size W wq)) (fun _ i _ => n - (intOf i).toNat)
      case atStart => exact ⟨0, a, et, Nat.zero_le _, rfl, rfl, by omega, hi_ rfl, HBn, HEw, HVw, HBw⟩
      clear HBn HEw HVw HBw s1 dh
      case round =>
      obtain ⟨f, b, eq, hf, rfl, rfl, hb, HBq, HBe, HEw, HVw, HBw⟩ := hrel
      have s1 := HS1.out wr HBw.out
      have dh := HHf.out wr HBw.out
      by_cases hlf : f < n
      case neg =>
        have HBz : Hid (eq.bare = refSt p l c.bare pl (k + 1) 0 0) := hi_ (by rw [HBe.out, show f = nF p k by have := HNn2.out; omega, refSt_next])
        have hlfi : ¬ (f : Int) < (n : Int) := by omega
        have HA2 : Hid (b = preF p (k + 1)) := hi_ (by have := HNn2.out; rw [HBq.out, HA.out, preF]; omega)
        have hb2 : b ≤ 100 * (k + 1) := by have := HBq.out; omega
        go_wp2
        go_roundw
        case rel => exact ⟨k + 1, b, eq, by omega, by go_num, rfl, hb2, HA2, HBz, HEw, HVw, HBw⟩
        case measure => simp [intOf]; omega
      have hlfi : (f : Int) < (n : Int) := by omega
      have hbf : b < N := by
        have h8 := preF_in (p := p) (k := k) (f := f) (by omega) (by rw [← HNn2.out]; exact hlf)
        have h7 := HBq.out
        have h6 := HA.out
        omega
      by_cases hat : b < lv.length
      case neg =>
        have h0 : heldM l c.bare b = 0 := heldM_none (by have := HLl.out; omega)
        have HBz : Hid (eq.bare = refSt p l c.bare pl k (f + 1 + 1) 0) := hi_ (by rw [HBe.out]; exact refSt_keep (by rw [← h0, HBq.out, HA.out]))
        have hati : ¬ (b : Int) < (lv.length : Int) := by omega
        clear h0 hat hlf
        go_wp2
        go_roundw
        case rel => exact ⟨f + 1, b + 1, eq, by omega, by go_num, by go_num, by omega, hi_ (by have := HBq.out; omega), HBz, HEw, HVw, HBw⟩
        case measure => simp [intOf]; omega
      obtain ⟨gh, hAv, hgh1, hgh2⟩ := HVw.out.v.at (fun e1 => by have e2 : lv = [] := e1; rw [e2] at hat; cases hat)
      simp only at hAv
      subst hAv
      obtain ⟨ix, hix⟩ : ∃ ix, ix = b := ⟨_, rfl⟩
      obtain ⟨hv, hhv⟩ : ∃ hv, hv = heldM l c.bare b := ⟨_, rfl⟩
      have HCell : Hid (∀ u, Below wr.heap.size wr u → u.cell? ⟨gh, ix, none⟩ = some (.int .u32 hv)) := hi_ (fun u hu => by rw [hix, hhv, ← HLat.out _ hat]; exact row_u (HVw.out.v.below hu) rfl hat)
      have HSB : Hid (∀ u, Below wr.heap.size wr u → (fun w' => (∀ i, i < 9 → w'.cell? ⟨w.heap.size, i, none⟩ = (progCells p)[i]?) ∧ w'.cell? ⟨gh, ix, none⟩ = some (.int .u32 hv) ∧ True ∧ True) u) := hi_ (fun u hu => ⟨HP00.out u (below_step HBw.out hu), HCell.out u hu, trivial, trivial⟩)
      have hrg := heldM_range l c.bare b
      rw [← hhv] at hrg
      have HFit : Hid (EnvFit eq.bare) := hi_ (by rw [HBe.out]; exact refSt_fit HS.out hpl _ _ _)
      have HSe : Hid (setE p eq.bare k f hv = refSt p l c.bare pl k (f + 2) 0) := hi_ (by rw [HBe.out, hhv]; rw [HBq.out, HA.out]; exact refSt_set (by omega))
      have HSt := hi_ (fun u (hu : Below wr.heap.size wr u) => rset_fld p eq k f hv u (HO.out u (below_step HBw.out hu)) (HEw.out.ok.below hu) HFit.out hrg.1 hrg.2)
      have hixi : (ix : Int) < (lv.length : Int) := by omega
      have HFin : Hid (∀ (w6 w7 : World) (ee2 : EnvD), Below wr.heap.size wr w6 → Below wr.heap.size wr w7 → EnvMine w7 w6.heap.size ee2 → ((fun w' => (∀ i, i < 9 → w'.cell? ⟨w.heap.size, i, none⟩ = (progCells p)[i]?) ∧ w'.cell? ⟨gh, ix, none⟩ = some (.int .u32 hv) ∧ True ∧ True) ((((w7.setCell ⟨ga, 0, none⟩ (.slice ee2.valid.A ee2.valid.l.length ee2.valid.c)).setCell ⟨ga, 1, none⟩ (.slice ee2.fields.A ee2.fields.l.length ee2.fields.c)).setCell ⟨ga, 2, none⟩ (.slice ee2.metaV.A ee2.metaV.l.length ee2.metaV.c)).setCell ⟨ga, 3, none⟩ (.slice ee2.payload.A ee2.payload.l.length ee2.payload.c)) ∧ Hid (EAt ((((w7.setCell ⟨ga, 0, none⟩ (.slice ee2.valid.A ee2.valid.l.length ee2.valid.c)).setCell ⟨ga, 1, none⟩ (.slice ee2.fields.A ee2.fields.l.length ee2.fields.c)).setCell ⟨ga, 2, none⟩ (.slice ee2.metaV.A ee2.metaV.l.length ee2.metaV.c)).setCell ⟨ga, 3, none⟩ (.slice ee2.payload.A ee2.payload.l.length ee2.payload.c)) W.heap.size ga ee2) ∧ Hid (VB ((((w7.setCell ⟨ga, 0, none⟩ (.slice ee2.valid.A ee2.valid.l.length ee2.valid.c)).setCell ⟨ga, 1, none⟩ (.slice ee2.fields.A ee2.fields.l.length ee2.fields.c)).setCell ⟨ga, 2, none⟩ (.slice ee2.metaV.A ee2.metaV.l.length ee2.metaV.c)).setCell ⟨ga, 3, none⟩ (.slice ee2.payload.A ee2.payload.l.length ee2.payload.c)) gB ⟨lv, some ⟨gh, 0, none⟩, cv⟩ ⟨lb, Ab, cb⟩) ∧ Hid (Below W.heap.size W ((((w7.setCell ⟨ga, 0, none⟩ (.slice ee2.valid.A ee2.valid.l.length ee2.valid.c)).setCell ⟨ga, 1, none⟩ (.slice ee2.fields.A ee2.fields.l.length ee2.fields.c)).setCell ⟨ga, 2, none⟩ (.slice ee2.metaV.A ee2.metaV.l.length ee2.metaV.c)).setCell ⟨ga, 3, none⟩ (.slice ee2.payload.A ee2.payload.l.length ee2.payload.c))))) := hi_ (fun w6 w7 ee2 h6 h7 hm => by
        have hlt6 : ga < w6.heap.size := Nat.lt_of_lt_of_le HEw.out.blk.lt h6.size
        have h9 := HSB.out w7 h7
        have hgW := HGW.out
        have hsz := HSz.out
        have hgB := HGB.out
        have hgh : gB ≤ gh := hgh1
        have far : ∀ (b i : Nat) (x y z u : Value), b ≠ ga → ((((w7.setCell ⟨ga, 0, none⟩ x).setCell ⟨ga, 1, none⟩ y).setCell ⟨ga, 2, none⟩ z).setCell ⟨ga, 3, none⟩ u).cell? ⟨b, i, none⟩ = w7.cell? ⟨b, i, none⟩ := fun b i x y z u hne => by
          rw [World.cell?_setCell_far _ _ _ _ (by exact fun e => hne e.symm), World.cell?_setCell_far _ _ _ _ (by exact fun e => hne e.symm), World.cell?_setCell_far _ _ _ _ (by exact fun e => hne e.symm), World.cell?_setCell_far _ _ _ _ (by exact fun e => hne e.symm)]
        refine ⟨⟨fun i hi => (far _ _ _ _ _ _ (by omega)).trans (h9.1 i hi), (far _ _ _ _ _ _ (by omega)).trans h9.2.1, trivial, trivial⟩, hi_ (EAt.lay (B0 := W.heap.size) hm (Nat.le_trans HBw.out.size h6.size) ((HEw.out.below h7).blk) rfl hlt6), hi_ ((HVw.out.below h7).four HGB.out _ _ _ _), hi_ (((((below_step HBw.out h7).setCell (by exact hgW) _).setCell (by exact hgW) _).setCell (by exact hgW) _).setCell (by exact hgW) _)⟩)
      clear hhv hrg HCell
      rw [← hix] at hb hbf HBq ⊢
      clear hix hat hlf s1 dh
      have s1 := HS1.out wr HBw.out
      have dh := HHf.out wr HBw.out
      go_upto_region 29 with fail
      clear s1 dh
      refine wp_region_held_drew (S := fun w' => (∀ i, i < 9 → w'.cell? ⟨w.heap.size, i, none⟩ = (progCells p)[i]?) ∧ w'.cell? ⟨gh, ix, none⟩ = some (.int .u32 hv) ∧ True ∧ True) (by kernel_rfl) (HSB.out wr.drew (below_drew (Below.refl _ _))) (fun hHeld => ?_)
      refine wpAnyH_take (i := 0) (oi := { dst := some 112, op := Op.load 31 (Operand.tmp 4), type := 31, pos := "ref.go:197", after := #[], guard := none }) (v := ?q1_0v) rfl (by kernel_rfl) (by kernel_rfl) (by kernel_rfl) (fun _ _ _ h => h) (Or.inl ⟨by rfl, ?q1_0y⟩) (by assumption) ?q1_0r
      case q1_0y => (intro w hSw; obtain ⟨t1, t2, t3, t4⟩ := hSw; go_simp; try (with_reducible rfl))
      try simp only [Act.put, sA, sZ, sS]
      refine wpAnyH_take (i := 2) (oi := { dst := some 114, op := Op.move (Operand.tmp 20), type := 3, pos := "ref.go:197", after := #[], guard := none }) (v := ?q1_2v) rfl (by kernel_rfl) (by kernel_rfl) (by kernel_rfl) (fun _ _ _ h => h) (Or.inl ⟨by rfl, ?q1_2y⟩) (by assumption) ?q1_2r
      case q1_2y => (intro w hSw; obtain ⟨t1, t2, t3, t4⟩ := hSw; go_simp; try (with_reducible rfl))
      try simp only [Act.put, sA, sZ, sS]
      refine wpAnyH_take (i := 3) (oi := { dst := some 115, op := Op.move (Operand.tmp 21), type := 3, pos := "ref.go:197", after := #[], guard := none }) (v := ?q1_3v) rfl (by kernel_rfl) (by kernel_rfl) (by kernel_rfl) (fun _ _ _ h => h) (Or.inl ⟨by rfl, ?q1_3y⟩) (by assumption) ?q1_3r
      case q1_3y => (intro w hSw; obtain ⟨t1, t2, t3, t4⟩ := hSw; go_simp; try (with_reducible rfl))
      try simp only [Act.put, sA, sZ, sS]
      refine wpAnyH_take (i := 4) (oi := { dst := some 116, op := Op.build 98 #[(0, Operand.tmp 114), (1, Operand.tmp 115)], type := 98, pos := "ref.go:197", after := #[{ on := 2, ground := Ground.data }, { on := 3, ground := Ground.data }], guard := none }) (v := ?q1_4v) rfl (by kernel_rfl) (by kernel_rfl) (by kernel_rfl) (fun _ _ _ h => h) (Or.inl ⟨by rfl, ?q1_4y⟩) (by assumption) ?q1_4r
      case q1_4y => (intro w hSw; obtain ⟨t1, t2, t3, t4⟩ := hSw; go_simp; try (with_reducible rfl))
      try simp only [Act.put, sA, sZ, sS]
      refine wpAnyH_take (i := 5) (oi := { dst := some 117, op := Op.move (Operand.tmp 12), type := 53, pos := "ref.go:197", after := #[], guard := none }) (v := ?q1_5v) rfl (by kernel_rfl) (by kernel_rfl) (by kernel_rfl) (fun _ _ _ h => h) (Or.inl ⟨by rfl, ?q1_5y⟩) (by assumption) ?q1_5r
      case q1_5y => (intro w hSw; obtain ⟨t1, t2, t3, t4⟩ := hSw; go_simp; try (with_reducible rfl))
      try simp only [Act.put, sA, sZ, sS]
      refine wpAnyH_take (i := 6) (oi := { dst := some 118, op := Op.move (Operand.tmp 19), type := 3, pos := "ref.go:197", after := #[], guard := none }) (v := ?q1_6v) rfl (by kernel_rfl) (by kernel_rfl) (by kernel_rfl) (fun _ _ _ h => h) (Or.inl ⟨by rfl, ?q1_6y⟩) (by assumption) ?q1_6r
      case q1_6y => (intro w hSw; obtain ⟨t1, t2, t3, t4⟩ := hSw; go_simp; try (with_reducible rfl))
      try simp only [Act.put, sA, sZ, sS]
      refine wpAnyH_take (i := 7) (oi := { dst := some 119, op := Op.indexAddr 53 (Operand.tmp 117) (Operand.tmp 118), type := 0, pos := "ref.go:197", after := #[{ on := 5, ground := Ground.data }, { on := 6, ground := Ground.data }], guard := none }) (v := ?q1_7v) rfl (by kernel_rfl) (by kernel_rfl) (by kernel_rfl) (fun _ _ _ h => h) (Or.inl ⟨by rfl, ?q1_7y⟩) (by assumption) ?q1_7r
      case q1_7y => (intro w hSw; obtain ⟨t1, t2, t3, t4⟩ := hSw; go_simp; try (with_reducible rfl))
      try simp only [Act.put, sA, sZ, sS]
      refine wpAnyH_take (i := 8) (oi := { dst := some 120, op := Op.load 83 (Operand.tmp 119), type := 83, pos := "ref.go:197", after := #[{ on := 7, ground := Ground.data }], guard := none }) (v := ?q1_8v) rfl (by kernel_rfl) (by kernel_rfl) (by kernel_rfl) (fun _ _ _ h => h) (Or.inl ⟨by rfl, ?q1_8y⟩) (by assumption) ?q1_8r
      case q1_8y => (intro w hSw; obtain ⟨t1, t2, t3, t4⟩ := hSw; go_simp; try (with_reducible rfl))
      try simp only [Act.put, sA, sZ, sS]
      refine wpAnyH_ready (rs := [1]) (by kernel_rfl) (by simp) ?_
      refine AllReadyH.cons (o := { dst := some 113, op := Op.load 56 (Operand.tmp 10), type := 56, pos := "ref.go:197", after := #[], guard := none }) rfl (fun K hK => ?_) AllReadyH.nil
      have HE6 := hi_ (HEw.out.below (below_drew (Below.refl wr.heap.size wr)))
      have k0 : wr.drew.cell? ⟨ga, 0, none⟩ = some (.slice eq.valid.A eq.valid.l.length eq.valid.c) := HE6.out.blk.cell 0
      have k1 : wr.drew.cell? ⟨ga, 1, none⟩ = some (.slice eq.fields.A eq.fields.l.length eq.fields.c) := HE6.out.blk.cell 1
      have k2 : wr.drew.cell? ⟨ga, 2, none⟩ = some (.slice eq.metaV.A eq.metaV.l.length eq.metaV.c) := HE6.out.blk.cell 2
      have k3 : wr.drew.cell? ⟨ga, 3, none⟩ = some (.slice eq.payload.A eq.payload.l.length eq.payload.c) := HE6.out.blk.cell 3
      go_simp
      refine hK.out _ _ (HSB.out wr.drew (below_drew (Below.refl _ _))) (fun _ => ?_)
      clear hK K k0 k1 k2 k3
      try simp only [Act.put, sA, sZ, sS]
      refine wpAnyH_ready (rs := [9]) (by kernel_rfl) (by simp) ?_
      refine AllReadyH.cons (o := { dst := some 121, op := Op.call { callee := Callee.value (Operand.func 76), args := #[Operand.tmp 112, Operand.tmp 113, Operand.tmp 116, Operand.tmp 120], argTypes := #[31, 56, 98, 83] }, type := 56, pos := "ref.go:197", after := #[{ on := 0, ground := Ground.data }, { on := 1, ground := Ground.data }, { on := 4, ground := Ground.data }, { on := 8, ground := Ground.data }], guard := none }) rfl (fun K hK => ?_) AllReadyH.nil
      go_simp
      go_at_call 76
      refine (HSt.out wr.drew (below_drew (Below.refl _ _))).mono ?_
      rintro r w7 ⟨ee2, rfl, hbe2, hm2, hb7⟩
      have hb7' : Below wr.heap.size wr w7 := below_step (below_drew (Below.refl _ _)) hb7
      have hS7 := HSB.out w7 hb7'
      refine hK.out _ _ hS7 (fun _ => ?_)
      clear hK K
      try simp only [Act.put, sA, sZ, sS]
      refine wpAnyH_ready (rs := [10]) (by kernel_rfl) (by simp) ?_
      refine AllReadyH.cons (o := { dst := none, op := Op.store 56 (Operand.tmp 10) (Operand.tmp 121), type := 0, pos := "ref.go:197", after := #[{ on := 9, ground := Ground.data }, { on := 9, ground := Ground.chain }, { on := 0, ground := Ground.phase }, { on := 1, ground := Ground.phase }, { on := 2, ground := Ground.phase }, { on := 3, ground := Ground.phase }, { on := 4, ground := Ground.phase }, { on := 5, ground := Ground.phase }, { on := 6, ground := Ground.phase }, { on := 7, ground := Ground.phase }, { on := 8, ground := Ground.phase }, { on := 9, ground := Ground.phase }], guard := none }) rfl (fun K hK => ?_) AllReadyH.nil
      have HE7 := hi_ (HEw.out.below hb7')
      have k0 : w7.cell? ⟨ga, 0, none⟩ = some (.slice eq.valid.A eq.valid.l.length eq.valid.c) := HE7.out.blk.cell 0
      have k1 : w7.cell? ⟨ga, 1, none⟩ = some (.slice eq.fields.A eq.fields.l.length eq.fields.c) := HE7.out.blk.cell 1
      have k2 : w7.cell? ⟨ga, 2, none⟩ = some (.slice eq.metaV.A eq.metaV.l.length eq.metaV.c) := HE7.out.blk.cell 2
      have k3 : w7.cell? ⟨ga, 3, none⟩ = some (.slice eq.payload.A eq.payload.l.length eq.payload.c) := HE7.out.blk.cell 3
      have kf : ∀ j, w7.frozen? ⟨ga, j, none⟩ = false := fun j => HE7.out.blk.frozen j
      obtain ⟨hS8, HE8, HV8, HB8⟩ := HFin.out wr.drew w7 ee2 (below_drew (Below.refl _ _)) hb7' hm2
      have hK2 := hK.out
      clear hK
      go_simp
      refine hK2 _ _ hS8 (fun _ => ?_)
      clear hK2 K k0 k1 k2 k3 kf hS7 hS8
      try simp only [Act.put, sA, sZ, sS]
      refine wpAnyH_done (by kernel_rfl) ?_ _
      go_wp2
      go_roundw
      case rel => exact ⟨f + 1, ix + 1, ee2, by omega, by go_num, by go_num, by omega, hi_ (by have := HBq.out; omega), hi_ (hbe2.trans HSe.out), HE8, HV8, HB8⟩
      case measure => simp [intOf]; omega
    have hini : (m : Int) + (k : Int) < (lv.length : Int) := by omega
    obtain ⟨gh, hAv, hgh1, hgh2⟩ := HVw.out.v.at (fun e1 => by have e2 : lv = [] := e1; rw [e2] at hin; cases hin)
    simp only at hAv
    have d9 := row_u HVw.out.v hAv (k := m + k) hin
    simp only at d9
    rw [HLat.out _ hin] at d9
    generalize hhv : heldM l c.bare (m + k) = hv at *
    subst hAv
    clear hin hgh1 hgh2
    by_cases hz : hv = 0
    case pos =>
      have hzb : (hv != 0) = false := by rw [hz]; rfl
      have HBn := hi_ (HSk.out hz)
      obtain ⟨wt, hwt⟩ : ∃ wt, wt = wr := ⟨_, rfl⟩
      rw [← hwt] at HEw HVw HBw hq d9 ⊢
      clear hwt HAd HAb HSk hhv HHv HBe HFit hz
      obtain ⟨et, het⟩ : ∃ et, et = ee := ⟨_, rfl⟩
      rw [← het] at HBn HEw
      clear het
      obtain ⟨g0, of0, fA, fc, hqs, hHd⟩ := HHd.out
      have HHf := hi_ hHd
      subst hqs
      have s1 := HS1.out wt HBw.out
      have dh := hHd wt HBw.out
      clear hHd HHd hq
      go_wp2
      go_loopw [19, 21] (fun av fv wq => ∃ (f b : Nat) (eq : EnvD), f ≤ n ∧ fv = .int .i64 f ∧ av = .int .i64 b ∧ b ≤ 20000 ∧ Hid (b = a + f) ∧ Hid (eq.bare = refSt p l c.bare pl k (f + 1) 0) ∧ Hid (EAt wq W.heap.size ga eq) ∧ Hid (VB wq gB ⟨lv, some ⟨gh, 0, none⟩, cv⟩ ⟨lb, Ab, cb⟩) ∧ Hid (Below W.heap.size W wq)) (fun _ i _ => n - (intOf i).toNat)
      case atStart => exact ⟨0, a, et, Nat.zero_le _, rfl, rfl, by omega, hi_ rfl, HBn, HEw, HVw, HBw⟩
      clear HBn HEw HVw HBw s1 dh
      case round =>
      obtain ⟨f, b, eq, hf, rfl, rfl, hb, HBq, HBe, HEw, HVw, HBw⟩ := hrel
      have s1 := HS1.out wr HBw.out
      have dh := HHf.out wr HBw.out
      by_cases hlf : f < n
      case neg =>
        have HBz : Hid (eq.bare = refSt p l c.bare pl (k + 1) 0 0) := hi_ (by rw [HBe.out, show f = nF p k by have := HNn2.out; omega, refSt_next])
        have hlfi : ¬ (f : Int) < (n : Int) := by omega
        have HA2 : Hid (b = preF p (k + 1)) := hi_ (by have := HNn2.out; rw [HBq.out, HA.out, preF]; omega)
        have hb2 : b ≤ 100 * (k + 1) := by have := HBq.out; omega
        go_wp2
        go_roundw
        case rel => exact ⟨k + 1, b, eq, by omega, by go_num, rfl, hb2, HA2, HBz, HEw, HVw, HBw⟩
        case measure => simp [intOf]; omega
      have hlfi : (f : Int) < (n : Int) := by omega
      have hbf : b < N := by
        have h8 := preF_in (p := p) (k := k) (f := f) (by omega) (by rw [← HNn2.out]; exact hlf)
        have h7 := HBq.out
        have h6 := HA.out
        omega
      by_cases hat : b < lv.length
      case neg =>
        have h0 : heldM l c.bare b = 0 := heldM_none (by have := HLl.out; omega)
        have HBz : Hid (eq.bare = refSt p l c.bare pl k (f + 1 + 1) 0) := hi_ (by rw [HBe.out]; exact refSt_keep (by rw [← h0, HBq.out, HA.out]))
        have hati : ¬ (b : Int) < (lv.length : Int) := by omega
        clear h0 hat hlf
        go_wp2
        go_roundw
        case rel => exact ⟨f + 1, b + 1, eq, by omega, by go_num, by go_num, by omega, hi_ (by have := HBq.out; omega), HBz, HEw, HVw, HBw⟩
        case measure => simp [intOf]; omega
      obtain ⟨gh2, hAv, hgh1, hgh2⟩ := HVw.out.v.at (fun e1 => by have e2 : lv = [] := e1; rw [e2] at hat; cases hat)
      simp only at hAv
      injection hAv with hAv
      injection hAv with hAv _
      subst hAv
      obtain ⟨ix, hix⟩ : ∃ ix, ix = b := ⟨_, rfl⟩
      obtain ⟨hv, hhv⟩ : ∃ hv, hv = heldM l c.bare b := ⟨_, rfl⟩
      have HCell : Hid (∀ u, Below wr.heap.size wr u → u.cell? ⟨gh, ix, none⟩ = some (.int .u32 hv)) := hi_ (fun u hu => by rw [hix, hhv, ← HLat.out _ hat]; exact row_u (HVw.out.v.below hu) rfl hat)
      have HSB : Hid (∀ u, Below wr.heap.size wr u → (fun w' => (∀ i, i < 9 → w'.cell? ⟨w.heap.size, i, none⟩ = (progCells p)[i]?) ∧ w'.cell? ⟨gh, ix, none⟩ = some (.int .u32 hv) ∧ True ∧ True) u) := hi_ (fun u hu => ⟨HP00.out u (below_step HBw.out hu), HCell.out u hu, trivial, trivial⟩)
      have hrg := heldM_range l c.bare b
      rw [← hhv] at hrg
      have HFit : Hid (EnvFit eq.bare) := hi_ (by rw [HBe.out]; exact refSt_fit HS.out hpl _ _ _)
      have HSe : Hid (setE p eq.bare k f hv = refSt p l c.bare pl k (f + 2) 0) := hi_ (by rw [HBe.out, hhv]; rw [HBq.out, HA.out]; exact refSt_set (by omega))
      have HSt := hi_ (fun u (hu : Below wr.heap.size wr u) => rset_fld p eq k f hv u (HO.out u (below_step HBw.out hu)) (HEw.out.ok.below hu) HFit.out hrg.1 hrg.2)
      have hixi : (ix : Int) < (lv.length : Int) := by omega
      have HFin : Hid (∀ (w6 w7 : World) (ee2 : EnvD), Below wr.heap.size wr w6 → Below wr.heap.size wr w7 → EnvMine w7 w6.heap.size ee2 → ((fun w' => (∀ i, i < 9 → w'.cell? ⟨w.heap.size, i, none⟩ = (progCells p)[i]?) ∧ w'.cell? ⟨gh, ix, none⟩ = some (.int .u32 hv) ∧ True ∧ True) ((((w7.setCell ⟨ga, 0, none⟩ (.slice ee2.valid.A ee2.valid.l.length ee2.valid.c)).setCell ⟨ga, 1, none⟩ (.slice ee2.fields.A ee2.fields.l.length ee2.fields.c)).setCell ⟨ga, 2, none⟩ (.slice ee2.metaV.A ee2.metaV.l.length ee2.metaV.c)).setCell ⟨ga, 3, none⟩ (.slice ee2.payload.A ee2.payload.l.length ee2.payload.c)) ∧ Hid (EAt ((((w7.setCell ⟨ga, 0, none⟩ (.slice ee2.valid.A ee2.valid.l.length ee2.valid.c)).setCell ⟨ga, 1, none⟩ (.slice ee2.fields.A ee2.fields.l.length ee2.fields.c)).setCell ⟨ga, 2, none⟩ (.slice ee2.metaV.A ee2.metaV.l.length ee2.metaV.c)).setCell ⟨ga, 3, none⟩ (.slice ee2.payload.A ee2.payload.l.length ee2.payload.c)) W.heap.size ga ee2) ∧ Hid (VB ((((w7.setCell ⟨ga, 0, none⟩ (.slice ee2.valid.A ee2.valid.l.length ee2.valid.c)).setCell ⟨ga, 1, none⟩ (.slice ee2.fields.A ee2.fields.l.length ee2.fields.c)).setCell ⟨ga, 2, none⟩ (.slice ee2.metaV.A ee2.metaV.l.length ee2.metaV.c)).setCell ⟨ga, 3, none⟩ (.slice ee2.payload.A ee2.payload.l.length ee2.payload.c)) gB ⟨lv, some ⟨gh, 0, none⟩, cv⟩ ⟨lb, Ab, cb⟩) ∧ Hid (Below W.heap.size W ((((w7.setCell ⟨ga, 0, none⟩ (.slice ee2.valid.A ee2.valid.l.length ee2.valid.c)).setCell ⟨ga, 1, none⟩ (.slice ee2.fields.A ee2.fields.l.length ee2.fields.c)).setCell ⟨ga, 2, none⟩ (.slice ee2.metaV.A ee2.metaV.l.length ee2.metaV.c)).setCell ⟨ga, 3, none⟩ (.slice ee2.payload.A ee2.payload.l.length ee2.payload.c))))) := hi_ (fun w6 w7 ee2 h6 h7 hm => by
        have hlt6 : ga < w6.heap.size := Nat.lt_of_lt_of_le HEw.out.blk.lt h6.size
        have h9 := HSB.out w7 h7
        have hgW := HGW.out
        have hsz := HSz.out
        have hgB := HGB.out
        have hgh : gB ≤ gh := hgh1
        have far : ∀ (b i : Nat) (x y z u : Value), b ≠ ga → ((((w7.setCell ⟨ga, 0, none⟩ x).setCell ⟨ga, 1, none⟩ y).setCell ⟨ga, 2, none⟩ z).setCell ⟨ga, 3, none⟩ u).cell? ⟨b, i, none⟩ = w7.cell? ⟨b, i, none⟩ := fun b i x y z u hne => by
          rw [World.cell?_setCell_far _ _ _ _ (by exact fun e => hne e.symm), World.cell?_setCell_far _ _ _ _ (by exact fun e => hne e.symm), World.cell?_setCell_far _ _ _ _ (by exact fun e => hne e.symm), World.cell?_setCell_far _ _ _ _ (by exact fun e => hne e.symm)]
        refine ⟨⟨fun i hi => (far _ _ _ _ _ _ (by omega)).trans (h9.1 i hi), (far _ _ _ _ _ _ (by omega)).trans h9.2.1, trivial, trivial⟩, hi_ (EAt.lay (B0 := W.heap.size) hm (Nat.le_trans HBw.out.size h6.size) ((HEw.out.below h7).blk) rfl hlt6), hi_ ((HVw.out.below h7).four HGB.out _ _ _ _), hi_ (((((below_step HBw.out h7).setCell (by exact hgW) _).setCell (by exact hgW) _).setCell (by exact hgW) _).setCell (by exact hgW) _)⟩)
      clear hhv hrg HCell
      rw [← hix] at hb hbf HBq ⊢
      clear hix hat hlf s1 dh
      have s1 := HS1.out wr HBw.out
      have dh := HHf.out wr HBw.out
      go_upto_region 29 with fail
      clear s1 dh
      refine wp_region_held_drew (S := fun w' => (∀ i, i < 9 → w'.cell? ⟨w.heap.size, i, none⟩ = (progCells p)[i]?) ∧ w'.cell? ⟨gh, ix, none⟩ = some (.int .u32 hv) ∧ True ∧ True) (by kernel_rfl) (HSB.out wr.drew (below_drew (Below.refl _ _))) (fun hHeld => ?_)
      refine wpAnyH_take (i := 0) (oi := { dst := some 112, op := Op.load 31 (Operand.tmp 4), type := 31, pos := "ref.go:197", after := #[], guard := none }) (v := ?q2_0v) rfl (by kernel_rfl) (by kernel_rfl) (by kernel_rfl) (fun _ _ _ h => h) (Or.inl ⟨by rfl, ?q2_0y⟩) (by assumption) ?q2_0r
      case q2_0y => (intro w hSw; obtain ⟨t1, t2, t3, t4⟩ := hSw; go_simp; try (with_reducible rfl))
      try simp only [Act.put, sA, sZ, sS]
      refine wpAnyH_take (i := 2) (oi := { dst := some 114, op := Op.move (Operand.tmp 20), type := 3, pos := "ref.go:197", after := #[], guard := none }) (v := ?q2_2v) rfl (by kernel_rfl) (by kernel_rfl) (by kernel_rfl) (fun _ _ _ h => h) (Or.inl ⟨by rfl, ?q2_2y⟩) (by assumption) ?q2_2r
      case q2_2y => (intro w hSw; obtain ⟨t1, t2, t3, t4⟩ := hSw; go_simp; try (with_reducible rfl))
      try simp only [Act.put, sA, sZ, sS]
      refine wpAnyH_take (i := 3) (oi := { dst := some 115, op := Op.move (Operand.tmp 21), type := 3, pos := "ref.go:197", after := #[], guard := none }) (v := ?q2_3v) rfl (by kernel_rfl) (by kernel_rfl) (by kernel_rfl) (fun _ _ _ h => h) (Or.inl ⟨by rfl, ?q2_3y⟩) (by assumption) ?q2_3r
      case q2_3y => (intro w hSw; obtain ⟨t1, t2, t3, t4⟩ := hSw; go_simp; try (with_reducible rfl))
      try simp only [Act.put, sA, sZ, sS]
      refine wpAnyH_take (i := 4) (oi := { dst := some 116, op := Op.build 98 #[(0, Operand.tmp 114), (1, Operand.tmp 115)], type := 98, pos := "ref.go:197", after := #[{ on := 2, ground := Ground.data }, { on := 3, ground := Ground.data }], guard := none }) (v := ?q2_4v) rfl (by kernel_rfl) (by kernel_rfl) (by kernel_rfl) (fun _ _ _ h => h) (Or.inl ⟨by rfl, ?q2_4y⟩) (by assumption) ?q2_4r
      case q2_4y => (intro w hSw; obtain ⟨t1, t2, t3, t4⟩ := hSw; go_simp; try (with_reducible rfl))
      try simp only [Act.put, sA, sZ, sS]
      refine wpAnyH_take (i := 5) (oi := { dst := some 117, op := Op.move (Operand.tmp 12), type := 53, pos := "ref.go:197", after := #[], guard := none }) (v := ?q2_5v) rfl (by kernel_rfl) (by kernel_rfl) (by kernel_rfl) (fun _ _ _ h => h) (Or.inl ⟨by rfl, ?q2_5y⟩) (by assumption) ?q2_5r
      case q2_5y => (intro w hSw; obtain ⟨t1, t2, t3, t4⟩ := hSw; go_simp; try (with_reducible rfl))
      try simp only [Act.put, sA, sZ, sS]
      refine wpAnyH_take (i := 6) (oi := { dst := some 118, op := Op.move (Operand.tmp 19), type := 3, pos := "ref.go:197", after := #[], guard := none }) (v := ?q2_6v) rfl (by kernel_rfl) (by kernel_rfl) (by kernel_rfl) (fun _ _ _ h => h) (Or.inl ⟨by rfl, ?q2_6y⟩) (by assumption) ?q2_6r
      case q2_6y => (intro w hSw; obtain ⟨t1, t2, t3, t4⟩ := hSw; go_simp; try (with_reducible rfl))
      try simp only [Act.put, sA, sZ, sS]
      refine wpAnyH_take (i := 7) (oi := { dst := some 119, op := Op.indexAddr 53 (Operand.tmp 117) (Operand.tmp 118), type := 0, pos := "ref.go:197", after := #[{ on := 5, ground := Ground.data }, { on := 6, ground := Ground.data }], guard := none }) (v := ?q2_7v) rfl (by kernel_rfl) (by kernel_rfl) (by kernel_rfl) (fun _ _ _ h => h) (Or.inl ⟨by rfl, ?q2_7y⟩) (by assumption) ?q2_7r
      case q2_7y => (intro w hSw; obtain ⟨t1, t2, t3, t4⟩ := hSw; go_simp; try (with_reducible rfl))
      try simp only [Act.put, sA, sZ, sS]
      refine wpAnyH_take (i := 8) (oi := { dst := some 120, op := Op.load 83 (Operand.tmp 119), type := 83, pos := "ref.go:197", after := #[{ on := 7, ground := Ground.data }], guard := none }) (v := ?q2_8v) rfl (by kernel_rfl) (by kernel_rfl) (by kernel_rfl) (fun _ _ _ h => h) (Or.inl ⟨by rfl, ?q2_8y⟩) (by assumption) ?q2_8r
      case q2_8y => (intro w hSw; obtain ⟨t1, t2, t3, t4⟩ := hSw; go_simp; try (with_reducible rfl))
      try simp only [Act.put, sA, sZ, sS]
      refine wpAnyH_ready (rs := [1]) (by kernel_rfl) (by simp) ?_
      refine AllReadyH.cons (o := { dst := some 113, op := Op.load 56 (Operand.tmp 10), type := 56, pos := "ref.go:197", after := #[], guard := none }) rfl (fun K hK => ?_) AllReadyH.nil
      have HE6 := hi_ (HEw.out.below (below_drew (Below.refl wr.heap.size wr)))
      have k0 : wr.drew.cell? ⟨ga, 0, none⟩ = some (.slice eq.valid.A eq.valid.l.length eq.valid.c) := HE6.out.blk.cell 0
      have k1 : wr.drew.cell? ⟨ga, 1, none⟩ = some (.slice eq.fields.A eq.fields.l.length eq.fields.c) := HE6.out.blk.cell 1
      have k2 : wr.drew.cell? ⟨ga, 2, none⟩ = some (.slice eq.metaV.A eq.metaV.l.length eq.metaV.c) := HE6.out.blk.cell 2
      have k3 : wr.drew.cell? ⟨ga, 3, none⟩ = some (.slice eq.payload.A eq.payload.l.length eq.payload.c) := HE6.out.blk.cell 3
      go_simp
      refine hK.out _ _ (HSB.out wr.drew (below_drew (Below.refl _ _))) (fun _ => ?_)
      clear hK K k0 k1 k2 k3
      try simp only [Act.put, sA, sZ, sS]
      refine wpAnyH_ready (rs := [9]) (by kernel_rfl) (by simp) ?_
      refine AllReadyH.cons (o := { dst := some 121, op := Op.call { callee := Callee.value (Operand.func 76), args := #[Operand.tmp 112, Operand.tmp 113, Operand.tmp 116, Operand.tmp 120], argTypes := #[31, 56, 98, 83] }, type := 56, pos := "ref.go:197", after := #[{ on := 0, ground := Ground.data }, { on := 1, ground := Ground.data }, { on := 4, ground := Ground.data }, { on := 8, ground := Ground.data }], guard := none }) rfl (fun K hK => ?_) AllReadyH.nil
      go_simp
      go_at_call 76
      refine (HSt.out wr.drew (below_drew (Below.refl _ _))).mono ?_
      rintro r w7 ⟨ee2, rfl, hbe2, hm2, hb7⟩
      have hb7' : Below wr.heap.size wr w7 := below_step (below_drew (Below.refl _ _)) hb7
      have hS7 := HSB.out w7 hb7'
      refine hK.out _ _ hS7 (fun _ => ?_)
      clear hK K
      try simp only [Act.put, sA, sZ, sS]
      refine wpAnyH_ready (rs := [10]) (by kernel_rfl) (by simp) ?_
      refine AllReadyH.cons (o := { dst := none, op := Op.store 56 (Operand.tmp 10) (Operand.tmp 121), type := 0, pos := "ref.go:197", after := #[{ on := 9, ground := Ground.data }, { on := 9, ground := Ground.chain }, { on := 0, ground := Ground.phase }, { on := 1, ground := Ground.phase }, { on := 2, ground := Ground.phase }, { on := 3, ground := Ground.phase }, { on := 4, ground := Ground.phase }, { on := 5, ground := Ground.phase }, { on := 6, ground := Ground.phase }, { on := 7, ground := Ground.phase }, { on := 8, ground := Ground.phase }, { on := 9, ground := Ground.phase }], guard := none }) rfl (fun K hK => ?_) AllReadyH.nil
      have HE7 := hi_ (HEw.out.below hb7')
      have k0 : w7.cell? ⟨ga, 0, none⟩ = some (.slice eq.valid.A eq.valid.l.length eq.valid.c) := HE7.out.blk.cell 0
      have k1 : w7.cell? ⟨ga, 1, none⟩ = some (.slice eq.fields.A eq.fields.l.length eq.fields.c) := HE7.out.blk.cell 1
      have k2 : w7.cell? ⟨ga, 2, none⟩ = some (.slice eq.metaV.A eq.metaV.l.length eq.metaV.c) := HE7.out.blk.cell 2
      have k3 : w7.cell? ⟨ga, 3, none⟩ = some (.slice eq.payload.A eq.payload.l.length eq.payload.c) := HE7.out.blk.cell 3
      have kf : ∀ j, w7.frozen? ⟨ga, j, none⟩ = false := fun j => HE7.out.blk.frozen j
      obtain ⟨hS8, HE8, HV8, HB8⟩ := HFin.out wr.drew w7 ee2 (below_drew (Below.refl _ _)) hb7' hm2
      have hK2 := hK.out
      clear hK
      go_simp
      refine hK2 _ _ hS8 (fun _ => ?_)
      clear hK2 K k0 k1 k2 k3 kf hS7 hS8
      try simp only [Act.put, sA, sZ, sS]
      refine wpAnyH_done (by kernel_rfl) ?_ _
      go_wp2
      go_roundw
      case rel => exact ⟨f + 1, ix + 1, ee2, by omega, by go_num, by go_num, by omega, hi_ (by have := HBq.out; omega), hi_ (hbe2.trans HSe.out), HE8, HV8, HB8⟩
      case measure => simp [intOf]; omega
    have hzb : (hv != 0) = true := bne_iff_ne.2 hz
    have HBn := hi_ (HAb.out hz)
    have k0 : wr.cell? ⟨ga, 0, none⟩ = some (.slice ee.valid.A ee.valid.l.length ee.valid.c) := HEw.out.blk.cell 0
    have k1 : wr.cell? ⟨ga, 1, none⟩ = some (.slice ee.fields.A ee.fields.l.length ee.fields.c) := HEw.out.blk.cell 1
    have k2 : wr.cell? ⟨ga, 2, none⟩ = some (.slice ee.metaV.A ee.metaV.l.length ee.metaV.c) := HEw.out.blk.cell 2
    have k3 : wr.cell? ⟨ga, 3, none⟩ = some (.slice ee.payload.A ee.payload.l.length ee.payload.c) := HEw.out.blk.cell 3
    clear hz
    go_wp2_with fail
    refine (HAd.out _ (Below.refl _ _)).mono ?_
    rintro r w7 ⟨ee2, rfl, hbe2, hm2, hb7⟩
    have HE7 := hi_ (HEw.out.below hb7)
    have hgl6 : ga < wr.heap.size := HEw.out.blk.lt
    have HB7 := hi_ (below_step HBw.out hb7)
    have HV7 := hi_ (HVw.out.below hb7)
    have HM2 := hi_ hm2
    have HBn2 := hi_ (hbe2.trans HBn.out)
    clear hq k0 k1 k2 k3 d9 hbe2 hm2 hb7 HBn HAd HAb HSk hhv HHv HBe HFit
    have k0 : w7.cell? ⟨ga, 0, none⟩ = some (.slice ee.valid.A ee.valid.l.length ee.valid.c) := HE7.out.blk.cell 0
    have k1 : w7.cell? ⟨ga, 1, none⟩ = some (.slice ee.fields.A ee.fields.l.length ee.fields.c) := HE7.out.blk.cell 1
    have k2 : w7.cell? ⟨ga, 2, none⟩ = some (.slice ee.metaV.A ee.metaV.l.length ee.metaV.c) := HE7.out.blk.cell 2
    have k3 : w7.cell? ⟨ga, 3, none⟩ = some (.slice ee.payload.A ee.payload.l.length ee.payload.c) := HE7.out.blk.cell 3
    have kf : ∀ j, w7.frozen? ⟨ga, j, none⟩ = false := fun j => HE7.out.blk.frozen j
    have hgW := HGW.out
    have HE8 := hi_ (EAt.lay (B0 := W.heap.size) HM2.out HBw.out.size HE7.out.blk rfl hgl6)
    have HV8 := hi_ (HV7.out.four HGB.out (.slice ee2.valid.A ee2.valid.l.length ee2.valid.c) (.slice ee2.fields.A ee2.fields.l.length ee2.fields.c) (.slice ee2.metaV.A ee2.metaV.l.length ee2.metaV.c) (.slice ee2.payload.A ee2.payload.l.length ee2.payload.c))
    have HB8 := hi_ ((((HB7.out.setCell (p := ⟨ga, 0, none⟩) (by exact hgW) (.slice ee2.valid.A ee2.valid.l.length ee2.valid.c)).setCell (p := ⟨ga, 1, none⟩) (by exact hgW) (.slice ee2.fields.A ee2.fields.l.length ee2.fields.c)).setCell (p := ⟨ga, 2, none⟩) (by exact hgW) (.slice ee2.metaV.A ee2.metaV.l.length ee2.metaV.c)).setCell (p := ⟨ga, 3, none⟩) (by exact hgW) (.slice ee2.payload.A ee2.payload.l.length ee2.payload.c))
    clear hgW HEw HVw HBw
    have HEw := HE8
    have HVw := HV8
    have HBw := HB8
    have HBn := HBn2
    clear HE8 HV8 HB8 HBn2
    go_upto_region 25 with fail
    clear k0 k1 k2 k3 kf HE7 HV7 HB7 HM2 hgl6
    generalize ((((w7.setCell ⟨ga, 0, none⟩ (.slice ee2.valid.A ee2.valid.l.length ee2.valid.c)).setCell ⟨ga, 1, none⟩ (.slice ee2.fields.A ee2.fields.l.length ee2.fields.c)).setCell ⟨ga, 2, none⟩ (.slice ee2.metaV.A ee2.metaV.l.length ee2.metaV.c)).setCell ⟨ga, 3, none⟩ (.slice ee2.payload.A ee2.payload.l.length ee2.payload.c)) = wt at *
    obtain ⟨et, het⟩ : ∃ et, et = ee2 := ⟨_, rfl⟩
    rw [← het] at HBn HEw
    clear het
    have hq := HP00.out wt HBw.out
    obtain ⟨g0, of0, fA, fc, hqs, hHd⟩ := HHd.out
    have HHf := hi_ hHd
    subst hqs
    have s1 := HS1.out wt HBw.out
    have dh := hHd wt HBw.out
    clear hHd HHd hq
    go_wp2
    go_loopw [19, 21] (fun av fv wq => ∃ (f b : Nat) (eq : EnvD), f ≤ n ∧ fv = .int .i64 f ∧ av = .int .i64 b ∧ b ≤ 20000 ∧ Hid (b = a + f) ∧ Hid (eq.bare = refSt p l c.bare pl k (f + 1) 0) ∧ Hid (EAt wq W.heap.size ga eq) ∧ Hid (VB wq gB ⟨lv, some ⟨gh, 0, none⟩, cv⟩ ⟨lb, Ab, cb⟩) ∧ Hid (Below W.heap.size W wq)) (fun _ i _ => n - (intOf i).toNat)
    case atStart => exact ⟨0, a, et, Nat.zero_le _, rfl, rfl, by omega, hi_ rfl, HBn, HEw, HVw, HBw⟩
    clear HBn HEw HVw HBw s1 dh
    case round =>
    obtain ⟨f, b, eq, hf, rfl, rfl, hb, HBq, HBe, HEw, HVw, HBw⟩ := hrel
    have s1 := HS1.out wr HBw.out
    have dh := HHf.out wr HBw.out
    by_cases hlf : f < n
    case neg =>
      have HBz : Hid (eq.bare = refSt p l c.bare pl (k + 1) 0 0) := hi_ (by rw [HBe.out, show f = nF p k by have := HNn2.out; omega, refSt_next])
      have hlfi : ¬ (f : Int) < (n : Int) := by omega
      have HA2 : Hid (b = preF p (k + 1)) := hi_ (by have := HNn2.out; rw [HBq.out, HA.out, preF]; omega)
      have hb2 : b ≤ 100 * (k + 1) := by have := HBq.out; omega
      go_wp2
      go_roundw
      case rel => exact ⟨k + 1, b, eq, by omega, by go_num, rfl, hb2, HA2, HBz, HEw, HVw, HBw⟩
      case measure => simp [intOf]; omega
    have hlfi : (f : Int) < (n : Int) := by omega
    have hbf : b < N := by
      have h8 := preF_in (p := p) (k := k) (f := f) (by omega) (by rw [← HNn2.out]; exact hlf)
      have h7 := HBq.out
      have h6 := HA.out
      omega
    by_cases hat : b < lv.length
    case neg =>
      have h0 : heldM l c.bare b = 0 := heldM_none (by have := HLl.out; omega)
      have HBz : Hid (eq.bare = refSt p l c.bare pl k (f + 1 + 1) 0) := hi_ (by rw [HBe.out]; exact refSt_keep (by rw [← h0, HBq.out, HA.out]))
      have hati : ¬ (b : Int) < (lv.length : Int) := by omega
      clear h0 hat hlf
      go_wp2
      go_roundw
      case rel => exact ⟨f + 1, b + 1, eq, by omega, by go_num, by go_num, by omega, hi_ (by have := HBq.out; omega), HBz, HEw, HVw, HBw⟩
      case measure => simp [intOf]; omega
    obtain ⟨gh2, hAv, hgh1, hgh2⟩ := HVw.out.v.at (fun e1 => by have e2 : lv = [] := e1; rw [e2] at hat; cases hat)
    simp only at hAv
    injection hAv with hAv
    injection hAv with hAv _
    subst hAv
    obtain ⟨ix, hix⟩ : ∃ ix, ix = b := ⟨_, rfl⟩
    obtain ⟨hv, hhv⟩ : ∃ hv, hv = heldM l c.bare b := ⟨_, rfl⟩
    have HCell : Hid (∀ u, Below wr.heap.size wr u → u.cell? ⟨gh, ix, none⟩ = some (.int .u32 hv)) := hi_ (fun u hu => by rw [hix, hhv, ← HLat.out _ hat]; exact row_u (HVw.out.v.below hu) rfl hat)
    have HSB : Hid (∀ u, Below wr.heap.size wr u → (fun w' => (∀ i, i < 9 → w'.cell? ⟨w.heap.size, i, none⟩ = (progCells p)[i]?) ∧ w'.cell? ⟨gh, ix, none⟩ = some (.int .u32 hv) ∧ True ∧ True) u) := hi_ (fun u hu => ⟨HP00.out u (below_step HBw.out hu), HCell.out u hu, trivial, trivial⟩)
    have hrg := heldM_range l c.bare b
    rw [← hhv] at hrg
    have HFit : Hid (EnvFit eq.bare) := hi_ (by rw [HBe.out]; exact refSt_fit HS.out hpl _ _ _)
    have HSe : Hid (setE p eq.bare k f hv = refSt p l c.bare pl k (f + 2) 0) := hi_ (by rw [HBe.out, hhv]; rw [HBq.out, HA.out]; exact refSt_set (by omega))
    have HSt := hi_ (fun u (hu : Below wr.heap.size wr u) => rset_fld p eq k f hv u (HO.out u (below_step HBw.out hu)) (HEw.out.ok.below hu) HFit.out hrg.1 hrg.2)
    have hixi : (ix : Int) < (lv.length : Int) := by omega
    have HFin : Hid (∀ (w6 w7 : World) (ee2 : EnvD), Below wr.heap.size wr w6 → Below wr.heap.size wr w7 → EnvMine w7 w6.heap.size ee2 → ((fun w' => (∀ i, i < 9 → w'.cell? ⟨w.heap.size, i, none⟩ = (progCells p)[i]?) ∧ w'.cell? ⟨gh, ix, none⟩ = some (.int .u32 hv) ∧ True ∧ True) ((((w7.setCell ⟨ga, 0, none⟩ (.slice ee2.valid.A ee2.valid.l.length ee2.valid.c)).setCell ⟨ga, 1, none⟩ (.slice ee2.fields.A ee2.fields.l.length ee2.fields.c)).setCell ⟨ga, 2, none⟩ (.slice ee2.metaV.A ee2.metaV.l.length ee2.metaV.c)).setCell ⟨ga, 3, none⟩ (.slice ee2.payload.A ee2.payload.l.length ee2.payload.c)) ∧ Hid (EAt ((((w7.setCell ⟨ga, 0, none⟩ (.slice ee2.valid.A ee2.valid.l.length ee2.valid.c)).setCell ⟨ga, 1, none⟩ (.slice ee2.fields.A ee2.fields.l.length ee2.fields.c)).setCell ⟨ga, 2, none⟩ (.slice ee2.metaV.A ee2.metaV.l.length ee2.metaV.c)).setCell ⟨ga, 3, none⟩ (.slice ee2.payload.A ee2.payload.l.length ee2.payload.c)) W.heap.size ga ee2) ∧ Hid (VB ((((w7.setCell ⟨ga, 0, none⟩ (.slice ee2.valid.A ee2.valid.l.length ee2.valid.c)).setCell ⟨ga, 1, none⟩ (.slice ee2.fields.A ee2.fields.l.length ee2.fields.c)).setCell ⟨ga, 2, none⟩ (.slice ee2.metaV.A ee2.metaV.l.length ee2.metaV.c)).setCell ⟨ga, 3, none⟩ (.slice ee2.payload.A ee2.payload.l.length ee2.payload.c)) gB ⟨lv, some ⟨gh, 0, none⟩, cv⟩ ⟨lb, Ab, cb⟩) ∧ Hid (Below W.heap.size W ((((w7.setCell ⟨ga, 0, none⟩ (.slice ee2.valid.A ee2.valid.l.length ee2.valid.c)).setCell ⟨ga, 1, none⟩ (.slice ee2.fields.A ee2.fields.l.length ee2.fields.c)).setCell ⟨ga, 2, none⟩ (.slice ee2.metaV.A ee2.metaV.l.length ee2.metaV.c)).setCell ⟨ga, 3, none⟩ (.slice ee2.payload.A ee2.payload.l.length ee2.payload.c))))) := hi_ (fun w6 w7 ee2 h6 h7 hm => by
      have hlt6 : ga < w6.heap.size := Nat.lt_of_lt_of_le HEw.out.blk.lt h6.size
      have h9 := HSB.out w7 h7
      have hgW := HGW.out
      have hsz := HSz.out
      have hgB := HGB.out
      have hgh : gB ≤ gh := hgh1
      have far : ∀ (b i : Nat) (x y z u : Value), b ≠ ga → ((((w7.setCell ⟨ga, 0, none⟩ x).setCell ⟨ga, 1, none⟩ y).setCell ⟨ga, 2, none⟩ z).setCell ⟨ga, 3, none⟩ u).cell? ⟨b, i, none⟩ = w7.cell? ⟨b, i, none⟩ := fun b i x y z u hne => by
        rw [World.cell?_setCell_far _ _ _ _ (by exact fun e => hne e.symm), World.cell?_setCell_far _ _ _ _ (by exact fun e => hne e.symm), World.cell?_setCell_far _ _ _ _ (by exact fun e => hne e.symm), World.cell?_setCell_far _ _ _ _ (by exact fun e => hne e.symm)]
      refine ⟨⟨fun i hi => (far _ _ _ _ _ _ (by omega)).trans (h9.1 i hi), (far _ _ _ _ _ _ (by omega)).trans h9.2.1, trivial, trivial⟩, hi_ (EAt.lay (B0 := W.heap.size) hm (Nat.le_trans HBw.out.size h6.size) ((HEw.out.below h7).blk) rfl hlt6), hi_ ((HVw.out.below h7).four HGB.out _ _ _ _), hi_ (((((below_step HBw.out h7).setCell (by exact hgW) _).setCell (by exact hgW) _).setCell (by exact hgW) _).setCell (by exact hgW) _)⟩)
    clear hhv hrg HCell
    rw [← hix] at hb hbf HBq ⊢
    clear hix hat hlf s1 dh
    have s1 := HS1.out wr HBw.out
    have dh := HHf.out wr HBw.out
    go_upto_region 29 with fail
    clear s1 dh
    refine wp_region_held_drew (S := fun w' => (∀ i, i < 9 → w'.cell? ⟨w.heap.size, i, none⟩ = (progCells p)[i]?) ∧ w'.cell? ⟨gh, ix, none⟩ = some (.int .u32 hv) ∧ True ∧ True) (by kernel_rfl) (HSB.out wr.drew (below_drew (Below.refl _ _))) (fun hHeld => ?_)
    refine wpAnyH_take (i := 0) (oi := { dst := some 112, op := Op.load 31 (Operand.tmp 4), type := 31, pos := "ref.go:197", after := #[], guard := none }) (v := ?q3_0v) rfl (by kernel_rfl) (by kernel_rfl) (by kernel_rfl) (fun _ _ _ h => h) (Or.inl ⟨by rfl, ?q3_0y⟩) (by assumption) ?q3_0r
    case q3_0y => (intro w hSw; obtain ⟨t1, t2, t3, t4⟩ := hSw; go_simp; try (with_reducible rfl))
    try simp only [Act.put, sA, sZ, sS]
    refine wpAnyH_take (i := 2) (oi := { dst := some 114, op := Op.move (Operand.tmp 20), type := 3, pos := "ref.go:197", after := #[], guard := none }) (v := ?q3_2v) rfl (by kernel_rfl) (by kernel_rfl) (by kernel_rfl) (fun _ _ _ h => h) (Or.inl ⟨by rfl, ?q3_2y⟩) (by assumption) ?q3_2r
    case q3_2y => (intro w hSw; obtain ⟨t1, t2, t3, t4⟩ := hSw; go_simp; try (with_reducible rfl))
    try simp only [Act.put, sA, sZ, sS]
    refine wpAnyH_take (i := 3) (oi := { dst := some 115, op := Op.move (Operand.tmp 21), type := 3, pos := "ref.go:197", after := #[], guard := none }) (v := ?q3_3v) rfl (by kernel_rfl) (by kernel_rfl) (by kernel_rfl) (fun _ _ _ h => h) (Or.inl ⟨by rfl, ?q3_3y⟩) (by assumption) ?q3_3r
    case q3_3y => (intro w hSw; obtain ⟨t1, t2, t3, t4⟩ := hSw; go_simp; try (with_reducible rfl))
    try simp only [Act.put, sA, sZ, sS]
    refine wpAnyH_take (i := 4) (oi := { dst := some 116, op := Op.build 98 #[(0, Operand.tmp 114), (1, Operand.tmp 115)], type := 98, pos := "ref.go:197", after := #[{ on := 2, ground := Ground.data }, { on := 3, ground := Ground.data }], guard := none }) (v := ?q3_4v) rfl (by kernel_rfl) (by kernel_rfl) (by kernel_rfl) (fun _ _ _ h => h) (Or.inl ⟨by rfl, ?q3_4y⟩) (by assumption) ?q3_4r
    case q3_4y => (intro w hSw; obtain ⟨t1, t2, t3, t4⟩ := hSw; go_simp; try (with_reducible rfl))
    try simp only [Act.put, sA, sZ, sS]
    refine wpAnyH_take (i := 5) (oi := { dst := some 117, op := Op.move (Operand.tmp 12), type := 53, pos := "ref.go:197", after := #[], guard := none }) (v := ?q3_5v) rfl (by kernel_rfl) (by kernel_rfl) (by kernel_rfl) (fun _ _ _ h => h) (Or.inl ⟨by rfl, ?q3_5y⟩) (by assumption) ?q3_5r
    case q3_5y => (intro w hSw; obtain ⟨t1, t2, t3, t4⟩ := hSw; go_simp; try (with_reducible rfl))
    try simp only [Act.put, sA, sZ, sS]
    refine wpAnyH_take (i := 6) (oi := { dst := some 118, op := Op.move (Operand.tmp 19), type := 3, pos := "ref.go:197", after := #[], guard := none }) (v := ?q3_6v) rfl (by kernel_rfl) (by kernel_rfl) (by kernel_rfl) (fun _ _ _ h => h) (Or.inl ⟨by rfl, ?q3_6y⟩) (by assumption) ?q3_6r
    case q3_6y => (intro w hSw; obtain ⟨t1, t2, t3, t4⟩ := hSw; go_simp; try (with_reducible rfl))
    try simp only [Act.put, sA, sZ, sS]
    refine wpAnyH_take (i := 7) (oi := { dst := some 119, op := Op.indexAddr 53 (Operand.tmp 117) (Operand.tmp 118), type := 0, pos := "ref.go:197", after := #[{ on := 5, ground := Ground.data }, { on := 6, ground := Ground.data }], guard := none }) (v := ?q3_7v) rfl (by kernel_rfl) (by kernel_rfl) (by kernel_rfl) (fun _ _ _ h => h) (Or.inl ⟨by rfl, ?q3_7y⟩) (by assumption) ?q3_7r
    case q3_7y => (intro w hSw; obtain ⟨t1, t2, t3, t4⟩ := hSw; go_simp; try (with_reducible rfl))
    try simp only [Act.put, sA, sZ, sS]
    refine wpAnyH_take (i := 8) (oi := { dst := some 120, op := Op.load 83 (Operand.tmp 119), type := 83, pos := "ref.go:197", after := #[{ on := 7, ground := Ground.data }], guard := none }) (v := ?q3_8v) rfl (by kernel_rfl) (by kernel_rfl) (by kernel_rfl) (fun _ _ _ h => h) (Or.inl ⟨by rfl, ?q3_8y⟩) (by assumption) ?q3_8r
    case q3_8y => (intro w hSw; obtain ⟨t1, t2, t3, t4⟩ := hSw; go_simp; try (with_reducible rfl))
    try simp only [Act.put, sA, sZ, sS]
    refine wpAnyH_ready (rs := [1]) (by kernel_rfl) (by simp) ?_
    refine AllReadyH.cons (o := { dst := some 113, op := Op.load 56 (Operand.tmp 10), type := 56, pos := "ref.go:197", after := #[], guard := none }) rfl (fun K hK => ?_) AllReadyH.nil
    have HE6 := hi_ (HEw.out.below (below_drew (Below.refl wr.heap.size wr)))
    have k0 : wr.drew.cell? ⟨ga, 0, none⟩ = some (.slice eq.valid.A eq.valid.l.length eq.valid.c) := HE6.out.blk.cell 0
    have k1 : wr.drew.cell? ⟨ga, 1, none⟩ = some (.slice eq.fields.A eq.fields.l.length eq.fields.c) := HE6.out.blk.cell 1
    have k2 : wr.drew.cell? ⟨ga, 2, none⟩ = some (.slice eq.metaV.A eq.metaV.l.length eq.metaV.c) := HE6.out.blk.cell 2
    have k3 : wr.drew.cell? ⟨ga, 3, none⟩ = some (.slice eq.payload.A eq.payload.l.length eq.payload.c) := HE6.out.blk.cell 3
    go_simp
    refine hK.out _ _ (HSB.out wr.drew (below_drew (Below.refl _ _))) (fun _ => ?_)
    clear hK K k0 k1 k2 k3
    try simp only [Act.put, sA, sZ, sS]
    refine wpAnyH_ready (rs := [9]) (by kernel_rfl) (by simp) ?_
    refine AllReadyH.cons (o := { dst := some 121, op := Op.call { callee := Callee.value (Operand.func 76), args := #[Operand.tmp 112, Operand.tmp 113, Operand.tmp 116, Operand.tmp 120], argTypes := #[31, 56, 98, 83] }, type := 56, pos := "ref.go:197", after := #[{ on := 0, ground := Ground.data }, { on := 1, ground := Ground.data }, { on := 4, ground := Ground.data }, { on := 8, ground := Ground.data }], guard := none }) rfl (fun K hK => ?_) AllReadyH.nil
    go_simp
    go_at_call 76
    refine (HSt.out wr.drew (below_drew (Below.refl _ _))).mono ?_
    rintro r w7 ⟨ee2, rfl, hbe2, hm2, hb7⟩
    have hb7' : Below wr.heap.size wr w7 := below_step (below_drew (Below.refl _ _)) hb7
    have hS7 := HSB.out w7 hb7'
    refine hK.out _ _ hS7 (fun _ => ?_)
    clear hK K
    try simp only [Act.put, sA, sZ, sS]
    refine wpAnyH_ready (rs := [10]) (by kernel_rfl) (by simp) ?_
    refine AllReadyH.cons (o := { dst := none, op := Op.store 56 (Operand.tmp 10) (Operand.tmp 121), type := 0, pos := "ref.go:197", after := #[{ on := 9, ground := Ground.data }, { on := 9, ground := Ground.chain }, { on := 0, ground := Ground.phase }, { on := 1, ground := Ground.phase }, { on := 2, ground := Ground.phase }, { on := 3, ground := Ground.phase }, { on := 4, ground := Ground.phase }, { on := 5, ground := Ground.phase }, { on := 6, ground := Ground.phase }, { on := 7, ground := Ground.phase }, { on := 8, ground := Ground.phase }, { on := 9, ground := Ground.phase }], guard := none }) rfl (fun K hK => ?_) AllReadyH.nil
    have HE7 := hi_ (HEw.out.below hb7')
    have k0 : w7.cell? ⟨ga, 0, none⟩ = some (.slice eq.valid.A eq.valid.l.length eq.valid.c) := HE7.out.blk.cell 0
    have k1 : w7.cell? ⟨ga, 1, none⟩ = some (.slice eq.fields.A eq.fields.l.length eq.fields.c) := HE7.out.blk.cell 1
    have k2 : w7.cell? ⟨ga, 2, none⟩ = some (.slice eq.metaV.A eq.metaV.l.length eq.metaV.c) := HE7.out.blk.cell 2
    have k3 : w7.cell? ⟨ga, 3, none⟩ = some (.slice eq.payload.A eq.payload.l.length eq.payload.c) := HE7.out.blk.cell 3
    have kf : ∀ j, w7.frozen? ⟨ga, j, none⟩ = false := fun j => HE7.out.blk.frozen j
    obtain ⟨hS8, HE8, HV8, HB8⟩ := HFin.out wr.drew w7 ee2 (below_drew (Below.refl _ _)) hb7' hm2
    have hK2 := hK.out
    clear hK
    go_simp
    refine hK2 _ _ hS8 (fun _ => ?_)
    clear hK2 K k0 k1 k2 k3 kf hS7 hS8
    try simp only [Act.put, sA, sZ, sS]
    refine wpAnyH_done (by kernel_rfl) ?_ _
    go_wp2
    go_roundw
    case rel => exact ⟨f + 1, ix + 1, ee2, by omega, by go_num, by go_num, by omega, hi_ (by have := HBq.out; omega), hi_ (hbe2.trans HSe.out), HE8, HV8, HB8⟩
    case measure => simp [intOf]; omega
  have hkH : k = p.headers.l.length := by omega
  have HBv : Hid (ee.bare = refSt p l c.bare pl p.headers.l.length 0 0) := hi_ (by rw [HBe.out, hkH])
  have hai : a = m := by rw [HA.out, HMF.out, hkH, fN]
  subst hai
  have hki : ¬ (k : Int) < (p.headers.l.length : Int) := by omega
  have s1 := HS1.out wr HBw.out
  have HA2 := HMF
  clear hkH HBe HA hlt hk
  go_wp2
  clear s1 hki
  go_loopw [19, 22] (fun av fv wr => ∃ (f b : Nat) (eq : EnvD), f ≤ p.metadata.l.length ∧ fv = .int .i64 f ∧ av = .int .i64 b ∧ b ≤ 40000 ∧ Hid (b = a + p.headers.l.length + f) ∧ Hid (eq.bare = refSt p l c.bare pl p.headers.l.length 0 f) ∧ Hid (EAt wr W.heap.size ga eq) ∧ Hid (VB wr gB ⟨lv, Av, cv⟩ ⟨lb, Ab, cb⟩) ∧ Hid (Below W.heap.size W wr)) (fun _ i _ => p.metadata.l.length - (intOf i).toNat)
  case atStart => exact ⟨0, a + p.headers.l.length, ee, Nat.zero_le _, rfl, by go_num, by omega, hi_ rfl, HBv, HEw, HVw, HBw⟩
  clear HBv HEw HVw HBw
  case round =>
  obtain ⟨f, b, eq, hf, rfl, rfl, hb, HBq, HBe, HEw, HVw, HBw⟩ := hrel
  have s2 := HS2.out wr HBw.out
  by_cases hlf : f < p.metadata.l.length ∧ b < lv.length
  case pos =>
    obtain ⟨hlf, hat⟩ := hlf
    have hlfi : (f : Int) < (p.metadata.l.length : Int) := by omega
    have hati : (b : Int) < (lv.length : Int) := by omega
    obtain ⟨gh, hAv, hgh1, hgh2⟩ := HVw.out.v.at (fun e1 => by have e2 : lv = [] := e1; rw [e2] at hat; cases hat)
    simp only at hAv
    subst hAv
    obtain ⟨ix, hix⟩ : ∃ ix, ix = b := ⟨_, rfl⟩
    obtain ⟨hv, hhv⟩ : ∃ hv, hv = heldM l c.bare b := ⟨_, rfl⟩
    have HCell : Hid (∀ u, Below wr.heap.size wr u → u.cell? ⟨gh, ix, none⟩ = some (.int .u32 hv)) := hi_ (fun u hu => by rw [hix, hhv, ← HLat.out _ hat]; exact row_u (HVw.out.v.below hu) rfl hat)
    have HSB : Hid (∀ u, Below wr.heap.size wr u → (fun w' => (∀ i, i < 9 → w'.cell? ⟨w.heap.size, i, none⟩ = (progCells p)[i]?) ∧ w'.cell? ⟨gh, ix, none⟩ = some (.int .u32 hv) ∧ True ∧ True) u) := hi_ (fun u hu => ⟨HP00.out u (below_step HBw.out hu), HCell.out u hu, trivial, trivial⟩)
    have hrg := heldM_range l c.bare b
    rw [← hhv] at hrg
    have HFit : Hid (EnvFit eq.bare) := hi_ (by rw [HBe.out]; exact refSt_fit HS.out hpl _ _ _)
    have HSe : Hid (setE p eq.bare (-1) f hv = refSt p l c.bare pl p.headers.l.length 0 (f + 1)) := hi_ (by rw [HBe.out, hhv]; rw [HBq.out, HMF.out]; exact refSt_meta)
    have HSt := hi_ (fun u (hu : Below wr.heap.size wr u) => rset_meta p eq f hv u (HO.out u (below_step HBw.out hu)) (HEw.out.ok.below hu) HFit.out hrg.1 hrg.2)
    have hixi : (ix : Int) < (lv.length : Int) := by omega
    have HFin : Hid (∀ (w6 w7 : World) (ee2 : EnvD), Below wr.heap.size wr w6 → Below wr.heap.size wr w7 → EnvMine w7 w6.heap.size ee2 → ((fun w' => (∀ i, i < 9 → w'.cell? ⟨w.heap.size, i, none⟩ = (progCells p)[i]?) ∧ w'.cell? ⟨gh, ix, none⟩ = some (.int .u32 hv) ∧ True ∧ True) ((((w7.setCell ⟨ga, 0, none⟩ (.slice ee2.valid.A ee2.valid.l.length ee2.valid.c)).setCell ⟨ga, 1, none⟩ (.slice ee2.fields.A ee2.fields.l.length ee2.fields.c)).setCell ⟨ga, 2, none⟩ (.slice ee2.metaV.A ee2.metaV.l.length ee2.metaV.c)).setCell ⟨ga, 3, none⟩ (.slice ee2.payload.A ee2.payload.l.length ee2.payload.c)) ∧ Hid (EAt ((((w7.setCell ⟨ga, 0, none⟩ (.slice ee2.valid.A ee2.valid.l.length ee2.valid.c)).setCell ⟨ga, 1, none⟩ (.slice ee2.fields.A ee2.fields.l.length ee2.fields.c)).setCell ⟨ga, 2, none⟩ (.slice ee2.metaV.A ee2.metaV.l.length ee2.metaV.c)).setCell ⟨ga, 3, none⟩ (.slice ee2.payload.A ee2.payload.l.length ee2.payload.c)) W.heap.size ga ee2) ∧ Hid (VB ((((w7.setCell ⟨ga, 0, none⟩ (.slice ee2.valid.A ee2.valid.l.length ee2.valid.c)).setCell ⟨ga, 1, none⟩ (.slice ee2.fields.A ee2.fields.l.length ee2.fields.c)).setCell ⟨ga, 2, none⟩ (.slice ee2.metaV.A ee2.metaV.l.length ee2.metaV.c)).setCell ⟨ga, 3, none⟩ (.slice ee2.payload.A ee2.payload.l.length ee2.payload.c)) gB ⟨lv, some ⟨gh, 0, none⟩, cv⟩ ⟨lb, Ab, cb⟩) ∧ Hid (Below W.heap.size W ((((w7.setCell ⟨ga, 0, none⟩ (.slice ee2.valid.A ee2.valid.l.length ee2.valid.c)).setCell ⟨ga, 1, none⟩ (.slice ee2.fields.A ee2.fields.l.length ee2.fields.c)).setCell ⟨ga, 2, none⟩ (.slice ee2.metaV.A ee2.metaV.l.length ee2.metaV.c)).setCell ⟨ga, 3, none⟩ (.slice ee2.payload.A ee2.payload.l.length ee2.payload.c))))) := hi_ (fun w6 w7 ee2 h6 h7 hm => by
      have hlt6 : ga < w6.heap.size := Nat.lt_of_lt_of_le HEw.out.blk.lt h6.size
      have h9 := HSB.out w7 h7
      have hgW := HGW.out
      have hsz := HSz.out
      have hgB := HGB.out
      have hgh : gB ≤ gh := hgh1
      have far : ∀ (b i : Nat) (x y z u : Value), b ≠ ga → ((((w7.setCell ⟨ga, 0, none⟩ x).setCell ⟨ga, 1, none⟩ y).setCell ⟨ga, 2, none⟩ z).setCell ⟨ga, 3, none⟩ u).cell? ⟨b, i, none⟩ = w7.cell? ⟨b, i, none⟩ := fun b i x y z u hne => by
        rw [World.cell?_setCell_far _ _ _ _ (by exact fun e => hne e.symm), World.cell?_setCell_far _ _ _ _ (by exact fun e => hne e.symm), World.cell?_setCell_far _ _ _ _ (by exact fun e => hne e.symm), World.cell?_setCell_far _ _ _ _ (by exact fun e => hne e.symm)]
      refine ⟨⟨fun i hi => (far _ _ _ _ _ _ (by omega)).trans (h9.1 i hi), (far _ _ _ _ _ _ (by omega)).trans h9.2.1, trivial, trivial⟩, hi_ (EAt.lay (B0 := W.heap.size) hm (Nat.le_trans HBw.out.size h6.size) ((HEw.out.below h7).blk) rfl hlt6), hi_ ((HVw.out.below h7).four HGB.out _ _ _ _), hi_ (((((below_step HBw.out h7).setCell (by exact hgW) _).setCell (by exact hgW) _).setCell (by exact hgW) _).setCell (by exact hgW) _)⟩)
    clear hhv hrg HCell
    rw [← hix] at hb HBq ⊢
    clear hix hat hati s2
    have s2 := HS2.out wr HBw.out
    go_upto_region 35 with fail
    clear s2
    refine wp_region_held_drew (S := fun w' => (∀ i, i < 9 → w'.cell? ⟨w.heap.size, i, none⟩ = (progCells p)[i]?) ∧ w'.cell? ⟨gh, ix, none⟩ = some (.int .u32 hv) ∧ True ∧ True) (by kernel_rfl) (HSB.out wr.drew (below_drew (Below.refl _ _))) (fun hHeld => ?_)
    refine wpAnyH_take (i := 0) (oi := { dst := some 142, op := Op.load 31 (Operand.tmp 4), type := 31, pos := "ref.go:204", after := #[], guard := none }) (v := ?q9_0v) rfl (by kernel_rfl) (by kernel_rfl) (by kernel_rfl) (fun _ _ _ h => h) (Or.inl ⟨by rfl, ?q9_0y⟩) (by assumption) ?q9_0r
    case q9_0y => (intro w hSw; obtain ⟨t1, t2, t3, t4⟩ := hSw; go_simp; try (with_reducible rfl))
    try simp only [Act.put, sA, sZ, sS]
    refine wpAnyH_take (i := 2) (oi := { dst := some 144, op := Op.move (Operand.tmp 22), type := 3, pos := "ref.go:204", after := #[], guard := none }) (v := ?q9_2v) rfl (by kernel_rfl) (by kernel_rfl) (by kernel_rfl) (fun _ _ _ h => h) (Or.inl ⟨by rfl, ?q9_2y⟩) (by assumption) ?q9_2r
    case q9_2y => (intro w hSw; obtain ⟨t1, t2, t3, t4⟩ := hSw; go_simp; try (with_reducible rfl))
    try simp only [Act.put, sA, sZ, sS]
    refine wpAnyH_take (i := 3) (oi := { dst := some 145, op := Op.build 98 #[(0, Operand.const (Value.int IntKind.i64 (-1))), (1, Operand.tmp 144)], type := 98, pos := "ref.go:204", after := #[{ on := 2, ground := Ground.data }], guard := none }) (v := ?q9_3v) rfl (by kernel_rfl) (by kernel_rfl) (by kernel_rfl) (fun _ _ _ h => h) (Or.inl ⟨by rfl, ?q9_3y⟩) (by assumption) ?q9_3r
    case q9_3y => (intro w hSw; obtain ⟨t1, t2, t3, t4⟩ := hSw; go_simp; try (with_reducible rfl))
    try simp only [Act.put, sA, sZ, sS]
    refine wpAnyH_take (i := 4) (oi := { dst := some 146, op := Op.move (Operand.tmp 12), type := 53, pos := "ref.go:204", after := #[], guard := none }) (v := ?q9_4v) rfl (by kernel_rfl) (by kernel_rfl) (by kernel_rfl) (fun _ _ _ h => h) (Or.inl ⟨by rfl, ?q9_4y⟩) (by assumption) ?q9_4r
    case q9_4y => (intro w hSw; obtain ⟨t1, t2, t3, t4⟩ := hSw; go_simp; try (with_reducible rfl))
    try simp only [Act.put, sA, sZ, sS]
    refine wpAnyH_take (i := 5) (oi := { dst := some 147, op := Op.move (Operand.tmp 19), type := 3, pos := "ref.go:204", after := #[], guard := none }) (v := ?q9_5v) rfl (by kernel_rfl) (by kernel_rfl) (by kernel_rfl) (fun _ _ _ h => h) (Or.inl ⟨by rfl, ?q9_5y⟩) (by assumption) ?q9_5r
    case q9_5y => (intro w hSw; obtain ⟨t1, t2, t3, t4⟩ := hSw; go_simp; try (with_reducible rfl))
    try simp only [Act.put, sA, sZ, sS]
    refine wpAnyH_take (i := 6) (oi := { dst := some 148, op := Op.indexAddr 53 (Operand.tmp 146) (Operand.tmp 147), type := 0, pos := "ref.go:204", after := #[{ on := 4, ground := Ground.data }, { on := 5, ground := Ground.data }], guard := none }) (v := ?q9_6v) rfl (by kernel_rfl) (by kernel_rfl) (by kernel_rfl) (fun _ _ _ h => h) (Or.inl ⟨by rfl, ?q9_6y⟩) (by assumption) ?q9_6r
    case q9_6y => (intro w hSw; obtain ⟨t1, t2, t3, t4⟩ := hSw; go_simp; try (with_reducible rfl))
    try simp only [Act.put, sA, sZ, sS]
    refine wpAnyH_take (i := 7) (oi := { dst := some 149, op := Op.load 83 (Operand.tmp 148), type := 83, pos := "ref.go:204", after := #[{ on := 6, ground := Ground.data }], guard := none }) (v := ?q9_7v) rfl (by kernel_rfl) (by kernel_rfl) (by kernel_rfl) (fun _ _ _ h => h) (Or.inl ⟨by rfl, ?q9_7y⟩) (by assumption) ?q9_7r
    case q9_7y => (intro w hSw; obtain ⟨t1, t2, t3, t4⟩ := hSw; go_simp; try (with_reducible rfl))
    try simp only [Act.put, sA, sZ, sS]
    refine wpAnyH_ready (rs := [1]) (by kernel_rfl) (by simp) ?_
    refine AllReadyH.cons (o := { dst := some 143, op := Op.load 56 (Operand.tmp 10), type := 56, pos := "ref.go:204", after := #[], guard := none }) rfl (fun K hK => ?_) AllReadyH.nil
    have HE6 := hi_ (HEw.out.below (below_drew (Below.refl wr.heap.size wr)))
    have k0 : wr.drew.cell? ⟨ga, 0, none⟩ = some (.slice eq.valid.A eq.valid.l.length eq.valid.c) := HE6.out.blk.cell 0
    have k1 : wr.drew.cell? ⟨ga, 1, none⟩ = some (.slice eq.fields.A eq.fields.l.length eq.fields.c) := HE6.out.blk.cell 1
    have k2 : wr.drew.cell? ⟨ga, 2, none⟩ = some (.slice eq.metaV.A eq.metaV.l.length eq.metaV.c) := HE6.out.blk.cell 2
    have k3 : wr.drew.cell? ⟨ga, 3, none⟩ = some (.slice eq.payload.A eq.payload.l.length eq.payload.c) := HE6.out.blk.cell 3
    go_simp
    refine hK.out _ _ (HSB.out wr.drew (below_drew (Below.refl _ _))) (fun _ => ?_)
    clear hK K k0 k1 k2 k3
    try simp only [Act.put, sA, sZ, sS]
    refine wpAnyH_ready (rs := [8]) (by kernel_rfl) (by simp) ?_
    refine AllReadyH.cons (o := { dst := some 150, op := Op.call { callee := Callee.value (Operand.func 76), args := #[Operand.tmp 142, Operand.tmp 143, Operand.tmp 145, Operand.tmp 149], argTypes := #[31, 56, 98, 83] }, type := 56, pos := "ref.go:204", after := #[{ on := 0, ground := Ground.data }, { on := 1, ground := Ground.data }, { on := 3, ground := Ground.data }, { on := 7, ground := Ground.data }], guard := none }) rfl (fun K hK => ?_) AllReadyH.nil
    go_simp
    go_at_call 76
    refine (HSt.out wr.drew (below_drew (Below.refl _ _))).mono ?_
    rintro r w7 ⟨ee2, rfl, hbe2, hm2, hb7⟩
    have hb7' : Below wr.heap.size wr w7 := below_step (below_drew (Below.refl _ _)) hb7
    have hS7 := HSB.out w7 hb7'
    refine hK.out _ _ hS7 (fun _ => ?_)
    clear hK K
    try simp only [Act.put, sA, sZ, sS]
    refine wpAnyH_ready (rs := [9]) (by kernel_rfl) (by simp) ?_
    refine AllReadyH.cons (o := { dst := none, op := Op.store 56 (Operand.tmp 10) (Operand.tmp 150), type := 0, pos := "ref.go:204", after := #[{ on := 8, ground := Ground.data }, { on := 8, ground := Ground.chain }, { on := 0, ground := Ground.phase }, { on := 1, ground := Ground.phase }, { on := 2, ground := Ground.phase }, { on := 3, ground := Ground.phase }, { on := 4, ground := Ground.phase }, { on := 5, ground := Ground.phase }, { on := 6, ground := Ground.phase }, { on := 7, ground := Ground.phase }, { on := 8, ground := Ground.phase }], guard := none }) rfl (fun K hK => ?_) AllReadyH.nil
    have HE7 := hi_ (HEw.out.below hb7')
    have k0 : w7.cell? ⟨ga, 0, none⟩ = some (.slice eq.valid.A eq.valid.l.length eq.valid.c) := HE7.out.blk.cell 0
    have k1 : w7.cell? ⟨ga, 1, none⟩ = some (.slice eq.fields.A eq.fields.l.length eq.fields.c) := HE7.out.blk.cell 1
    have k2 : w7.cell? ⟨ga, 2, none⟩ = some (.slice eq.metaV.A eq.metaV.l.length eq.metaV.c) := HE7.out.blk.cell 2
    have k3 : w7.cell? ⟨ga, 3, none⟩ = some (.slice eq.payload.A eq.payload.l.length eq.payload.c) := HE7.out.blk.cell 3
    have kf : ∀ j, w7.frozen? ⟨ga, j, none⟩ = false := fun j => HE7.out.blk.frozen j
    obtain ⟨hS8, HE8, HV8, HB8⟩ := HFin.out wr.drew w7 ee2 (below_drew (Below.refl _ _)) hb7' hm2
    have hK2 := hK.out
    clear hK
    go_simp
    refine hK2 _ _ hS8 (fun _ => ?_)
    clear hK2 K k0 k1 k2 k3 kf hS7 hS8
    try simp only [Act.put, sA, sZ, sS]
    refine wpAnyH_done (by kernel_rfl) ?_ _
    go_wp2
    go_roundw
    case rel => exact ⟨f + 1, ix + 1, ee2, by omega, by go_num, by go_num, by omega, hi_ (by have := HBq.out; omega), hi_ (hbe2.trans HSe.out), HE8, HV8, HB8⟩
    case measure => simp [intOf]; omega
  have HBv : Hid (eq.bare = storeM p l c.bare pl) := hi_ (by
    rw [HBe.out]
    refine refSt_end ?_
    by_cases h1 : f = p.metadata.l.length
    · exact .inl h1
    · refine .inr ?_
      have h2 := HBq.out
      have h3 := HMF.out
      have h4 := HLl.out
      have h5 : ¬ b < lv.length := fun h => hlf ⟨by omega, h⟩
      omega)
  have HZf := hi_ (HZ.out.below HBw.out HZ.out.lt)
  have k0 : wr.cell? ⟨ga, 0, none⟩ = some (.slice eq.valid.A eq.valid.l.length eq.valid.c) := HEw.out.blk.cell 0
  have k1 : wr.cell? ⟨ga, 1, none⟩ = some (.slice eq.fields.A eq.fields.l.length eq.fields.c) := HEw.out.blk.cell 1
  have k2 : wr.cell? ⟨ga, 2, none⟩ = some (.slice eq.metaV.A eq.metaV.l.length eq.metaV.c) := HEw.out.blk.cell 2
  have k3 : wr.cell? ⟨ga, 3, none⟩ = some (.slice eq.payload.A eq.payload.l.length eq.payload.c) := HEw.out.blk.cell 3
  have z0 : wr.cell? ⟨w.heap.size + 1 + 1, 0, none⟩ = some (.slice none 0 0) := HZf.out.cell 0
  have z1 : wr.cell? ⟨w.heap.size + 1 + 1, 1, none⟩ = some (.slice none 0 0) := HZf.out.cell 1
  have z2 : wr.cell? ⟨w.heap.size + 1 + 1, 2, none⟩ = some (.slice none 0 0) := HZf.out.cell 2
  have z3 : wr.cell? ⟨w.heap.size + 1 + 1, 3, none⟩ = some (.slice none 0 0) := HZf.out.cell 3
  have zf : ∀ j, wr.frozen? ⟨w.heap.size + 1 + 1, j, none⟩ = false := fun j => HZf.out.frozen j
  have HLbF := HLbE
  clear HBe HLbE
  by_cases h1 : f < p.metadata.l.length
  case pos =>
    have h1i : (f : Int) < (p.metadata.l.length : Int) := by omega
    have h2i : ¬ (b : Int) < (lv.length : Int) := fun h => hlf ⟨h1, by omega⟩
    clear hlf h1
    go_wp2
    try rw [Exit.noGoto_ret]
    try simp only [Exit.jump]
    refine bodyPost_ret (v := .tuple #[.agg #[.slice eq.valid.A eq.valid.l.length eq.valid.c, .slice eq.fields.A eq.fields.l.length eq.fields.c, .slice eq.metaV.A eq.metaV.l.length eq.metaV.c, .slice eq.payload.A eq.payload.l.length eq.payload.c], .slice Ab lb.length cb]) ?_ rfl ?_
    · refine results_row_tmp (fn := Tryz.f28) (p := 8) (u := 9) (ty := 56) rfl _ _ (w.heap.size + 1 + 1) 56 #[.slice eq.valid.A eq.valid.l.length eq.valid.c, .slice eq.fields.A eq.fields.l.length eq.fields.c, .slice eq.metaV.A eq.metaV.l.length eq.metaV.c, .slice eq.payload.A eq.payload.l.length eq.payload.c] _ rfl ?_ Tryz.underlying56 rfl (by kernel_rfl)
      exact (((HZf.out.set_ 0 _).set_ 1 _).set_ 2 _).set_ 3 _
    · have hsz := HSz.out
      have hle : w.heap.size ≤ w.heap.size + 1 + 1 := by omega
      have hn1 : w.heap.size + 1 + 1 < W.heap.size := by omega
      have hgW := HGW.out
      have hgB := HGB.out
      refine ⟨eq, ⟨lb, Ab, cb⟩, rfl, HBv.out, HLbF.out, ?_, ?_, ((((below_step HW.out HBw.out).setCell hle _).setCell hle _).setCell hle _).setCell hle _⟩
      · exact (HEw.out.has.four hn1 _ _ _ _).lower HW.out.size
      · exact ((HVw.out.four (ga := w.heap.size + 1 + 1) (by omega) _ _ _ _).b).lower (by have := HW.out.size; omega)
  have h1i : ¬ (f : Int) < (p.metadata.l.length : Int) := by omega
  clear hlf h1
  go_wp2
  try rw [Exit.noGoto_ret]
  try simp only [Exit.jump]
  refine bodyPost_ret (v := .tuple #[.agg #[.slice eq.valid.A eq.valid.l.length eq.valid.c, .slice eq.fields.A eq.fields.l.length eq.fields.c, .slice eq.metaV.A eq.metaV.l.length eq.metaV.c, .slice eq.payload.A eq.payload.l.length eq.payload.c], .slice Ab lb.length cb]) ?_ rfl ?_
  · refine results_row_tmp (fn := Tryz.f28) (p := 8) (u := 9) (ty := 56) rfl _ _ (w.heap.size + 1 + 1) 56 #[.slice eq.valid.A eq.valid.l.length eq.valid.c, .slice eq.fields.A eq.fields.l.length eq.fields.c, .slice eq.metaV.A eq.metaV.l.length eq.metaV.c, .slice eq.payload.A eq.payload.l.length eq.payload.c] _ rfl ?_ Tryz.underlying56 rfl (by kernel_rfl)
    exact (((HZf.out.set_ 0 _).set_ 1 _).set_ 2 _).set_ 3 _
  · have hsz := HSz.out
    have hle : w.heap.size ≤ w.heap.size + 1 + 1 := by omega
    have hn1 : w.heap.size + 1 + 1 < W.heap.size := by omega
    have hgW := HGW.out
    have hgB := HGB.out
    refine ⟨eq, ⟨lb, Ab, cb⟩, rfl, HBv.out, HLbF.out, ?_, ?_, ((((below_step HW.out HBw.out).setCell hle _).setCell hle _).setCell hle _).setCell hle _⟩
    · exact (HEw.out.has.four hn1 _ _ _ _).lower HW.out.size
    · exact ((HVw.out.four (ga := w.heap.size + 1 + 1) (by omega) _ _ _ _).b).lower (by have := HW.out.size; omega)
theorem conv_str (y : L Int) (w : World) (h : LOkN w 1 ycell y) : (convert 54 9 (.slice y.A y.l.length y.c)).run Tryz.prog w = .ok (.string (strOfNums y.l)) w := by
  obtain ⟨l, A, c⟩ := y
  by_cases hn : l = []
  · subst hn
    cases A with
    | none => exact run_convert_bytes_nil w _ _ Tryz.underlying54 Tryz.underlying5 _ _ _ Tryz.underlying9
    | some a =>
      rw [run_convert_bytes_string w _ _ _ _ _ _ Tryz.underlying54 Tryz.underlying5 Tryz.underlying9]
      have hl : (loadCells a 0).run Tryz.prog w = .ok (([] : List Int).map (Value.int .u8)).toArray w := by simp [loadCells, loadCellsFrom]
      exact run_bytesToString w _ 0 c [] hl
  · obtain ⟨g, o, hA, _⟩ := ycell_at h.1 (i := 0) (List.length_pos_iff.2 hn)
    simp only at hA
    subst hA
    exact run_convert_bytes_arg w _ _ Tryz.underlying54 Tryz.underlying5 g o _ c l rfl (fun i hi => by
      obtain ⟨g', o', e1, d1⟩ := ycell_at h.1 hi
      simp only at e1 d1
      injection e1 with e1
      injection e1 with e1 e2
      subst e1 e2
      rw [d1, List.getD_eq_getElem?_getD, List.getElem?_eq_getElem hi]; rfl) _ Tryz.underlying9
theorem equalVals_any (l : List Int) (A1 A2 : Option Addr) (c1 c2 : Nat) (w : World) (h1 : LOkN w 1 ucell ⟨l, A1, c1⟩) (h2 : LOkN w 1 ucell ⟨l, A2, c2⟩) :
    Calls Tryz.prog 77 #[.slice A1 l.length c1, .slice A2 l.length c2] w fun r w' => r = .returned (.bool true) ∧ Below w.heap.size w w' := by
  have H1 := hi_ h1.1
  have H2 := hi_ h2.1
  have hmx := h1.1.1
  unfold maxLen at hmx
  simp only at hmx
  clear h1 h2
  have HB0 := hi_ (Below.refl w.heap.size w)
  go_enter Tryz.func77, Tryz.ntmps77
  go_wp2
  go_loopw [5] (fun iv wr => ∃ k : Nat, k ≤ l.length ∧ iv = .int .i64 k ∧ Below w.heap.size w wr) (fun i _ => l.length - (intOf i).toNat)
  case atStart => exact ⟨0, Nat.zero_le _, rfl, HB0.out⟩
  case round =>
  obtain ⟨k, hk, rfl, HB⟩ := hrel
  by_cases hlt : k < l.length
  · obtain ⟨g1, o1, hA1, d1⟩ := ucell_atA H1.out hlt
    obtain ⟨g2, o2, hA2, d2⟩ := ucell_atA H2.out hlt
    simp only at hA1 hA2 d1 d2
    subst hA1 hA2
    have e1 := d1 wr HB
    have e2 := d2 wr HB
    have hk' : (k : Int) < (l.length : Int) := by omega
    clear d1 d2
    generalize l[k] = v at *
    have hvv : (v != v) = false := by simp
    have HBz := hi_ HB
    clear HB
    go_upto_region 6 with fail
    go_quiet (fail)
    go_wp2
    go_roundw
    case rel => exact ⟨k + 1, by omega, by go_num, below_drewN HBz.out _⟩
    case measure => simp [intOf]; omega
  · go_wp2
    go_ret
    exact ⟨rfl, HB⟩
theorem envEqual_any (a b : EnvD) (w : World) (oa : EnvOk w a) (ob : EnvOk w b) (he : a.bare = b.bare) :
    Calls Tryz.prog 29 #[.agg (envCells a), .agg (envCells b)] w fun r w' => r = .returned (.bool true) ∧ Below w.heap.size w w' := by
  obtain ⟨⟨av, avA, avc⟩, ⟨af, afA, afc⟩, ⟨am, amA, amc⟩, ⟨ap, apA, apc⟩⟩ := a
  obtain ⟨⟨bv, bvA, bvc⟩, ⟨bf, bfA, bfc⟩, ⟨bm, bmA, bmc⟩, ⟨bp, bpA, bpc⟩⟩ := b
  simp only [EnvD.bare, EnvP.mk.injEq] at he
  obtain ⟨rfl, hef, rfl, rfl⟩ := he
  have hlf : bf.length = af.length := by have := congrArg List.length hef; simpa using this.symm
  obtain ⟨W, hW, hw, HB, hp⟩ := box2 w #[.slice avA av.length avc, .slice afA af.length afc, .slice amA am.length amc, .slice apA ap.length apc] 56 #[.slice bvA av.length bvc, .slice bfA af.length bfc, .slice bmA am.length bmc, .slice bpA ap.length bpc] 56
  have HW := hi_ hw
  have HOa := hi_ (oa.below hw)
  have HOb := hi_ (ob.below hw)
  have hc1 := conv_str ⟨ap, apA, apc⟩ W HOa.out.payload
  have hc2 := conv_str ⟨ap, bpA, bpc⟩ W HOb.out.payload
  simp only at hc1 hc2
  have hmv := HOa.out.valid.1.1
  have hmf := HOa.out.fields.1.1
  unfold maxLen at hmv hmf
  simp only at hmv hmf
  have HF : Hid (∀ i (h1 : i < af.length) (h2 : i < bf.length), af[i].l = bf[i].l) := hi_ (fun i h1 h2 => by
    have h9 : (af.map L.l)[i]? = (bf.map L.l)[i]? := by rw [hef]
    simp [h1, h2] at h9
    exact h9)
  have HLf := hi_ hlf
  clear oa ob hw hef
  simp only [envCells, hlf]
  clear hlf
  go_enter Tryz.func29, Tryz.ntmps29
  go_upto_region 1 with fail
  rw [← hW]
  clear hW
  have hp3 := hp W HB
  go_wp2
  clear hp3 hc1 hc2
  go_loopw [5] (fun iv wr => ∃ k : Nat, k ≤ av.length ∧ iv = .int .i64 k ∧ Below W.heap.size W wr) (fun i _ => av.length - (intOf i).toNat)
  case atStart => exact ⟨0, Nat.zero_le _, rfl, HB⟩
  clear HB
  case round =>
  obtain ⟨k, hk, rfl, HB⟩ := hrel
  have hp3 := hp wr HB
  by_cases hlt : k < av.length
  · obtain ⟨g1, o1, hA1, d1⟩ := bcell_atA HOa.out.valid.1 hlt
    obtain ⟨g2, o2, hA2, d2⟩ := bcell_atA HOb.out.valid.1 hlt
    simp only at hA1 hA2 d1 d2
    subst hA1 hA2
    have e1 := d1 wr HB
    have e2 := d2 wr HB
    have hk' : (k : Int) < (av.length : Int) := by omega
    clear d1 d2
    generalize av[k] = v at *
    have hvv : (v != v) = false := by simp
    have HBz := hi_ HB
    go_upto_region 6 with fail
    go_quiet (fail)
    go_wp2
    go_roundw
    case rel => exact ⟨k + 1, by omega, by go_num, below_drewN HBz.out _⟩
    case measure => simp [intOf]; omega
  have HB1 := hi_ HB
  go_wp2
  clear hp3 HB hlt
  go_loopw [6] (fun iv wr => ∃ k : Nat, k ≤ af.length ∧ iv = .int .i64 k ∧ Below W.heap.size W wr) (fun i _ => af.length - (intOf i).toNat)
  case atStart => exact ⟨0, Nat.zero_le _, rfl, HB1.out⟩
  case round =>
  obtain ⟨k, hk, rfl, HB⟩ := hrel
  have hp3 := hp wr HB
  by_cases hlt : k < af.length
  · have hlt2 : k < bf.length := by rw [HLf.out]; exact hlt
    obtain ⟨g1, o1, hA1, d1⟩ := lcell_atA HOa.out.fields.1 hlt
    obtain ⟨g2, o2, hA2, d2⟩ := lcell_atA HOb.out.fields.1 hlt2
    have HX1 := hi_ (HOa.out.each _ (List.getElem_mem hlt))
    have HX2 := hi_ (HOb.out.each _ (List.getElem_mem hlt2))
    have hll := HF.out k hlt hlt2
    simp only at hA1 hA2 d1 d2 HX1 HX2
    subst hA1 hA2
    generalize af[k] = x at *
    generalize bf[k] = y at *
    obtain ⟨xl, xA, xc⟩ := x
    obtain ⟨yl, yA, yc⟩ := y
    simp only at hll d1 d2 HX1 HX2
    subst hll
    have HEv := hi_ (fun u (hu : Below W.heap.size W u) => equalVals_any xl xA yA xc yc u (HX1.out.below hu) (HX2.out.below hu))
    have hk' : (k : Int) < (af.length : Int) := by omega
    have HBz := hi_ HB
    have HBd := hi_ (below_drew HB)
    go_upto_region 11 with fail
    clear HB hp3
    go_region_held3 (fun w' => Below W.heap.size W w') (first | exact HBz.out | exact HBd.out | (exact below_step (by assumption) (by assumption)) | assumption)
      (first | (go_at_call 77; refine (HEv.out _ (by assumption)).mono ?_; rintro r w5 ⟨rfl, hb1⟩))
    have HB5 : Hid (Below W.heap.size W _) := hi_ (by assumption)
    go_wp2
    go_roundw
    case rel => exact ⟨k + 1, by omega, by go_num, HB5.out⟩
    case measure => simp [intOf]; omega
  have HBz := hi_ HB
  have HEv := hi_ (equalVals_any am amA bmA amc bmc wr (HOa.out.metaV.below HB) (HOb.out.metaV.below HB))
  go_wp2_with fail
  refine HEv.out.mono ?_
  rintro r w5 ⟨rfl, hb5⟩
  go_wp2
  go_ret
  exact ⟨rfl, below_step HW.out (below_step HBz.out hb5)⟩
end Go.Proofs.YtbfjknidinkafaaGreat
