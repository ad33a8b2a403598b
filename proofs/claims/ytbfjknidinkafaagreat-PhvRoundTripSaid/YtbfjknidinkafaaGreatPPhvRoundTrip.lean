/- The walks of the reference's equality of environments, at equal environments (package patchbayref12). No condition but that both lie in memory. The walks of the reference's sized and Check of an environment: what an OK tells (package patchbayref12). No condition but that program and environment lie in memory. The walk of the reference's Check of an environment: what a 0 tells (package patchbayref12). No condition but that program and environment lie in memory and are well read. The law PhvRoundTrip. No condition but that the program and the state are well read. The law patchbaylaw36.PhvRoundTrip holds: for every input the call returns true, and each argument reads afterwards as it read before. No condition. -/
import Derived.Test.YtbfjknidinkafaaGreatJc
import Derived.Test.YtbfjknidinkafaaGreatCkK
import Derived.Laws.BytesArg
import Derived.BigQuiet
import Derived.Test.YtbfjknidinkafaaGreatJn
import Derived.Test.YtbfjknidinkafaaGreatRcC
import Derived.Test.YtbfjknidinkafaaGreatJm
import Derived.Test.YtbfjknidinkafaaGreatJe
import Derived.Test.YtbfjknidinkafaaGreatRows
import Derived.WalkKit
import Derived.ProofKit
import Derived.OpenShut
import Derived.Test.YtbfjknidinkafaaGreatPost
namespace Go.Proofs.YtbfjknidinkafaaGreat
open Go.RowKit

theorem conv_str (y : L Int) (w : World) (h : LOkN w 1 ycell y) : (convert 54 9 (.slice y.A y.l.length y.c)).run Tryz.prog w = .ok (.string (strOfNums y.l)) w := by
  obtain ⟨l, A, c⟩ := y
  by_cases hn : l = []
  · subst hn
    cases A with
    | none => exact run_convert_bytes_nil w _ _ Tryz.underlying54 Tryz.underlying5 _ _ _ Tryz.underlying9
    | some a =>
      rw [run_convert_bytes_string w _ _ _ _ _ _ Tryz.underlying54 Tryz.underlying5 Tryz.underlying9]
      have hl : (loadCells a 0).run Tryz.prog w = .ok (([] : List Int).map (Value.int .u8)).toArray w := by simp [loadCells, loadCellsFrom]
      exact run_bytesToString w _ 0 c [] hl
  · obtain ⟨g, o, hA, _⟩ := ycell_at h.1 (i := 0) (List.length_pos_iff.2 hn)
    simp only at hA
    subst hA
    exact run_convert_bytes_arg w _ _ Tryz.underlying54 Tryz.underlying5 g o _ c l rfl (fun i hi => by
      obtain ⟨g', o', e1, d1⟩ := ycell_at h.1 hi
      simp only at e1 d1
      injection e1 with e1
      injection e1 with e1 e2
      subst e1 e2
      rw [d1, List.getD_eq_getElem?_getD, List.getElem?_eq_getElem hi]; rfl) _ Tryz.underlying9
set_option maxRecDepth 100000 in
set_option maxHeartbeats 2000000 in
theorem equalVals_any (l : List Int) (A1 A2 : Option Addr) (c1 c2 : Nat) (w : World) (h1 : LOkN w 1 ucell ⟨l, A1, c1⟩) (h2 : LOkN w 1 ucell ⟨l, A2, c2⟩) :
    Calls Tryz.prog 77 #[.slice A1 l.length c1, .slice A2 l.length c2] w fun r w' => r = .returned (.bool true) ∧ Below w.heap.size w w' := by
  have H1 := Lib.hid h1.1
  have H2 := Lib.hid h2.1
  have hmx := h1.1.1
  unfold maxLen at hmx
  simp only at hmx
  clear h1 h2
  have HB0 := Lib.hid (Below.refl w.heap.size w)
  go_enter Tryz.func77, Tryz.ntmps77
  go_wp2
  go_loopw [5] (fun iv wr => ∃ k : Nat, k ≤ l.length ∧ iv = .int .i64 k ∧ Below w.heap.size w wr) (fun i _ => l.length - (intOf i).toNat)
  case atStart => exact ⟨0, Nat.zero_le _, rfl, HB0.out⟩
  case round =>
  obtain ⟨k, hk, rfl, HB⟩ := hrel
  by_cases hlt : k < l.length
  · obtain ⟨g1, o1, hA1, d1⟩ := ucell_atA H1.out hlt
    obtain ⟨g2, o2, hA2, d2⟩ := ucell_atA H2.out hlt
    simp only at hA1 hA2 d1 d2
    subst hA1 hA2
    have e1 := d1 wr HB
    have e2 := d2 wr HB
    have hk' : (k : Int) < (l.length : Int) := by omega
    clear d1 d2
    generalize l[k] = v at *
    have hvv : (v != v) = false := by simp
    have HBz := Lib.hid HB
    clear HB
    go_upto_region 6 with fail
    go_quiet (fail)
    go_wp2
    go_roundw
    case rel => exact ⟨k + 1, by omega, by go_num, below_drewN HBz.out _⟩
    case measure => simp [intOf]; omega
  · go_wp2
    go_ret
    exact ⟨rfl, HB⟩
set_option maxRecDepth 100000 in
set_option maxHeartbeats 4000000 in
theorem envEqual_any (a b : EnvD) (w : World) (oa : EnvOk w a) (ob : EnvOk w b) (he : a.bare = b.bare) :
    Calls Tryz.prog 29 #[.agg (envCells a), .agg (envCells b)] w fun r w' => r = .returned (.bool true) ∧ Below w.heap.size w w' := by
  obtain ⟨⟨av, avA, avc⟩, ⟨af, afA, afc⟩, ⟨am, amA, amc⟩, ⟨ap, apA, apc⟩⟩ := a
  obtain ⟨⟨bv, bvA, bvc⟩, ⟨bf, bfA, bfc⟩, ⟨bm, bmA, bmc⟩, ⟨bp, bpA, bpc⟩⟩ := b
  simp only [EnvD.bare, EnvP.mk.injEq] at he
  obtain ⟨rfl, hef, rfl, rfl⟩ := he
  have hlf : bf.length = af.length := by have := congrArg List.length hef; simpa using this.symm
  obtain ⟨W, hW, hw, HB, hp⟩ := box2 w #[.slice avA av.length avc, .slice afA af.length afc, .slice amA am.length amc, .slice apA ap.length apc] 56 #[.slice bvA av.length bvc, .slice bfA af.length bfc, .slice bmA am.length bmc, .slice bpA ap.length bpc] 56
  have HW := Lib.hid hw
  have HOa := Lib.hid (oa.below hw)
  have HOb := Lib.hid (ob.below hw)
  have hc1 := conv_str ⟨ap, apA, apc⟩ W HOa.out.payload
  have hc2 := conv_str ⟨ap, bpA, bpc⟩ W HOb.out.payload
  simp only at hc1 hc2
  have hmv := HOa.out.valid.1.1
  have hmf := HOa.out.fields.1.1
  unfold maxLen at hmv hmf
  simp only at hmv hmf
  have HF : Hid (∀ i (h1 : i < af.length) (h2 : i < bf.length), af[i].l = bf[i].l) := Lib.hid (fun i h1 h2 => by
    have h9 : (af.map L.l)[i]? = (bf.map L.l)[i]? := by rw [hef]
    simp [h1, h2] at h9
    exact h9)
  have HLf := Lib.hid hlf
  clear oa ob hw hef
  simp only [envCells, hlf]
  clear hlf
  go_enter Tryz.func29, Tryz.ntmps29
  go_upto_region 1 with fail
  rw [← hW]
  clear hW
  have hp3 := hp W HB
  go_wp2
  clear hp3 hc1 hc2
  go_loopw [5] (fun iv wr => ∃ k : Nat, k ≤ av.length ∧ iv = .int .i64 k ∧ Below W.heap.size W wr) (fun i _ => av.length - (intOf i).toNat)
  case atStart => exact ⟨0, Nat.zero_le _, rfl, HB⟩
  clear HB
  case round =>
  obtain ⟨k, hk, rfl, HB⟩ := hrel
  have hp3 := hp wr HB
  by_cases hlt : k < av.length
  · obtain ⟨g1, o1, hA1, d1⟩ := bcell_atA HOa.out.valid.1 hlt
    obtain ⟨g2, o2, hA2, d2⟩ := bcell_atA HOb.out.valid.1 hlt
    simp only at hA1 hA2 d1 d2
    subst hA1 hA2
    have e1 := d1 wr HB
    have e2 := d2 wr HB
    have hk' : (k : Int) < (av.length : Int) := by omega
    clear d1 d2
    generalize av[k] = v at *
    have hvv : (v != v) = false := by simp
    have HBz := Lib.hid HB
    go_upto_region 6 with fail
    go_quiet (fail)
    go_wp2
    go_roundw
    case rel => exact ⟨k + 1, by omega, by go_num, below_drewN HBz.out _⟩
    case measure => simp [intOf]; omega
  have HB1 := Lib.hid HB
  go_wp2
  clear hp3 HB hlt
  go_loopw [6] (fun iv wr => ∃ k : Nat, k ≤ af.length ∧ iv = .int .i64 k ∧ Below W.heap.size W wr) (fun i _ => af.length - (intOf i).toNat)
  case atStart => exact ⟨0, Nat.zero_le _, rfl, HB1.out⟩
  case round =>
  obtain ⟨k, hk, rfl, HB⟩ := hrel
  have hp3 := hp wr HB
  by_cases hlt : k < af.length
  · have hlt2 : k < bf.length := by rw [HLf.out]; exact hlt
    obtain ⟨g1, o1, hA1, d1⟩ := lcell_atA HOa.out.fields.1 hlt
    obtain ⟨g2, o2, hA2, d2⟩ := lcell_atA HOb.out.fields.1 hlt2
    have HX1 := Lib.hid (HOa.out.each _ (List.getElem_mem hlt))
    have HX2 := Lib.hid (HOb.out.each _ (List.getElem_mem hlt2))
    have hll := HF.out k hlt hlt2
    simp only at hA1 hA2 d1 d2 HX1 HX2
    subst hA1 hA2
    generalize af[k] = x at *
    generalize bf[k] = y at *
    obtain ⟨xl, xA, xc⟩ := x
    obtain ⟨yl, yA, yc⟩ := y
    simp only at hll d1 d2 HX1 HX2
    subst hll
    have HEv := Lib.hid (fun u (hu : Below W.heap.size W u) => equalVals_any xl xA yA xc yc u (HX1.out.below hu) (HX2.out.below hu))
    have hk' : (k : Int) < (af.length : Int) := by omega
    have HBz := Lib.hid HB
    have HBd := Lib.hid (below_drew HB)
    go_upto_region 11 with fail
    clear HB hp3
    go_region_held3 (fun w' => Below W.heap.size W w') (first | exact HBz.out | exact HBd.out | (exact below_step (by assumption) (by assumption)) | assumption)
      (first | (go_at_call 77; refine (HEv.out _ (by assumption)).mono ?_; rintro r w5 ⟨rfl, hb1⟩))
    have HB5 : Hid (Below W.heap.size W _) := Lib.hid (by assumption)
    go_wp2
    go_roundw
    case rel => exact ⟨k + 1, by omega, by go_num, HB5.out⟩
    case measure => simp [intOf]; omega
  have HBz := Lib.hid HB
  have HEv := Lib.hid (equalVals_any am amA bmA amc bmc wr (HOa.out.metaV.below HB) (HOb.out.metaV.below HB))
  go_wp2_with fail
  refine HEv.out.mono ?_
  rintro r w5 ⟨rfl, hb5⟩
  go_wp2
  go_ret
  exact ⟨rfl, below_step HW.out (below_step HBz.out hb5)⟩
end Go.Proofs.YtbfjknidinkafaaGreat
namespace Go.Proofs.YtbfjknidinkafaaGreat
open Go.RowKit

theorem fit_mask {v : Int} {n : Nat} (hn : n ≤ 32) (h : v < ((2 ^ n : Nat) : Int)) : v ≤ (maskM (n : Int) : Int) := by
  unfold maskM
  by_cases h0 : n = 0
  · subst h0
    simp at h
    split <;> simp <;> omega
  · rw [if_pos (by simp [okW]; omega), Int.toNat_natCast]
    have := Nat.one_le_two_pow (n := n)
    omega
theorem uok_pos {v : Int} (h : UOk v) : 0 ≤ v := by
  have h1 : IntKind.u32.min = 0 := rfl
  unfold UOk at h
  simp [Lit.wf, go_sem] at h
  omega
set_option maxRecDepth 100000 in
set_option maxHeartbeats 4000000 in
theorem sized12_any (p : ProgD) (e : EnvD) (w : World) (o : ProgOk w p) (oe : EnvOk w e) :
    Calls Tryz.prog 78 #[.agg (progCells p), .agg (envCells e)] w fun r w' => Yes r (e.valid.l.length = p.headers.l.length ∧ e.fields.l.length = p.headers.l.length ∧ e.metaV.l.length = p.metadata.l.length ∧ ∀ h (h1 : h < e.fields.l.length), e.fields.l[h].l.length = nF p h) ∧ Below w.heap.size w w' := by
  obtain ⟨W, hW, hw, HB, hp⟩ := box2 w (progCells p) 31 (envCells e) 56
  have HW := Lib.hid hw
  have HH := Lib.hid (o.headers.below hw (Nat.le_refl _))
  have HE := Lib.hid (oe.below hw)
  have hmx := o.headers.1
  unfold maxLen at hmx
  clear o oe hw
  have hp3 := hp W HB
  go_enter Tryz.func78, Tryz.ntmps78
  go_upto_region 1 with fail
  rw [← hW]
  clear hW
  by_cases h1 : e.valid.l.length = p.headers.l.length
  case neg =>
    have b1 : ((e.valid.l.length : Int) != (p.headers.l.length : Int)) = true := bne_iff_ne.2 (by omega)
    go_wp2
    go_ret
    exact ⟨Yes.no, below_step HW.out HB⟩
  have b1 : ((e.valid.l.length : Int) != (p.headers.l.length : Int)) = false := by rw [h1]; simp
  by_cases h2 : e.fields.l.length = p.headers.l.length
  case neg =>
    have b2 : ((e.fields.l.length : Int) != (p.headers.l.length : Int)) = true := bne_iff_ne.2 (by omega)
    clear h1
    go_wp2
    go_ret
    exact ⟨Yes.no, below_step HW.out HB⟩
  have b2 : ((e.fields.l.length : Int) != (p.headers.l.length : Int)) = false := by rw [h2]; simp
  by_cases h3 : e.metaV.l.length = p.metadata.l.length
  case neg =>
    have b3 : ((e.metaV.l.length : Int) != (p.metadata.l.length : Int)) = true := bne_iff_ne.2 (by omega)
    clear h1 h2
    go_wp2
    go_ret
    exact ⟨Yes.no, below_step HW.out HB⟩
  have b3 : ((e.metaV.l.length : Int) != (p.metadata.l.length : Int)) = false := by rw [h3]; simp
  have HS := Lib.hid (And.intro h1 (And.intro h2 h3))
  clear h1 h2 h3
  go_wp2
  clear hp3 b1 b2 b3
  have s0 := fun u (h : Below W.heap.size W u) => (hp u h).1 1 (by show (1 : Nat) < 9; decide)
  have s1 := fun u (h : Below W.heap.size W u) => (hp u h).2 1 (by show (1 : Nat) < 4; decide)
  simp only [progCells, envCells, List.getElem?_toArray, List.getElem?_cons_zero, List.getElem?_cons_succ] at s0 s1
  have S0 := Lib.hid s0
  have S1 := Lib.hid s1
  clear hp s0 s1
  go_loopw [5] (fun iv wr => ∃ k : Nat, k ≤ p.headers.l.length ∧ iv = .int .i64 k ∧ Hid (∀ h (h1 : h < e.fields.l.length), h < k → e.fields.l[h].l.length = nF p h) ∧ Below W.heap.size W wr) (fun i _ => p.headers.l.length - (intOf i).toNat)
  case atStart => exact ⟨0, Nat.zero_le _, rfl, Lib.hid (fun h h1 h2 => absurd h2 (Nat.not_lt_zero _)), HB⟩
  clear HB
  case round =>
  obtain ⟨k, hk, rfl, HN, HB⟩ := hrel
  have s0 := S0.out wr HB
  by_cases hlt : k < p.headers.l.length
  case neg =>
    go_wp2
    go_ret
    exact ⟨Yes.yes ⟨HS.out.1, HS.out.2.1, HS.out.2.2, fun h h1 => HN.out h h1 (by have := HS.out.2.1; omega)⟩, below_step HW.out HB⟩
  have hlf : k < e.fields.l.length := by rw [HS.out.2.1]; exact hlt
  obtain ⟨g0, of0, hA, hall⟩ := HeaderD.atA HH.out hlt
  obtain ⟨_, d1⟩ := hall wr HB
  rw [← nF_at hlt] at d1
  obtain ⟨g1, of1, hA1, hd⟩ := lcell_atA HE.out.fields.1 hlf
  have d2 := hd wr HB
  have s1 := S1.out wr HB
  rw [hA] at s0
  rw [hA1] at s1
  have hki : (k : Int) < (e.fields.l.length : Int) := by omega
  have HNk : Hid (e.fields.l[k].l.length = nF p k → ∀ h (h1 : h < e.fields.l.length), h < k + 1 → e.fields.l[h].l.length = nF p h) := Lib.hid (fun hh h h1 h2 => if e : h = k then (by subst e; exact hh) else HN.out h h1 (by omega))
  clear hall hd hA hA1
  generalize e.fields.l[k] = x at *
  obtain ⟨xl, xA, xc⟩ := x
  simp only at d2 HNk
  generalize p.headers.l[k].fields.A = fA at *
  generalize p.headers.l[k].fields.c = fc at *
  generalize hnf : nF p k = n at *
  clear hnf
  have HBz := Lib.hid HB
  clear HB HN
  go_upto_region 6 with fail
  by_cases hx : xl.length = n
  · have b1 : ((xl.length : Int) != (n : Int)) = false := by rw [hx]; simp
    have HNz := Lib.hid (HNk.out hx)
    clear hx
    go_quiet (fail)
    go_wp2
    go_roundw
    case rel => exact ⟨k + 1, by omega, by go_num, HNz, below_drewN HBz.out _⟩
    case measure => simp [intOf]; omega
  · have b1 : ((xl.length : Int) != (n : Int)) = true := bne_iff_ne.2 (by omega)
    clear hx
    go_quiet (fail)
    go_wp2
    go_ret
    exact ⟨Yes.no, below_step HW.out (below_drewN HBz.out _)⟩
end Go.Proofs.YtbfjknidinkafaaGreat
namespace Go.Proofs.YtbfjknidinkafaaGreat
open Go.RowKit

/-- a value that fits its field -/
def fitP (p : ProgD) (h f v : Int) : Prop := 0 ≤ v ∧ v ≤ (maskM (widthAt p h f) : Int)
theorem fitsW_any (p : ProgD) (h f v : Int) (hv : UOk v) : ∃ b : Bool, (∀ u : World, Calls Tryz.prog 79 #[.int .u32 v, .int .i64 (widthAt p h f)] u fun e w' => e = .returned (.bool b) ∧ u = w') ∧ (b = true → fitP p h f v) := by
  have hw := widthAt_le p h f
  have hn : widthAt p h f = ((widthAt p h f).toNat : Int) := by omega
  refine ⟨decide (v < ((2 ^ (widthAt p h f).toNat : Nat) : Int)), fun u => ?_, fun hb => ⟨uok_pos hv, ?_⟩⟩
  · have := rfits12_any v (widthAt p h f).toNat (by omega) hv u
    rw [← hn] at this
    exact this
  · have := fit_mask (v := v) (n := (widthAt p h f).toNat) (by omega) (by simpa using hb)
    rw [← hn] at this
    exact this
theorem fine_of {p : ProgD} {vl : List Bool} {fl : List (L Int)} {ml pl : List Int} (hs : vl.length = p.headers.l.length ∧ fl.length = p.headers.l.length ∧ ml.length = p.metadata.l.length ∧ ∀ h (h1 : h < fl.length), fl[h].l.length = nF p h)
    (h1 : ∀ h (h1 : h < fl.length) f (hf : f < fl[h].l.length), fitP p h f (fl[h].l[f])) (h2 : ∀ f (hf : f < ml.length), fitP p (-1) f ml[f])
    (h3 : ∀ h (h1 : h < fl.length) (h2 : h < vl.length), vl[h] = false → ∀ f (hf : f < fl[h].l.length), fl[h].l[f] = 0) : EnvFine p ⟨vl, fl.map L.l, ml, pl⟩ := by
  obtain ⟨s1, s2, s3, s4⟩ := hs
  have hg : ∀ h (hh : h < fl.length), (fl.map L.l).getD h [] = fl[h].l := fun h hh => by
    rw [List.getD_eq_getElem?_getD, List.getElem?_eq_getElem (by simpa using hh)]; simp
  refine ⟨s1, by simpa using s2, fun h hh => ?_, s3, fun h hh f hf => ?_, fun f hf => ?_, fun h hh hv f hf => ?_⟩
  · rw [hg h (by omega)]; exact s4 h (by omega)
  · have hh' : h < fl.length := by omega
    have hf' : f < fl[h].l.length := by rw [s4 h hh']; exact hf
    show 0 ≤ ((fl.map L.l).getD h []).getD f 0 ∧ _
    simp only [hg h hh']
    rw [List.getD_eq_getElem?_getD, List.getElem?_eq_getElem hf']
    exact h1 h hh' f hf'
  · have hf' : f < ml.length := by omega
    show 0 ≤ ml.getD f 0 ∧ ml.getD f 0 ≤ _
    rw [List.getD_eq_getElem?_getD, List.getElem?_eq_getElem hf']
    exact h2 f hf'
  · have hh' : h < fl.length := by omega
    have hf' : f < fl[h].l.length := by rw [s4 h hh']; exact hf
    have hv' : vl[h]'(by omega) = false := by
      have hv2 : vl.getD h false = false := hv
      rw [List.getD_eq_getElem?_getD, List.getElem?_eq_getElem (show h < vl.length by omega)] at hv2
      exact hv2
    show ((fl.map L.l).getD h []).getD f 0 = 0
    rw [hg h hh', List.getD_eq_getElem?_getD, List.getElem?_eq_getElem hf']
    exact h3 h hh' (by omega) hv' f hf'
set_option maxRecDepth 100000 in
set_option maxHeartbeats 8000000 in
theorem check12_any (p : ProgD) (e : EnvD) (w : World) (o : ProgOk w p) (oe : EnvOk w e) (hf : ∀ x ∈ e.fields.l, ∀ v ∈ x.l, UOk v) (hm : ∀ v ∈ e.metaV.l, UOk v) :
    Calls Tryz.prog 31 #[.agg (progCells p), .agg (envCells e)] w fun r w' => ∃ z : Int, r = .returned (.int .i64 z) ∧ (z = 0 → EnvFine p e.bare) ∧ Below w.heap.size w w' := by
  obtain ⟨⟨vl, vA, vc⟩, ⟨fl, fA, fc⟩, ⟨ml, mA, mc⟩, ⟨pl, pA, pc⟩⟩ := e
  obtain ⟨W, hW, hw, HB, hp⟩ := box2 w (progCells p) 31 #[.slice vA vl.length vc, .slice fA fl.length fc, .slice mA ml.length mc, .slice pA pl.length pc] 56
  have HW := Lib.hid hw
  have HSz := Lib.hid (fun u (hb : Below W.heap.size W u) => sized12_any p ⟨⟨vl, vA, vc⟩, ⟨fl, fA, fc⟩, ⟨ml, mA, mc⟩, ⟨pl, pA, pc⟩⟩ u (o.below (below_step hw hb)) (oe.below (below_step hw hb)))
  have HCw := Lib.hid (fun u (hb : Below W.heap.size W u) (h f : Int) => rwidth12_any p h f u (o.below (below_step hw hb)))
  have HE := Lib.hid (oe.below hw)
  have HF := Lib.hid hf
  have HM := Lib.hid hm
  have hmx := oe.fields.1.1
  have hmm := oe.metaV.1.1
  unfold maxLen at hmx hmm
  simp only [envCells] at HSz
  clear o oe hw hf hm
  simp only [envCells, EnvD.bare]
  go_enter Tryz.func31, Tryz.ntmps31
  go_upto_region 1 with fail
  rw [← hW]
  clear hW
  have hp3 := hp W HB
  go_wp2_with fail
  refine (HSz.out _ HB).mono ?_
  rintro r w1 ⟨⟨b, rfl, hb⟩, hb1⟩
  have HB1 := below_step HB hb1
  clear hp3 HB hb1 HSz
  cases b with
  | false =>
    go_wp2
    go_ret
    exact ⟨2, rfl, fun h => absurd h (by decide), below_step HW.out HB1⟩
  | true =>
  have HS := Lib.hid (hb rfl)
  clear hb
  go_wp2
  go_loopw [5, 6] (fun iv _ wr => ∃ k : Nat, k ≤ fl.length ∧ iv = .int .i64 k ∧ Hid (∀ h (h1 : h < fl.length), h < k → ∀ f (hf : f < fl[h].l.length), fitP p h f (fl[h].l[f])) ∧ Below W.heap.size W wr) (fun i _ _ => fl.length - (intOf i).toNat)
  case atStart => exact ⟨0, Nat.zero_le _, rfl, Lib.hid (fun h h1 h2 => absurd h2 (Nat.not_lt_zero _)), HB1⟩
  clear HB1
  case round =>
  obtain ⟨k, hk, rfl, HN, HB⟩ := hrel
  have hp3 := hp wr HB
  by_cases hlt : k < fl.length
  case neg =>
    have HN1 := Lib.hid (fun h (h1 : h < fl.length) => HN.out h h1 (by omega))
    have HBz := Lib.hid HB
    clear HN
    go_wp2
    clear hp3 HB
    go_loopw [7] (fun iv wr => ∃ k : Nat, k ≤ ml.length ∧ iv = .int .i64 k ∧ Hid (∀ f (hf : f < ml.length), f < k → fitP p (-1) f (ml[f])) ∧ Below W.heap.size W wr) (fun i _ => ml.length - (intOf i).toNat)
    case atStart => exact ⟨0, Nat.zero_le _, rfl, Lib.hid (fun h h1 h2 => absurd h2 (Nat.not_lt_zero _)), HBz.out⟩
    clear HBz
    case round =>
    obtain ⟨k, hk, rfl, HN, HB⟩ := hrel
    have hp3 := hp wr HB
    by_cases hlt : k < ml.length
    · obtain ⟨g1, o1, hA1, d1⟩ := ucell_atA HE.out.metaV.1 hlt
      simp only at hA1 d1
      subst hA1
      have HNk : Hid (fitP p (-1) k (ml[k]) → ∀ f (hf : f < ml.length), f < k + 1 → fitP p (-1) f (ml[f])) := Lib.hid (fun hh f hf h2 => if e : f = k then (by subst e; exact hh) else HN.out f hf (by omega))
      obtain ⟨b, hFi, hFg⟩ := fitsW_any p (-1) k ml[k] (HM.out _ (List.getElem_mem hlt))
      have HFi := Lib.hid hFi
      have HFg := Lib.hid (fun h => HNk.out (hFg h))
      clear hFi hFg HNk HN
      generalize ml[k] = v at *
      have hk' : (k : Int) < (ml.length : Int) := by omega
      have HBz := Lib.hid HB
      have HBd := Lib.hid (below_drew HB)
      cases b with
      | false =>
        go_upto_region 14 with fail
        clear HB hp3 HFg
        go_region_held3 (fun w' => Below W.heap.size W w') (first | exact HBz.out | exact HBd.out | (exact below_step (by assumption) (by assumption)) | assumption)
          (first
          | (go_at_call 55; refine (HCw.out _ (by assumption) (-1) k).mono ?_; rintro r w5 ⟨rfl, hb1⟩)
          | (go_at_call 79; refine (HFi.out _).mono ?_; rintro r w6 ⟨rfl, rfl⟩))
        have HB5 : Hid (Below W.heap.size W _) := Lib.hid (by assumption)
        go_wp2
        go_ret
        exact ⟨9, rfl, fun h => absurd h (by decide), below_step HW.out HB5.out⟩
      | true =>
        have HN2 := Lib.hid (HFg.out rfl)
        go_upto_region 14 with fail
        clear HB hp3 HFg
        go_region_held3 (fun w' => Below W.heap.size W w') (first | exact HBz.out | exact HBd.out | (exact below_step (by assumption) (by assumption)) | assumption)
          (first
          | (go_at_call 55; refine (HCw.out _ (by assumption) (-1) k).mono ?_; rintro r w5 ⟨rfl, hb1⟩)
          | (go_at_call 79; refine (HFi.out _).mono ?_; rintro r w6 ⟨rfl, rfl⟩))
        have HB5 : Hid (Below W.heap.size W _) := Lib.hid (by assumption)
        go_wp2
        go_roundw
        case rel => exact ⟨k + 1, by omega, by go_num, HN2, HB5.out⟩
        case measure => simp [intOf]; omega
    have HN2 := Lib.hid (fun f (hf : f < ml.length) => HN.out f hf (by omega))
    have HBy := Lib.hid HB
    clear HN HM HCw
    go_wp2
    clear hp3 HB
    go_loopw [8, 9] (fun iv _ wr => ∃ k : Nat, k ≤ fl.length ∧ iv = .int .i64 k ∧ Hid (∀ h (h1 : h < fl.length) (h2 : h < vl.length), h < k → vl[h] = false → ∀ f (hf : f < fl[h].l.length), fl[h].l[f] = 0) ∧ Below W.heap.size W wr) (fun i _ _ => fl.length - (intOf i).toNat)
    case atStart => exact ⟨0, Nat.zero_le _, rfl, Lib.hid (fun h h1 h3 h2 => absurd h2 (Nat.not_lt_zero _)), HBy.out⟩
    clear HBy
    case round =>
    obtain ⟨k, hk, rfl, HN, HB⟩ := hrel
    have hp3 := hp wr HB
    by_cases hlt : k < fl.length
    case neg =>
      have HBz := Lib.hid HB
      go_wp2
      go_ret
      exact ⟨0, rfl, fun _ => fine_of HS.out HN1.out HN2.out (fun h h1 h2 => HN.out h h1 h2 (by omega)), below_step HW.out HBz.out⟩
    have hltv : k < vl.length := by have := HS.out.1; have := HS.out.2.1; omega
    obtain ⟨g0, o0, hA0, d0⟩ := bcell_atA HE.out.valid.1 hltv
    obtain ⟨g1, o1, hA1, d1⟩ := lcell_atA HE.out.fields.1 hlt
    have HX := Lib.hid (HE.out.each _ (List.getElem_mem hlt))
    have HNk : Hid ((vl[k] = false → ∀ f (hf : f < fl[k].l.length), fl[k].l[f] = 0) → ∀ h (h1 : h < fl.length) (h2 : h < vl.length), h < k + 1 → vl[h] = false → ∀ f (hf : f < fl[h].l.length), fl[h].l[f] = 0) := Lib.hid (fun hh h h1 h3 h2 => if e : h = k then (by subst e; exact hh) else HN.out h h1 h3 (by omega))
    simp only at hA0 hA1 d0 d1
    subst hA0 hA1
    clear HN
    generalize fl[k] = x at *
    generalize vl[k] = b at *
    obtain ⟨xl, xA, xc⟩ := x
    simp only at d1 HX HNk
    have hmj := HX.out.1.1
    unfold maxLen at hmj
    simp only at hmj
    go_wp2
    clear hp3
    have HBk := Lib.hid HB
    clear HB
    go_loopw [9] (fun jv wr => ∃ j : Nat, j ≤ xl.length ∧ jv = .int .i64 j ∧ Hid (b = false → ∀ f (hf : f < xl.length), f < j → xl[f] = 0) ∧ Below W.heap.size W wr) (fun i _ => xl.length - (intOf i).toNat)
    case atStart => exact ⟨0, Nat.zero_le _, rfl, Lib.hid (fun _ h h1 h2 => absurd h2 (Nat.not_lt_zero _)), HBk.out⟩
    case round =>
    obtain ⟨j, hj, rfl, HJ, HB⟩ := hrel
    have hp3 := hp wr HB
    have e0 := d0 wr HB
    have e1 := d1 wr HB
    by_cases hjt : j < xl.length
    case neg =>
      have HN3 := Lib.hid (HNk.out (fun hb f hf => HJ.out hb f hf (by omega)))
      have HBz := Lib.hid HB
      clear HNk HJ
      go_wp2
      go_roundw
      case rel => exact ⟨k + 1, by omega, by go_num, HN3, HBz.out⟩
      case measure => simp [intOf]; omega
    obtain ⟨g2, o2, hA2, d2⟩ := ucell_atA HX.out.1 hjt
    simp only at hA2 d2
    subst hA2
    have e2 := d2 wr HB
    have HJk : Hid ((b = false → xl[j] = 0) → b = false → ∀ f (hf : f < xl.length), f < j + 1 → xl[f] = 0) := Lib.hid (fun hh hb f hf h2 => if e : f = j then (by subst e; exact hh hb) else HJ.out hb f hf (by omega))
    clear HJ d0 d1 d2
    generalize xl[j] = v at *
    have hk' : (k : Int) < (fl.length : Int) := by omega
    have hkv : (k : Int) < (vl.length : Int) := by omega
    have hj' : (j : Int) < (xl.length : Int) := by omega
    have HBz := Lib.hid HB
    clear HB
    cases b with
    | true =>
      have HN3 := Lib.hid (HJk.out (fun h => by cases h))
      clear HJk
      go_wp2
      go_roundw
      case rel => exact ⟨j + 1, by omega, by go_num, HN3, HBz.out⟩
      case measure => simp [intOf]; omega
    | false =>
      by_cases hv : v = 0
      · have HN3 := Lib.hid (HJk.out (fun _ => hv))
        have hv1 : (v != 0) = false := by rw [hv]; rfl
        clear HJk hv
        go_wp2
        go_roundw
        case rel => exact ⟨j + 1, by omega, by go_num, Lib.hid (fun _ => HN3.out rfl), HBz.out⟩
        case measure => simp [intOf]; omega
      · have hv1 : (v != 0) = true := bne_iff_ne.2 hv
        clear HJk hv
        go_wp2
        go_ret
        exact ⟨5, rfl, fun h => absurd h (by decide), below_step HW.out HBz.out⟩
  obtain ⟨g1, o1, hA1, d1⟩ := lcell_atA HE.out.fields.1 hlt
  have HX := Lib.hid (HE.out.each _ (List.getElem_mem hlt))
  have HU := Lib.hid (fun v hv => HF.out _ (List.getElem_mem hlt) v hv)
  have HNk : Hid ((∀ f (hf : f < fl[k].l.length), fitP p k f (fl[k].l[f])) → ∀ h (h1 : h < fl.length), h < k + 1 → ∀ f (hf : f < fl[h].l.length), fitP p h f (fl[h].l[f])) := Lib.hid (fun hh h h1 h2 => if e : h = k then (by subst e; exact hh) else HN.out h h1 (by omega))
  simp only at hA1 d1
  subst hA1
  clear HN
  generalize fl[k] = x at *
  obtain ⟨xl, xA, xc⟩ := x
  simp only at d1 HX HU HNk
  have hmj := HX.out.1.1
  unfold maxLen at hmj
  simp only at hmj
  go_wp2
  clear hp3
  have HBk := Lib.hid HB
  clear HB
  go_loopw [6] (fun jv wr => ∃ j : Nat, j ≤ xl.length ∧ jv = .int .i64 j ∧ Hid (∀ f (hf : f < xl.length), f < j → fitP p k f (xl[f])) ∧ Below W.heap.size W wr) (fun i _ => xl.length - (intOf i).toNat)
  case atStart => exact ⟨0, Nat.zero_le _, rfl, Lib.hid (fun h h1 h2 => absurd h2 (Nat.not_lt_zero _)), HBk.out⟩
  case round =>
  obtain ⟨j, hj, rfl, HJ, HB⟩ := hrel
  have hp3 := hp wr HB
  have e1 := d1 wr HB
  by_cases hjt : j < xl.length
  case neg =>
    have HN1 := Lib.hid (HNk.out (fun f hf => HJ.out f hf (by omega)))
    have HBz := Lib.hid HB
    clear HNk HJ
    go_wp2
    go_roundw
    case rel => exact ⟨k + 1, by omega, by go_num, HN1, HBz.out⟩
    case measure => simp [intOf]; omega
  obtain ⟨g2, o2, hA2, d2⟩ := ucell_atA HX.out.1 hjt
  simp only at hA2 d2
  subst hA2
  obtain ⟨b, hFi, hFg⟩ := fitsW_any p k j xl[j] (HU.out _ (List.getElem_mem hjt))
  have HFi := Lib.hid hFi
  have HJk : Hid (fitP p k j (xl[j]) → ∀ f (hf : f < xl.length), f < j + 1 → fitP p k f (xl[f])) := Lib.hid (fun hh f hf h2 => if e : f = j then (by subst e; exact hh) else HJ.out f hf (by omega))
  have HFg := Lib.hid (fun h => HJk.out (hFg h))
  clear hFi hFg HJk HJ
  generalize xl[j] = v at *
  have hk' : (k : Int) < (fl.length : Int) := by omega
  have hj' : (j : Int) < (xl.length : Int) := by omega
  have HBz := Lib.hid HB
  have HBd := Lib.hid (below_drew HB)
  cases b with
  | false =>
    go_upto_region 9 with fail
    clear HB hp3 e1 HFg HNk
    go_region_held3 (fun w' => Below W.heap.size W w') (first | exact HBz.out | exact HBd.out | (exact below_step (by assumption) (by assumption)) | assumption)
      (first
      | (go_at_call 55; refine (HCw.out _ (by assumption) k j).mono ?_; rintro r w5 ⟨rfl, hb1⟩)
      | (go_at_call 79; refine (HFi.out _).mono ?_; rintro r w6 ⟨rfl, rfl⟩))
    have HB5 : Hid (Below W.heap.size W _) := Lib.hid (by assumption)
    go_wp2
    go_ret
    exact ⟨9, rfl, fun h => absurd h (by decide), below_step HW.out HB5.out⟩
  | true =>
    have HN1 := Lib.hid (HFg.out rfl)
    go_upto_region 9 with fail
    clear HB hp3 e1 HFg HNk
    go_region_held3 (fun w' => Below W.heap.size W w') (first | exact HBz.out | exact HBd.out | (exact below_step (by assumption) (by assumption)) | assumption)
      (first
      | (go_at_call 55; refine (HCw.out _ (by assumption) k j).mono ?_; rintro r w5 ⟨rfl, hb1⟩)
      | (go_at_call 79; refine (HFi.out _).mono ?_; rintro r w6 ⟨rfl, rfl⟩))
    have HB5 : Hid (Below W.heap.size W _) := Lib.hid (by assumption)
    go_wp2
    go_roundw
    case rel => exact ⟨j + 1, by omega, by go_num, HN1, HB5.out⟩
    case measure => simp [intOf]; omega
end Go.Proofs.YtbfjknidinkafaaGreat
namespace Go.Proofs.YtbfjknidinkafaaGreat
open Go.RowKit

set_option maxRecDepth 100000 in
set_option maxHeartbeats 2000000 in
theorem smallEnvP_any (e : EnvD) (w : World) (o : EnvOk w e) :
    Calls Tryz.prog 19 #[.agg (envCells e)] w fun r w' => Yes r (e.payload.l.length ≤ 300) ∧ Below w.heap.size w w' := by
  obtain ⟨W, hW, hw, HB, hp⟩ := box1 w (envCells e) 56
  have HW := Lib.hid hw
  have HO := Lib.hid (o.fields.1.below hw (Nat.le_refl _))
  have hmx := o.fields.1.1
  unfold maxLen at hmx
  have hp3 := hp W HB
  clear o hw hp
  obtain ⟨⟨vl, vA, vc⟩, ⟨fl, fA, fc⟩, ⟨ml, mA, mc⟩, ⟨pl, pA, pc⟩⟩ := e
  simp only [envCells] at hp3 hW hmx HO ⊢
  go_enter Tryz.func19, Tryz.ntmps19
  go_upto_region 1 with fail
  rw [← hW]
  clear hW
  by_cases h0 : (20 : Int) < (vl.length : Int)
  case pos =>
    go_wp2
    go_ret
    exact ⟨Yes.no, below_step HW.out HB⟩
  by_cases h1 : (20 : Int) < (fl.length : Int)
  case pos =>
    go_wp2
    go_ret
    exact ⟨Yes.no, below_step HW.out HB⟩
  by_cases h2 : (30 : Int) < (ml.length : Int)
  case pos =>
    go_wp2
    go_ret
    exact ⟨Yes.no, below_step HW.out HB⟩
  by_cases h3 : (300 : Int) < (pl.length : Int)
  case pos =>
    go_wp2
    go_ret
    exact ⟨Yes.no, below_step HW.out HB⟩
  go_wp2
  have s1 : W.cell? ⟨w.heap.size, 1, none⟩ = some (.slice fA fl.length fc) := hp3 1 (by show (1 : Nat) < 4; decide)
  clear hp3
  go_loopw [3] (fun iv wr => ∃ k : Nat, k ≤ fl.length ∧ iv = .int .i64 k ∧ W = wr) (fun i _ => fl.length - (intOf i).toNat)
  case atStart => exact ⟨0, Nat.zero_le _, rfl, rfl⟩
  case round =>
  obtain ⟨k, hk, rfl, rfl⟩ := hrel
  by_cases hlt : k < fl.length
  · obtain ⟨g, of, hA, d0⟩ := lcell_at HO.out hlt
    simp only at hA d0
    subst hA
    generalize fl[k] = x at *
    obtain ⟨xl, xA, xc⟩ := x
    simp only at d0
    by_cases h4 : (30 : Int) < (xl.length : Int)
    · go_wp2
      go_ret
      exact ⟨Yes.no, below_step HW.out HB⟩
    · go_wp2
      go_roundw
      case rel => exact ⟨k + 1, by omega, by go_num, trivial⟩
      case measure => simp [intOf]; omega
  · go_wp2
    go_ret
    exact ⟨Yes.yes (by omega), below_step HW.out HB⟩
theorem allocEnd_lok {p : ProgD} {n : Int} {c : ChipD} {w w' : World} {e : Ending} (h : AllocEnd p n c w e w') :
    ∃ A cp, e = .returned (.tuple #[.slice A (allocRes p n c).1.length cp, .int .i64 (allocRes p n c).2]) ∧ LOk w' 4 SlotD.cells ⟨(allocRes p n c).1, A, cp⟩ ∧ Below w.heap.size w w' := by
  obtain ⟨A, cp, he, ho, hb⟩ := h
  obtain ⟨A', c', hv, _, hl, _⟩ := own_list (cells := SlotD.cells) (fun _ => rfl) ho
  injection hv with h1 _ h2
  subst h1 h2
  exact ⟨_, _, he, hl, hb⟩
theorem nodes_few {p : ProgD} (h : Sm36 p) : (presM p.control.l).length ≤ 90000 := Nat.le_trans h.nodes (by decide)
theorem cells_few {p : ProgD} (h : Sm36 p) : cellsN p ≤ 400 := by
  have h1 := h.headers
  have h2 := h.metadata
  have h3 : ∀ k, preF p k ≤ 16 * k := fun k => by
    induction k with
    | zero => exact Nat.le_refl _
    | succ k ih =>
      have h4 : nF p k ≤ 16 := by
        by_cases hk : k < p.headers.l.length
        · rw [nF_at hk]; exact h.fields k hk
        · rw [nF, List.getElem?_eq_none (by omega)]; exact Nat.zero_le _
      rw [preF]; omega
  have h5 := h3 p.headers.l.length
  unfold cellsN fN
  omega
theorem given_ok {c : ChipD} {w : Int} {x : SlotD} (h : Given c w x) (hw : 1 ≤ w) (hc : c.c8 ≤ 64 ∧ c.c16 ≤ 64 ∧ c.c32 ≤ 64) : validS x = true := by
  obtain ⟨h1, ⟨h2, h3⟩, h4, h5, h6⟩ := h
  refine validS_iff.2 ⟨h1, h2, ?_, h4, by omega, by omega, by omega⟩
  unfold chipOf at h3
  split at h3
  · omega
  split at h3 <;> omega
/-- what is loaded into slots that were allotted is stored -/
theorem rt_plain {p : ProgD} {c : ChipD} {l : List SlotD} {ec : Int} {bs : List Bool} {e : EnvP} (h : (l, ec) = allocRes p (bs.length : Nat) c) (he : ec = 0) (hE : EnvFine p e) :
    storeM p l (loadM l (valsM p e ++ bs.map bitI)) e.payload = e ∧ bitsOutM p l (loadM l (valsM p e ++ bs.map bitI)) = bs := by
  unfold allocRes at h
  split at h
  · rename_i h1; injection h with _ h2; exact absurd (h2.symm.trans he) h1
  rename_i h1
  split at h
  · rename_i h2; injection h with _ h3; exact absurd (h3.symm.trans he) h2
  rename_i h2
  split at h
  · injection h with _ h3; rw [he] at h3; exact absurd h3 (by decide)
  have hd : (diagM p).code = 0 := by simpa using h1
  have hc : chipM c = 0 := by simpa using h2
  split at h
  · injection h with _ h4; rw [he] at h4; exact absurd h4 (by decide)
  · rename_i l' h4
    injection h with h5 _
    subst h5
    unfold slotsM at h4
    have hpos := allW_pos (diag_zero hd) ((bs.length : Nat) : Int).toNat
    obtain ⟨g1, g2, g3, _⟩ := run_apart hpos (alloc0_inv hc) h4
    have hll : l.length = cellsN p + bs.length := by rw [g1, allW_len]; rfl
    refine round_trip hE hll (fun x hx => ?_) g2 (fun i x w hx hw => by obtain ⟨_, _, _, h4, _⟩ := g3 i x w hx hw; exact h4)
    obtain ⟨i, hi, hxi⟩ := List.getElem_of_mem hx
    have hi2 : i < (allW p ((bs.length : Nat) : Int).toNat).length := by rw [allW_len]; simp only [Int.toNat_natCast]; omega
    exact given_ok (g3 i x _ (by rw [← hxi]; exact List.getElem?_eq_getElem hi) (List.getElem?_eq_getElem hi2)) (hpos _ (List.getElem_mem hi2)) (chip_le hc)
theorem alloc_len {p : ProgD} {c : ChipD} {l : List SlotD} {ec : Int} {n : Int} (h : (l, ec) = allocRes p n c) (he : ec = 0) : n ≤ 24 ∧ l.length = cellsN p + n.toNat := by
  unfold allocRes at h
  split at h
  · rename_i h1; injection h with _ h2; exact absurd (h2.symm.trans he) h1
  rename_i h1
  split at h
  · rename_i h2; injection h with _ h3; exact absurd (h3.symm.trans he) h2
  rename_i h2
  split at h
  · injection h with _ h3; rw [he] at h3; exact absurd h3 (by decide)
  rename_i h3
  have hd : (diagM p).code = 0 := by simpa using h1
  have hc : chipM c = 0 := by simpa using h2
  split at h
  · injection h with _ h4; rw [he] at h4; exact absurd h4 (by decide)
  · rename_i l' h4
    injection h with h5 _
    subst h5
    unfold slotsM at h4
    obtain ⟨g1, _⟩ := run_apart (allW_pos (diag_zero hd) n.toNat) (alloc0_inv hc) h4
    exact ⟨by omega, by rw [g1, ← allW_len]⟩
set_option maxRecDepth 100000 in
set_option maxHeartbeats 8000000 in
theorem phvRoundTrip_any (p : ProgD) (c : ChipD) (s : StatD) (w : World) (h : ProgGood w p) (hs : StatGood w s) :
    Calls Tryz.prog 8 #[.agg (progCells p), .agg (chipCells c), .agg (statCells s)] w fun e w' => e = .returned (.bool true) ∧ Below w.heap.size w w' := by
  have o := h.ok
  have hcp := h.cap
  have hle := h.headers.le
  have oe := hs.env.ok
  have ob := hs.bits.lok
  obtain ⟨W, hW, hw, HB, hp⟩ := box3 w (progCells p) 31 (chipCells c) 33 (statCells s) 58
  obtain ⟨⟨l, ec⟩, hr⟩ : ∃ r, r = allocRes p (s.bits.l.length : Nat) c := ⟨_, rfl⟩
  have HW := Lib.hid hw
  have HS := Lib.hid (fun u (hb : Below W.heap.size W u) => small36_any p u (o.below (below_step hw hb)))
  have HE := Lib.hid (fun u (hb : Below W.heap.size W u) => smallEnvP_any s.env u (oe.below (below_step hw hb)))
  have HA1 : Hid (Sm36 p → ∀ u, Below W.heap.size W u → Calls Tryz.prog 11 #[.agg (progCells p), .int .i64 (s.bits.l.length : Nat), .agg (chipCells c)] u fun e w' => ∃ A cp, e = .returned (.tuple #[.slice A l.length cp, .int .i64 ec]) ∧ LOk w' 4 SlotD.cells ⟨l, A, cp⟩ ∧ Below u.heap.size u w') := Lib.hid (fun hs u hb =>
    (alloc_any p _ c u (o.below (below_step hw hb)) (hs.acc hle) hcp (nodes_few hs)).mono fun e w' he => by have := allocEnd_lok he; rwa [← hr] at this)
  have HCk := Lib.hid (fun u (hb : Below W.heap.size W u) => check12_any p s.env u (o.below (below_step hw hb)) (oe.below (below_step hw hb)) (fun x hx => (hs.env.fields.all x hx).all) hs.env.metaV.all)
  have HL : Hid (Sm36 p → l.length ≤ 1000 → ∀ A cp u, Below W.heap.size W u → LOk u 4 SlotD.cells ⟨l, A, cp⟩ → Calls Tryz.prog 22 #[.agg (progCells p), .slice A l.length cp, .agg (envCells s.env), .slice s.bits.A s.bits.l.length s.bits.c] u fun r w' =>
      ∃ y : ConD, r = .returned (.agg (rconCells y)) ∧ y.bare = loadM l (valsM p s.env.bare ++ s.bits.l.map bitI) ∧ ConLOk w' y ∧ Below u.heap.size u w') := Lib.hid (fun hs hl A cp u hb hx =>
    pload_any p ⟨l, A, cp⟩ s.env s.bits u (o.below (below_step hw hb)) (hs.acc hle) hx hl (oe.below (below_step hw hb)) (ob.below (below_step hw hb) (Nat.le_refl _)))
  have HT : Hid (Sm36 p → l.length ≤ 1000 → s.env.payload.l.length ≤ 300 → ec = 0 → EnvFine p s.env.bare → ∀ A cp u (y : ConD), Below W.heap.size W u → LOk u 4 SlotD.cells ⟨l, A, cp⟩ → y.bare = loadM l (valsM p s.env.bare ++ s.bits.l.map bitI) → ConLOk u y →
      Calls Tryz.prog 27 #[.agg (progCells p), .slice A l.length cp, .agg (rconCells y), .slice s.env.payload.A s.env.payload.l.length s.env.payload.c] u fun r w' =>
        ∃ (e : EnvD) (b : L Bool), r = .returned (.tuple #[.agg (envCells e), .slice b.A b.l.length b.c]) ∧ e.bare = s.env.bare ∧ b.l = s.bits.l ∧ EnvHas w' u.heap.size e ∧ OwnL w' u.heap.size 4 bcell b ∧ Below u.heap.size u w') := Lib.hid (fun hs hl hpl he hf A cp u y hb hx hy hc =>
    (pstore_any p ⟨l, A, cp⟩ y s.env.payload u (o.below (below_step hw hb)) (hs.acc hle) hx hl hc (oe.payload.below (below_step hw hb)) (by omega)).mono fun r w' hh => by
      obtain ⟨e, b, h1, h2, h3, h4, h5, h6⟩ := hh
      have h7 := rt_plain hr he hf
      rw [← hy] at h7
      exact ⟨e, b, h1, h2.trans h7.1, h3.trans h7.2, h4, h5, h6⟩)
  have HLen := Lib.hid (fun (hs : Sm36 p) (he : ec = 0) => show l.length ≤ 1000 from by
    have h1 := alloc_len hr he
    have h2 := cells_few hs
    omega)
  have HEo := Lib.hid (fun u (hb : Below W.heap.size W u) => oe.below (below_step hw hb))
  have HBo := Lib.hid (fun u (hb : Below W.heap.size W u) => ob.below (below_step hw hb) (Nat.le_refl _))
  have hbm : s.bits.l.length ≤ 2 ^ 63 - 1 := by have := ob.1; unfold maxLen at this; omega
  clear o hcp hle hw h hr hs oe ob
  go_enter Tryz.func8, Tryz.ntmps8
  go_upto_region 1 with fail
  rw [← hW]
  clear hW
  have hp3 := hp W HB
  go_wp2_with fail
  refine (HS.out _ HB).mono ?_
  rintro e w1 ⟨⟨b, rfl, hb⟩, hb1⟩
  have HB1 := Lib.hid (below_step HB hb1)
  clear hp3 HB hb1
  have hp3 := hp w1 HB1.out
  cases b with
  | false =>
    go_wp2_with fail
    refine (works36_any _).mono ?_
    rintro e w2 ⟨rfl, hb2⟩
    go_wp2
    go_ret
    exact ⟨rfl, below_step HW.out (below_step HB1.out hb2)⟩
  | true =>
  have HY := Lib.hid (hb rfl)
  clear hb HS
  go_wp2_with fail
  refine (HE.out _ HB1.out).mono ?_
  rintro e w2 ⟨⟨b, rfl, hb⟩, hb2⟩
  have HB2 := Lib.hid (below_step HB1.out hb2)
  clear hp3 hb2
  have hp3 := hp w2 HB2.out
  cases b with
  | false =>
    go_wp2_with fail
    refine (works36_any _).mono ?_
    rintro e w3 ⟨rfl, hb3⟩
    go_wp2
    go_ret
    exact ⟨rfl, below_step HW.out (below_step HB2.out hb3)⟩
  | true =>
  have HPl := Lib.hid (hb rfl)
  clear hb HE
  by_cases h40 : (40 : Int) < (s.bits.l.length : Int)
  case pos =>
    go_wp2_with fail
    refine (works36_any _).mono ?_
    rintro e w3 ⟨rfl, hb3⟩
    go_wp2
    go_ret
    exact ⟨rfl, below_step HW.out (below_step HB2.out hb3)⟩
  go_wp2_with fail
  refine (HA1.out HY.out _ HB2.out).mono ?_
  rintro e w3 ⟨A, cp, rfl, hl, hb3⟩
  have HB3 := Lib.hid (below_step HB2.out hb3)
  have HX3 := Lib.hid hl
  clear hp3 hb3 hl HA1
  have hp3 := hp w3 HB3.out
  by_cases he : ec = 0
  case neg =>
    have heb : (ec != 0) = true := bne_iff_ne.2 he
    clear he
    go_wp2_with fail
    refine (works36_any _).mono ?_
    rintro e w4 ⟨rfl, hb4⟩
    go_wp2
    go_ret
    exact ⟨rfl, below_step HW.out (below_step HB3.out hb4)⟩
  have HLl := Lib.hid (HLen.out HY.out he)
  have HTs := Lib.hid (HT.out HY.out HLl.out HPl.out he)
  have HLs := Lib.hid (HL.out HY.out HLl.out)
  subst he
  clear HT HL HLen
  go_wp2_with fail
  refine (HCk.out _ HB3.out).mono ?_
  rintro e w4 ⟨z, rfl, hz, hb4⟩
  have HB4 := Lib.hid (below_step HB3.out hb4)
  have HX4 := Lib.hid (HX3.out.below hb4 (Nat.le_refl _))
  clear hp3 hb4 HX3 HCk
  by_cases he : z = 0
  case neg =>
    have hzb : (z != 0) = true := bne_iff_ne.2 he
    clear he hz
    go_wp2_with fail
    refine (works36_any _).mono ?_
    rintro e w5 ⟨rfl, hb5⟩
    go_wp2
    go_ret
    exact ⟨rfl, below_step HW.out (below_step HB4.out hb5)⟩
  have HF := Lib.hid (hz he)
  subst he
  clear hz
  have HC : Hid (RtHyp w4 w.heap.size (w.heap.size + 1 + 1) p s (.slice A l.length cp) (loadM l (valsM p s.env.bare ++ s.bits.l.map bitI))) := Lib.hid
    ⟨fun u hb => (hp u (below_step HB4.out hb)).1, fun u hb => (hp u (below_step HB4.out hb)).2.2, fun u hb => HLs.out A cp u (below_step HB4.out hb) (HX4.out.below hb (Nat.le_refl _)),
      fun u y hb hy hc => HTs.out HF.out A cp u y (below_step HB4.out hb) (HX4.out.below hb (Nat.le_refl _)) hy hc⟩
  clear HTs HLs
  go_upto_region 6 with fail
  refine rt_region HC.out (fun _ d _ _ _ h => by cases d <;> exact h) ?_
  rintro w5 ga y e b hB heb hbb heo hbo hbk
  have HB5 := Lib.hid (below_step HB4.out hB)
  have HEe := Lib.hid (fun u (hu : Below w5.heap.size w5 u) => envEqual_any e s.env u (heo.below hu) (HEo.out u (below_step HB5.out hu)) heb)
  have HBe : Hid (∀ u, Below w5.heap.size w5 u → Calls Tryz.prog 30 #[.slice b.A b.l.length b.c, .slice s.bits.A s.bits.l.length s.bits.c] u fun e w' => e = .returned (.bool true) ∧ Below u.heap.size u w') := Lib.hid (fun u hu =>
    (equal_bits b s.bits u (hbo.below hu (Nat.le_refl _)) (HBo.out u (below_step HB5.out hu))).mono fun _ _ hh => ⟨says_true hh.1 hbb, hh.2⟩)
  have hp3 := hp w5 HB5.out
  have k0 : w5.cell? ⟨ga, 0, none⟩ = some (.slice e.valid.A e.valid.l.length e.valid.c) := hbk.cell 0
  have k1 : w5.cell? ⟨ga, 1, none⟩ = some (.slice e.fields.A e.fields.l.length e.fields.c) := hbk.cell 1
  have k2 : w5.cell? ⟨ga, 2, none⟩ = some (.slice e.metaV.A e.metaV.l.length e.metaV.c) := hbk.cell 2
  have k3 : w5.cell? ⟨ga, 3, none⟩ = some (.slice e.payload.A e.payload.l.length e.payload.c) := hbk.cell 3
  clear hB heb hbb heo hbo hbk HC
  go_wp2_with fail
  refine (HEe.out _ (Below.refl _ _)).mono ?_
  rintro r w6 ⟨rfl, hb6⟩
  have HB56 := Lib.hid hb6
  have HB6 := Lib.hid (below_step HB5.out hb6)
  clear hp3 hb6 k0 k1 k2 k3
  have hp3 := hp w6 HB6.out
  go_wp2_with fail
  refine (HBe.out _ HB56.out).mono ?_
  rintro r w7 ⟨rfl, hb7⟩
  have HB7 := Lib.hid (below_step HB6.out hb7)
  clear hp3 hb7
  go_wp2_with fail
  refine (works36_any _).mono ?_
  rintro e w8 ⟨rfl, hb8⟩
  go_wp2
  go_ret
  exact ⟨rfl, below_step HW.out (below_step HB7.out hb8)⟩
end Go.Proofs.YtbfjknidinkafaaGreat
namespace Go.Proofs.YtbfjknidinkafaaGreat.phvRoundTrip
open Go.ChangeShapes Go.WideShapes Go.ChangeAt Go.RowKit
theorem own : ownKnob Tryz.prog.godebug = none := by kernel_rfl
set_option maxRecDepth 100000 in
theorem lifted (os : Os) (started : os.Started) (H : Type) (enc : TypeId × Value → H) :
    ReturnsInHanded {} Tryz.checked os 8 .any (Rows.phvRoundTripSpec.pre6 enc Tryz.prog Tryz.f8 Rows.phvRoundTripRow.domain false) (Rows.phvRoundTripSpec.post enc Tryz.prog Tryz.f8 false true false false) := by
  refine returnsInHanded_of_change_sized (C := Tryz.checked) own started (by kernel_rfl) Tryz.func8
    (ChangeSpec.witness6 (enc := enc) (C := Tryz.checked) false ⟨#[], #[.agg #[.string ⟨#[]⟩, .slice none 0 0, .slice none 0 0, .slice none 0 0, .slice none 0 0, .slice none 0 0, .slice none 0 0, .slice none 0 0, .slice none 0 0], .agg #[.int .i64 0, .int .i64 0, .int .i64 0, .int .i64 0, .int .i64 0, .int .i64 0, .int .i64 0, .int .i64 0], .agg #[.slice none 0 0, .slice none 0 0, .slice none 0 0, .slice none 0 0, .slice none 0 0]], []⟩ 8 (by kernel_rfl) (by kernel_rfl) (by kernel_rfl) (by kernel_rfl)) ?_
  intro W base args ds gs before hval0 hW hcnd hsz _
  have hval : ∀ (j : Nat) t v, Tryz.f8.params[j]? = some t → args[j]? = some v → Value.okWide Tryz.prog W .any base t v := hval0
  have hW' := hW
  obtain ⟨p, q, hA0, hV, rfl, hfz, hnd⟩ := hW
  have hA : DataW.TrodAll enc Tryz.prog W 0 (fun _ => true) true Tryz.f8.params.toList args.toList ds p := hA0
  obtain ⟨rfl, rfl⟩ := trodVars_none hV
  have hAk := hA
  rw [Tryz.params8] at hA hval hsz
  obtain ⟨v0, v1, v2, d0, d1, d2, p0, p1, p2, rfl, rfl, rfl, h0, h1, h2⟩ := trodAll_three hA
  have hw := List.all_eq_true.1 hsz
  obtain ⟨x0, rfl, hx0⟩ := arg_struct Tryz.underlying31 (fun N => rd_prog N) (hval 0 _ v0 rfl rfl) h0 (fun m hm => by simpa using hw m (DataW.weights_mem_each (j := 0) rfl rfl m hm))
  obtain ⟨x1, rfl, -⟩ := arg_struct Tryz.underlying33 (fun N => rd_chip N) (hval 1 _ v1 rfl rfl) h1 (fun m hm => by simpa using hw m (DataW.weights_mem_each (j := 1) rfl rfl m hm))
  obtain ⟨x2, rfl, hx2⟩ := arg_struct Tryz.underlying58 (fun N => rd_stat N) (hval 2 _ v2 rfl rfl) h2 (fun m hm => by simpa using hw m (DataW.weights_mem_each (j := 2) rfl rfl m hm))
  clear hA0 hval0
  simp only [List.append_nil] at hW' hAk
  refine (phvRoundTrip_any x0 x1 x2 W hx0 hx2).mono fun e W' ⟨he, hg⟩ => ?_
  subst he
  exact ⟨_, rfl, post_of_below (pv := []) hW' (fun _ _ _ => (trodAll_cons_mk (shut_bool Tryz.underlying4 _) trodAll_mk0)) (fun sp hsp => args_again (by kernel_rfl) (by kernel_rfl) (by kernel_rfl) (by rw [Tryz.params8]; decide) hAk hg sp hsp) (fun _ _ => rfl) (by simp)
    hg (ok_one (by kernel_rfl) rfl (okWide_bool_mk Tryz.underlying4 _))⟩
theorem over : Rows.phvRoundTripRow.holds Tryz.pinned (OpenSpec.ofChange Rows.phvRoundTripSpec) :=
  OpenClaim.holds_of_wide 8 Tryz.f8 rfl rfl rfl rfl rfl rfl rfl ⟨rfl, rfl, rfl, rfl, rfl⟩ rfl rfl rfl rfl rfl (by kernel_rfl) Tryz.func8 (by kernel_rfl)
    (of_decide_eq_true (by kernel_rfl)) (by unfold Func.isWrapper; first | (rw [if_pos (by decide +kernel)]; kernel_rfl) | (rw [if_neg (by decide +kernel)]; exact ⟨rfl, rfl⟩))
    (fun os started H enc _ => lifted os started H enc)
/-- the statement -/
theorem proved : Rows.PhvRoundTripSaid :=
  over
#print axioms proved
end Go.Proofs.YtbfjknidinkafaaGreat.phvRoundTrip
