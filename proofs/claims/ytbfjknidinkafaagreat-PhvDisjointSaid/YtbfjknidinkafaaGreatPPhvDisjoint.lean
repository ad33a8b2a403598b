/- The law PhvDisjoint. No condition but that the program is well read. The law patchbaylaw36.PhvDisjoint holds: for every input the call returns true, and each argument reads afterwards as it read before. No condition. -/
import Derived.Test.YtbfjknidinkafaaGreatJg
import Derived.Test.YtbfjknidinkafaaGreatRows
import Derived.WalkKit
import Derived.ProofKit
import Derived.OpenShut
import Derived.Test.YtbfjknidinkafaaGreatPost
import Derived.Test.YtbfjknidinkafaaGreatJc
namespace Go.Proofs.YtbfjknidinkafaaGreat
open Go.RowKit

theorem diag_code36 (a b c d : Int) (w : World) : (Instr.field 44 (.agg #[.int .i64 a, .int .i64 b, .int .i64 c, .int .i64 d]) 0).run Tryz.prog w = .ok (.int .i64 a) w := by kernel_rfl
theorem alloc_bad {p : ProgD} {n : Int} {c : ChipD} {l : List SlotD} {e : Int} (h : (l, e) = allocRes p n c) (he : e ≠ 0) : l = [] := by
  unfold allocRes at h
  split at h
  · injection h
  split at h
  · injection h
  split at h
  · injection h
  split at h
  · injection h
  · injection h with _ h2; exact absurd h2 he
theorem alloc_good {p : ProgD} {n : Int} {c : ChipD} {l : List SlotD} {e : Int} (h : (l, e) = allocRes p n c) (he : e = 0) :
    (diagM p).code = 0 ∧ chipM c = 0 ∧ 0 ≤ n ∧ n ≤ 24 ∧ l.length = cellsN p + n.toNat ∧ l.Pairwise Apart ∧ ∀ (i : Nat) (x : SlotD) (w : Int), l[i]? = some x → (allW p n.toNat)[i]? = some w → Given c w x := by
  unfold allocRes at h
  split at h
  · rename_i h1; injection h with _ h2; exact absurd (h2.symm.trans he) h1
  rename_i h1
  split at h
  · rename_i h2; injection h with _ h3; exact absurd (h3.symm.trans he) h2
  rename_i h2
  split at h
  · injection h with _ h3; rw [he] at h3; exact absurd h3 (by decide)
  rename_i h3
  have hd : (diagM p).code = 0 := by simpa using h1
  have hc : chipM c = 0 := by simpa using h2
  split at h
  · injection h with _ h4; rw [he] at h4; exact absurd h4 (by decide)
  · rename_i l' h4
    injection h with h5 _
    subst h5
    unfold slotsM at h4
    obtain ⟨g1, g2, g3, _⟩ := run_apart (allW_pos (diag_zero hd) n.toNat) (alloc0_inv hc) h4
    exact ⟨hd, hc, by omega, by omega, by rw [g1, ← allW_len], g2, g3⟩
theorem given_valid {c : ChipD} {w : Int} {x : SlotD} (h : Given c w x) (hw : 1 ≤ w) (hc : c.c8 ≤ 64 ∧ c.c16 ≤ 64 ∧ c.c32 ≤ 64) : validS x = true := by
  obtain ⟨h1, ⟨h2, h3⟩, h4, h5, h6⟩ := h
  refine validS_iff.2 ⟨h1, h2, ?_, h4, by omega, by omega, by omega⟩
  unfold chipOf at h3
  split at h3
  · omega
  split at h3 <;> omega
theorem ext_slot4 (a b c d a' b' c' d' : Int) (h : Apart ⟨a, b, c, d⟩ ⟨a', b', c', d'⟩) :
    (a == a') = false ∨ ((a == a') = true ∧ ((b == b') = false ∨ ((b == b') = true ∧ (¬ c < c' + d' ∨ (c < c' + d' ∧ ¬ c' < c + d))))) := by
  by_cases h1 : a = a'
  · refine .inr ⟨beq_iff_eq.2 h1, ?_⟩
    by_cases h2 : b = b'
    · refine .inr ⟨beq_iff_eq.2 h2, ?_⟩
      by_cases h3 : c < c' + d'
      · exact .inr ⟨h3, fun h4 => h ⟨h1, h2, h3, h4⟩⟩
      · exact .inl h3
    · exact .inl (beq_eq_false_iff_ne.2 h2)
  · exact .inl (beq_eq_false_iff_ne.2 h1)
set_option maxRecDepth 100000 in
set_option maxHeartbeats 6000000 in
theorem phvDisjoint_any (p : ProgD) (n : Int) (c : ChipD) (w : World) (h : ProgGood w p) :
    Calls Tryz.prog 4 #[.agg (progCells p), .int .i64 n, .agg (chipCells c)] w fun e w' => e = .returned (.bool true) ∧ Below w.heap.size w w' := by
  have o := h.ok
  have hcp := h.cap
  have hle := h.headers.le
  obtain ⟨W, hW, hw, HB, hp⟩ := box2 w (progCells p) 31 (chipCells c) 33
  obtain ⟨⟨l, ec⟩, hr⟩ : ∃ r, r = allocRes p n c := ⟨_, rfl⟩
  have HW := Lib.hid hw
  have HS := Lib.hid (fun u (hb : Below W.heap.size W u) => small36_any p u (o.below (below_step hw hb)))
  have HA1 : Hid (Sm36 p → ∀ u, Below W.heap.size W u → Calls Tryz.prog 11 #[.agg (progCells p), .int .i64 n, .agg (chipCells c)] u fun e w' => ∃ A cp, e = .returned (.tuple #[.slice A l.length cp, .int .i64 ec]) ∧ LOk w' 4 SlotD.cells ⟨l, A, cp⟩ ∧ Below u.heap.size u w') := Lib.hid (fun hs u hb =>
    (alloc_any p n c u (o.below (below_step hw hb)) (hs.acc hle) hcp (nodes_le hs)).mono fun e w' he => by have := he.lok; rwa [← hr] at this)
  have HCk := Lib.hid (fun (hs : Sm36 p) u (hb : Below W.heap.size W u) => show Calls _ _ _ u (fun e w' => e = .returned (diagM p).val ∧ Below u.heap.size u w') from rcheck_any p u (o.below (below_step hw hb)) hcp (nodes_le hs))
  have HCc := Lib.hid (fun (hs : Sm36 p) u (hb : Below W.heap.size W u) => rcells31_any p u (o.below (below_step hw hb)) (hs.acc hle))
  have HCw := Lib.hid (fun (hs : Sm36 p) u (hb : Below W.heap.size W u) i hi => rcellWidth_any p i hi u (o.below (below_step hw hb)) (hs.acc hle))
  have HBad := Lib.hid (fun he : ec ≠ 0 => alloc_bad hr he)
  have HGood := Lib.hid (fun he : ec = 0 => alloc_good hr he)
  clear o hcp hle hw h hr
  go_enter Tryz.func4, Tryz.ntmps4
  go_upto_region 1 with fail
  rw [← hW]
  clear hW
  have hp3 := hp W HB
  go_wp2_with fail
  refine (HS.out _ HB).mono ?_
  rintro e w1 ⟨⟨b, rfl, hb⟩, hb1⟩
  have HB1 := Lib.hid (below_step HB hb1)
  clear hp3 HB hb1
  have hp3 := hp w1 HB1.out
  cases b with
  | false =>
    go_wp2_with fail
    refine (works36_any _).mono ?_
    rintro e w2 ⟨rfl, hb2⟩
    go_wp2
    go_ret
    exact ⟨rfl, below_step HW.out (below_step HB1.out hb2)⟩
  | true =>
  have HY := Lib.hid (hb rfl)
  clear hb HS
  go_wp2_with fail
  refine (HA1.out HY.out _ HB1.out).mono ?_
  rintro e w2 ⟨A, cp, rfl, hl, hb2⟩
  have HB2 := Lib.hid (below_step HB1.out hb2)
  have HL := Lib.hid hl
  clear hp3 hb2 hl HA1
  by_cases he : ec = 0
  case neg =>
    have heb : (ec != 0) = true := bne_iff_ne.2 he
    have hnil := HBad.out he
    subst hnil
    clear he
    go_wp2_with fail
    refine (works36_any _).mono ?_
    rintro e w3 ⟨rfl, hb3⟩
    go_wp2
    go_ret
    exact ⟨rfl, below_step HW.out (below_step HB2.out hb3)⟩
  have HG := Lib.hid (HGood.out he)
  subst he
  have hn0 := HG.out.2.2.1
  have hn1 := HG.out.2.2.2.1
  have hll := HG.out.2.2.2.2.1
  have hcn : cellsN p ≤ 300 := by
    have h1 := HY.out.headers
    have h2 := HY.out.metadata
    have h3 : ∀ k, preF p k ≤ 16 * k := fun k => by
      induction k with
      | zero => exact Nat.le_refl _
      | succ k ih =>
        have h4 : nF p k ≤ 16 := by
          by_cases hk : k < p.headers.l.length
          · rw [nF_at hk]; exact HY.out.fields k hk
          · rw [nF, List.getElem?_eq_none (by omega)]; exact Nat.zero_le _
        rw [preF]; omega
    have h5 := h3 p.headers.l.length
    unfold cellsN fN
    omega
  have hreg := HY.out.registers
  obtain ⟨dc, dp, di, ds, hdg⟩ : ∃ a b c d, diagM p = ⟨a, b, c, d⟩ := ⟨_, _, _, _, rfl⟩
  have hdc : dc = 0 := by have := HG.out.1; rw [hdg] at this; exact this
  subst hdc
  have HCd : Hid (∀ u, Below W.heap.size W u → Calls Tryz.prog 15 #[.agg (progCells p)] u fun e w' => e = .returned (.agg #[.int .i64 0, .int .i64 dp, .int .i64 di, .int .i64 ds]) ∧ Below u.heap.size u w') := Lib.hid (fun u hb => by
    have := HCk.out HY.out u hb; rw [hdg] at this; exact this)
  have hsum : firstN p 4 = cellsN p + p.registers.l.length := by show fN p + p.headers.l.length + p.metadata.l.length + p.registers.l.length = _; unfold cellsN; omega
  have HCe : Hid (∀ u, Below W.heap.size W u → Calls Tryz.prog 14 #[.agg (progCells p)] u fun e w' => e = .returned (.int .i64 (cellsN p + p.registers.l.length : Nat)) ∧ Below u.heap.size u w') := Lib.hid (fun u hb => by
    have := HCc.out HY.out u hb; rw [hsum] at this; exact this)
  have HCh : Hid (∀ u, Calls Tryz.prog 16 #[.agg (chipCells c)] u fun e w' => e = .returned (.int .i64 0) ∧ Below u.heap.size u w') := Lib.hid (fun u => by
    have := rchip_any' c u; rw [HG.out.2.1] at this; exact this)
  have HCv := Lib.hid (fun u hb i hi => HCw.out HY.out u hb i hi)
  have hcl := chip_le HG.out.2.1
  have hcg := chip_ge HG.out.2.1
  obtain ⟨N, rfl⟩ : ∃ N : Nat, n = N := ⟨n.toNat, by omega⟩
  rw [Int.toNat_natCast] at hll
  have HGv : Hid (∀ (i : Nat) (x : SlotD) (w : Int), l[i]? = some x → (allW p N)[i]? = some w → Given c w x) := Lib.hid HG.out.2.2.2.2.2.2
  have HAp : Hid (l.Pairwise Apart) := Lib.hid HG.out.2.2.2.2.2.1
  have HPos : Hid (∀ w ∈ allW p N, 1 ≤ w) := Lib.hid (allW_pos (diag_zero HG.out.1) N)
  clear HBad HGood HG HCk HCc HCw hdg hsum HY
  generalize hCN : cellsN p = CN at *
  have HCN := Lib.hid hCN
  clear hCN
  have hq := fun u (hb : Below w2.heap.size w2 u) => hp u (below_step HB2.out hb)
  have HDe := Lib.hid (fun u (hb : Below w2.heap.size w2 u) => HCe.out u (below_step HB2.out hb))
  have H2 := Lib.hid (Below.refl w2.heap.size w2)
  have HPp := Lib.hid hp
  have HLL := Lib.hid hll
  have hne : ((l.length : Int) != (CN : Int) + (N : Int)) = false := by
    rw [show (l.length : Int) = (CN : Int) + (N : Int) by omega]
    simp
  have HWr : Hid (IntKind.i64.wrap (CN : Int) = (CN : Int)) := Lib.hid (IntWalk.i64_in _ (by omega))
  have hmaxl : l.length ≤ 1000 := by omega
  clear hll
  clear hp
  go_upto_region 6 with fail
  go_region_held3 (fun w' => Below w2.heap.size w2 w') (first | exact H2.out | exact below_drew H2.out | (exact below_step (by assumption) (by assumption)) | assumption)
      (first
      | (go_at_call 14; refine (HDe.out _ (by assumption)).mono ?_; rintro e w5 ⟨rfl, hb1⟩))
  have HB6 : Hid (Below w2.heap.size w2 _) := Lib.hid (by assumption)
  rw [HWr.out]
  have HBW6 := Lib.hid (below_step HB2.out HB6.out)
  have HL6 := Lib.hid (HL.out.below HB6.out (Nat.le_refl _))
  clear HB2 HB6 HL H2 hq HDe HCe
  have hp := HPp.out
  have hp3 := hp _ HBW6.out
  go_wp2_with fail
  refine (HCd.out _ HBW6.out).mono ?_
  rintro e w7 ⟨rfl, hb7⟩
  have HB7 := Lib.hid (below_step HBW6.out hb7)
  have HL7 := Lib.hid (HL6.out.below hb7 (Nat.le_refl _))
  clear hp3 hb7 HBW6 HL6
  have hp3 := hp w7 HB7.out
  have hcd := diag_code36 0 dp di ds
  go_wp2_with fail
  refine (HCh.out _).mono ?_
  rintro e w8 ⟨rfl, hb8⟩
  have HB8 := Lib.hid (below_step HB7.out hb8)
  have HL8 := Lib.hid (HL7.out.below hb8 (Nat.le_refl _))
  clear hp3 hb8 HB7 HL7
  go_wp2
  go_loopw [10, 11, 12, 13, 14, 15] (fun iv _ _ _ _ _ wr => ∃ k : Nat, k ≤ l.length ∧ iv = .int .i64 k ∧ Below w8.heap.size w8 wr) (fun i _ _ _ _ _ _ => l.length - (intOf i).toNat)
  case atStart => exact ⟨0, Nat.zero_le _, rfl, Below.refl _ _⟩
  case round =>
  obtain ⟨k, hk, rfl, HB⟩ := hrel
  by_cases hlt : k < l.length
  case neg =>
    go_wp2_with fail
    refine (works36_any _).mono ?_
    rintro e w9 ⟨rfl, hb9⟩
    go_wp2
    go_ret
    exact ⟨rfl, below_step HW.out (below_step HB8.out (below_step HB hb9))⟩
  obtain ⟨g, of, hA, hall⟩ := SlotD.atA HL8.out hlt
  simp only at hA
  subst hA
  have HLa := HL8
  obtain ⟨d0, d1, d2, d3⟩ := hall wr HB
  obtain ⟨wv, hwv⟩ : ∃ wv, (allW p N)[k]? = some wv := by
    have h1 := allW_len p N
    rw [HCN.out] at h1
    exact ⟨_, List.getElem?_eq_getElem (by rw [h1, ← HLL.out]; exact hlt)⟩
  have hG := HGv.out k l[k] wv (List.getElem?_eq_getElem hlt) hwv
  have hpos := HPos.out wv (List.mem_of_getElem? hwv)
  have HVk := Lib.hid (given_valid hG hpos hcl)
  have HAk : Hid (∀ j (hj : j < l.length), j < k → Apart l[j] l[k]) := Lib.hid (fun j hj hjk => List.pairwise_iff_getElem.1 HAp.out j k hj hlt hjk)
  have HZ := Lib.hid hwv
  clear hwv hall
  generalize l[k] = s at *
  obtain ⟨z, ii, f, d⟩ := s
  obtain ⟨hzz, ⟨hi0, hi1⟩, hf0, hwd, hfit⟩ := hG
  simp only at d0 d1 d2 d3 hzz hi0 hi1 hf0 hwd hfit
  subst hwd
  refine Exists.elim (⟨_, rfl⟩ : ∃ V, V = wr.alloc (.cells #[.int .i64 z, .int .i64 ii, .int .i64 f, .int .i64 d] 48)) fun V hV => ?_
  have HSV := Lib.hid (show Blk V wr.heap.size 48 #[.int .i64 z, .int .i64 ii, .int .i64 f, .int .i64 d] by rw [hV]; exact Blk.new _ _ _)
  have HBV : Hid (Below w8.heap.size w8 V) := Lib.hid (by rw [hV]; exact below_alloc HB _)
  go_upto_region 13 with fail
  rw [← hV]
  clear hV HB d0 d1 d2 d3
  go_upto_if 70 with fail
  go_cut [12] from 58 to 73 (fun v wx => v = .int .i64 d ∧ Below V.heap.size V wx)
  case first =>
    by_cases hkc : k < CN
    · have hkc' : (k : Int) < (CN : Int) := by omega
      have hp3 := hp V (below_step HB8.out HBV.out)
      have HZ2 : Hid (d = (wsM p).getD k 0) := Lib.hid (by
        have h1 := allW_low (p := p) (n := N) (k := k) (by rw [HCN.out]; exact hkc)
        rw [HZ.out] at h1
        injection h1)
      go_wp2_with fail
      refine (HCv.out _ (below_step HB8.out HBV.out) k hkc).mono ?_
      rintro e w5 ⟨rfl, hbN⟩
      clear hp3
      go_wp2
      go_meet
      case rel => exact ⟨by rw [HZ2.out]; simp [List.getD_eq_getElem?_getD], hbN⟩
    · have hkc' : ¬ (k : Int) < (CN : Int) := by omega
      have HZ2 : Hid (d = 1) := Lib.hid (by
        have h1 := allW_high (p := p) (n := N) (k := k) (by rw [HCN.out]; omega) (by rw [HCN.out, ← HLL.out]; exact hlt)
        rw [HZ.out] at h1
        injection h1)
      have HBe := Lib.hid (Below.refl V.heap.size V)
      go_wp2
      go_meet
      case rel => exact ⟨by rw [HZ2.out], HBe.out⟩
  case rest =>
  obtain ⟨rfl, hbx⟩ := hcut
  generalize wr.heap.size = gs at *
  have HSx := Lib.hid (HSV.out.below hbx HSV.out.lt)
  have HBx := Lib.hid (below_step HBV.out hbx)
  have hp3 := hp wc (below_step HB8.out HBx.out)
  have q0 : wc.cell? ⟨gs, 0, none⟩ = some (.int .i64 z) := HSx.out.cell 0
  have q1 : wc.cell? ⟨gs, 1, none⟩ = some (.int .i64 ii) := HSx.out.cell 1
  have q2 : wc.cell? ⟨gs, 2, none⟩ = some (.int .i64 f) := HSx.out.cell 2
  have q3 : wc.cell? ⟨gs, 3, none⟩ = some (.int .i64 d) := HSx.out.cell 3
  have HVs : Hid (∀ u, Calls Tryz.prog 18 #[.agg #[.int .i64 z, .int .i64 ii, .int .i64 f, .int .i64 d]] u fun e w' => e = .returned (.bool true) ∧ Below u.heap.size u w') := Lib.hid (fun u => by rw [← HVk.out]; exact rvalidSlot_any z ii f d u)
  clear HVk HZ hbx HBV HSV
  rcases hzz with rfl | rfl | rfl
  all_goals
    have hmi2 := hi1
    simp [chipOf] at hmi2
    clear hi1
    go_wp2_with fail
    refine (HVs.out _).mono ?_
    rintro e w9 ⟨rfl, hb9⟩
    have HS9 := Lib.hid (HSx.out.below hb9 HSx.out.lt)
    have HB9 := Lib.hid (below_step HBx.out hb9)
    clear hp3 q0 q1 q2 q3 hb9
    have hp3 := hp w9 (below_step HB8.out HB9.out)
    have q0 : w9.cell? ⟨gs, 0, none⟩ = some (.int .i64 _) := HS9.out.cell 0
    have q1 : w9.cell? ⟨gs, 1, none⟩ = some (.int .i64 ii) := HS9.out.cell 1
    have q2 : w9.cell? ⟨gs, 2, none⟩ = some (.int .i64 f) := HS9.out.cell 2
    have q3 : w9.cell? ⟨gs, 3, none⟩ = some (.int .i64 d) := HS9.out.cell 3
    go_wp2
    clear hp3 q0 q1 q2 q3
    go_loopw [14, 15] (fun jv _ wr => ∃ j : Nat, j ≤ k ∧ jv = .int .i64 j ∧ Below w9.heap.size w9 wr) (fun j _ _ => k - (intOf j).toNat)
    case atStart => exact ⟨0, Nat.zero_le _, rfl, Below.refl _ _⟩
    case round =>
    obtain ⟨j, hj, rfl, HBq⟩ := hrel
    by_cases hjk : j < k
    case neg =>
      have HBr := Lib.hid (below_step HB9.out HBq)
      go_wp2
      go_roundw
      case rel => exact ⟨k + 1, by omega, by go_num, HBr.out⟩
      case measure => simp [intOf]; omega
    have HBr := Lib.hid (below_step HB9.out HBq)
    obtain ⟨g2, of2, hA2, hall⟩ := SlotD.atA HLa.out (show j < l.length by omega)
    injection hA2 with hA2
    injection hA2 with hA3 hA4
    subst hA3 hA4
    obtain ⟨d0, d1, d2, d3⟩ := hall wr HBr.out
    have HAj := Lib.hid (HAk.out j (by omega) hjk)
    have HGj : Hid (0 ≤ l[j].off ∧ l[j].off + l[j].width ≤ 32 ∧ 1 ≤ l[j].width) := Lib.hid (by
      obtain ⟨wj, hwj⟩ : ∃ wv, (allW p N)[j]? = some wv := by
        have h1 := allW_len p N
        rw [HCN.out] at h1
        exact ⟨_, List.getElem?_eq_getElem (by rw [h1, ← HLL.out]; omega)⟩
      have h2 := HGv.out j l[j] wj (List.getElem?_eq_getElem (by omega)) hwj
      have h3 := h2.size
      have h4 := h2.fits
      have h5 := h2.off
      have h6 := h2.width
      have h7 := HPos.out wj (List.mem_of_getElem? hwj)
      omega)
    clear hall
    generalize l[j] = x at *
    obtain ⟨z2, i2, f2, e2⟩ := x
    simp only at d0 d1 d2 d3 HGj
    have hg1 := HGj.out.1
    have hg2 := HGj.out.2.1
    have hg3 := HGj.out.2.2
    have hap := ext_slot4 _ _ _ _ _ _ _ _ HAj.out
    have HSq := Lib.hid (HS9.out.below HBq HS9.out.lt)
    have HBqv := Lib.hid HBq
    have r0 : wr.cell? ⟨gs, 0, none⟩ = some (.int .i64 _) := HSq.out.cell 0
    have r1 : wr.cell? ⟨gs, 1, none⟩ = some (.int .i64 ii) := HSq.out.cell 1
    have r2 : wr.cell? ⟨gs, 2, none⟩ = some (.int .i64 f) := HSq.out.cell 2
    have r3 : wr.cell? ⟨gs, 3, none⟩ = some (.int .i64 d) := HSq.out.cell 3
    have hca := @World.cell?_alloc_some
    clear HBq HAj HGj
    rcases hap with h1 | ⟨h1, h2 | ⟨h2, h3 | ⟨h3, h4⟩⟩⟩
    all_goals
      go_wp2
      go_roundw
      case rel => exact ⟨j + 1, by omega, by go_num, below_alloc HBqv.out _⟩
      case measure => simp [intOf]; omega
end Go.Proofs.YtbfjknidinkafaaGreat
namespace Go.Proofs.YtbfjknidinkafaaGreat.phvDisjoint
open Go.ChangeShapes Go.WideShapes Go.ChangeAt Go.RowKit
theorem own : ownKnob Tryz.prog.godebug = none := by kernel_rfl
set_option maxRecDepth 100000 in
theorem lifted (os : Os) (started : os.Started) (H : Type) (enc : TypeId × Value → H) :
    ReturnsInHanded {} Tryz.checked os 4 .any (Rows.phvDisjointSpec.pre6 enc Tryz.prog Tryz.f4 Rows.phvDisjointRow.domain false) (Rows.phvDisjointSpec.post enc Tryz.prog Tryz.f4 false true false false) := by
  refine returnsInHanded_of_change_sized (C := Tryz.checked) own started (by kernel_rfl) Tryz.func4
    (ChangeSpec.witness6 (enc := enc) (C := Tryz.checked) false ⟨#[], #[.agg #[.string ⟨#[]⟩, .slice none 0 0, .slice none 0 0, .slice none 0 0, .slice none 0 0, .slice none 0 0, .slice none 0 0, .slice none 0 0, .slice none 0 0], .int .i64 0, .agg #[.int .i64 0, .int .i64 0, .int .i64 0, .int .i64 0, .int .i64 0, .int .i64 0, .int .i64 0, .int .i64 0]], []⟩ 8 (by kernel_rfl) (by kernel_rfl) (by kernel_rfl) (by kernel_rfl)) ?_
  intro W base args ds gs before hval0 hW hcnd hsz _
  have hval : ∀ (j : Nat) t v, Tryz.f4.params[j]? = some t → args[j]? = some v → Value.okWide Tryz.prog W .any base t v := hval0
  have hW' := hW
  obtain ⟨p, q, hA0, hV, rfl, hfz, hnd⟩ := hW
  have hA : DataW.TrodAll enc Tryz.prog W 0 (fun _ => true) true Tryz.f4.params.toList args.toList ds p := hA0
  obtain ⟨rfl, rfl⟩ := trodVars_none hV
  have hAk := hA
  rw [Tryz.params4] at hA hval hsz
  obtain ⟨v0, v1, v2, d0, d1, d2, p0, p1, p2, rfl, rfl, rfl, h0, h1, h2⟩ := trodAll_three hA
  have hw := List.all_eq_true.1 hsz
  obtain ⟨x0, rfl, hx0⟩ := arg_struct Tryz.underlying31 (fun N => rd_prog N) (hval 0 _ v0 rfl rfl) h0 (fun m hm => by simpa using hw m (DataW.weights_mem_each (j := 0) rfl rfl m hm))
  obtain ⟨x1, rfl⟩ := okWide_int Tryz.underlying3 (hval 1 _ v1 rfl rfl)
  obtain ⟨x2, rfl, -⟩ := arg_struct Tryz.underlying33 (fun N => rd_chip N) (hval 2 _ v2 rfl rfl) h2 (fun m hm => by simpa using hw m (DataW.weights_mem_each (j := 2) rfl rfl m hm))
  clear hA0 hval0
  simp only [List.append_nil] at hW' hAk
  refine (phvDisjoint_any x0 x1 x2 W hx0).mono fun e W' ⟨he, hg⟩ => ?_
  subst he
  exact ⟨_, rfl, post_of_below (pv := []) hW' (fun _ _ _ => (trodAll_cons_mk (shut_bool Tryz.underlying4 _) trodAll_mk0)) (fun sp hsp => args_again (by kernel_rfl) (by kernel_rfl) (by kernel_rfl) (by rw [Tryz.params4]; decide) hAk hg sp hsp) (fun _ _ => rfl) (by simp)
    hg (ok_one (by kernel_rfl) rfl (okWide_bool_mk Tryz.underlying4 _))⟩
theorem over : Rows.phvDisjointRow.holds Tryz.pinned (OpenSpec.ofChange Rows.phvDisjointSpec) :=
  OpenClaim.holds_of_wide 4 Tryz.f4 rfl rfl rfl rfl rfl rfl rfl ⟨rfl, rfl, rfl, rfl, rfl⟩ rfl rfl rfl rfl rfl (by kernel_rfl) Tryz.func4 (by kernel_rfl)
    (of_decide_eq_true (by kernel_rfl)) (by unfold Func.isWrapper; first | (rw [if_pos (by decide +kernel)]; kernel_rfl) | (rw [if_neg (by decide +kernel)]; exact ⟨rfl, rfl⟩))
    (fun os started H enc _ => lifted os started H enc)
/-- the statement -/
theorem proved : Rows.PhvDisjointSaid :=
  over
#print axioms proved
end Go.Proofs.YtbfjknidinkafaaGreat.phvDisjoint
