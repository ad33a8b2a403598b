/- Walks of bitvec.valid at one width, Mask, Fits; of env's Width. -/
import Derived.Test.YtbfjknidinkafaaGreatPgA
import Derived.Deep.RegionHeld3
namespace Go.Proofs.YtbfjknidinkafaaGreat
open Go.RowKit

def okW (n : Int) : Bool := decide (1 ≤ n) && decide (n ≤ 32)
theorem valid1_any (g c : Nat) (n : Int) (w : World) (h : w.cell? ⟨g, 0, none⟩ = some (.int .i64 n)) :
    Calls Tryz.prog 164 #[.slice (some ⟨g, 0, none⟩) 1 c] w fun e w' => e = .returned (.bool (okW n)) ∧ w = w' := by
  have hcase : (okW n = true ∧ ¬ n < 1 ∧ ¬ 32 < n) ∨ (okW n = false ∧ n < 1) ∨ (okW n = false ∧ ¬ n < 1 ∧ 32 < n) := by
    unfold okW
    rcases Int.lt_or_le n 1 with h1 | h1
    · exact .inr (.inl ⟨by simp; omega, h1⟩)
    · rcases Int.lt_or_le 32 n with h2 | h2
      · exact .inr (.inr ⟨by simp; omega, by omega, h2⟩)
      · exact .inl ⟨by simp; omega, by omega, by omega⟩
  rcases hcase with ⟨hv, h1, h2⟩ | ⟨hv, h1⟩ | ⟨hv, h1, h2⟩
  all_goals
    have HV := Lib.hid hv
    clear hv
    go_enter Tryz.func164, Tryz.ntmps164
    go_wp2
    go_loop [4, 7] (fun _ iv => ∃ k : Nat, k ≤ 1 ∧ iv = .int .i64 k ∧ (k = 1 → okW n = true)) (fun _ i => 1 - (intOf i).toNat)
    case atStart => exact ⟨0, by omega, rfl, fun h => by omega⟩
    case round =>
      obtain ⟨k, hk, rfl, hk1⟩ := hrel
      rcases (show k = 0 ∨ k = 1 by omega) with rfl | rfl
      · clear hk1
        go_wp2
        first
          | (go_round
             case rel => exact ⟨1, by omega, by go_num, fun _ => HV.out⟩
             case measure => simp [intOf])
          | (go_ret; exact ⟨by rw [HV.out]; rfl, rfl⟩)
      · have HK := Lib.hid (hk1 rfl)
        clear hk1
        go_wp2
        go_ret
        exact ⟨by rw [HK.out]; rfl, rfl⟩

/-- the greatest number of n bits; nought where n is no width -/
def maskM (n : Int) : Nat := if okW n = true then 2 ^ n.toNat - 1 else 0
theorem maskM_shift (n : Int) (h1 : 1 ≤ n) (h2 : n ≤ 32) : (4294967295 : Int) / 2 ^ (32 - n).toNat = (maskM n : Int) := by
  obtain ⟨m, rfl, hm⟩ : ∃ m : Nat, n = m ∧ m ≤ 32 := ⟨n.toNat, by omega, by omega⟩
  have h : ∀ m : Fin 33, 1 ≤ m.1 → (4294967295 : Int) / 2 ^ (32 - (m.1 : Int)).toNat = (maskM m.1 : Int) := by decide +kernel
  exact h ⟨m, by omega⟩ (by show 1 ≤ m; omega)
set_option maxHeartbeats 400000 in
theorem mask_any (n : Int) (w : World) :
    Calls Tryz.prog 110 #[.int .i64 n] w fun e w' => e = .returned (.int .u32 (maskM n)) ∧ Below w.heap.size w w' := by
  have hb : Below w.heap.size w (w.alloc (.cells #[.int .i64 n] 3)) := (Below.refl _ _).alloc (Nat.le_refl _) _
  cases hv : okW n
  · have HM := Lib.hid (show maskM n = 0 by rw [maskM, hv]; rfl)
    have HV := Lib.hid hv
    clear hv
    go_enter Tryz.func110, Tryz.ntmps110
    go_wp2_with fail
    refine (valid1_any w.heap.size 1 n _ (by simp)).mono ?_
    rintro e w1 ⟨rfl, rfl⟩
    rw [HV.out]
    go_wp2
    go_ret
    exact ⟨by rw [HM.out]; rfl, hb⟩
  · have HV := Lib.hid hv
    have hr : 1 ≤ n ∧ n ≤ 32 := by simpa [okW] using hv
    have h1 := hr.1
    have h2 := hr.2
    have HM := Lib.hid (maskM_shift n hr.1 hr.2)
    clear hv hr
    go_enter Tryz.func110, Tryz.ntmps110
    go_wp2_with fail
    refine (valid1_any w.heap.size 1 n _ (by simp)).mono ?_
    rintro e w1 ⟨rfl, rfl⟩
    rw [HV.out]
    go_wp2
    go_ret
    exact ⟨by rw [← HM.out]; rfl, hb⟩
def fitsM (v n : Int) : Bool := okW n && decide (v ≤ maskM n)
set_option maxHeartbeats 400000 in
theorem fits_any (v n : Int) (w : World) :
    Calls Tryz.prog 212 #[.int .u32 v, .int .i64 n] w fun e w' => e = .returned (.bool (fitsM v n)) ∧ Below w.heap.size w w' := by
  have hb : Below w.heap.size w (w.alloc (.cells #[.int .i64 n] 3)) := (Below.refl _ _).alloc (Nat.le_refl _) _
  cases hv : okW n
  · have HV := Lib.hid hv
    clear hv
    go_enter Tryz.func212, Tryz.ntmps212
    go_wp2_with fail
    refine (valid1_any w.heap.size 1 n _ (by simp)).mono ?_
    rintro e w1 ⟨rfl, rfl⟩
    rw [HV.out]
    go_wp2
    go_ret
    exact ⟨by rw [fitsM, HV.out]; rfl, hb⟩
  · have HV := Lib.hid hv
    clear hv
    go_enter Tryz.func212, Tryz.ntmps212
    go_wp2_with fail
    refine (valid1_any w.heap.size 1 n _ (by simp)).mono ?_
    rintro e w1 ⟨rfl, rfl⟩
    rw [HV.out]
    go_wp2_with fail
    refine (mask_any n _).mono ?_
    rintro e w2 ⟨rfl, hb2⟩
    go_wp2
    go_ret
    exact ⟨by rw [fitsM, HV.out]; rfl, hb.trans (hb2.mono hb.size)⟩

def noField : FieldD := ⟨⟨#[]⟩, 0⟩
def noHeader : HeaderD := ⟨⟨#[]⟩, ⟨[], none, 0⟩⟩
def fieldAt (x : L FieldD) (i : Int) : FieldD := if i < 0 then noField else (x.l[i.toNat]?).getD noField
def headerAt (x : L HeaderD) (i : Int) : HeaderD := if i < 0 then noHeader else (x.l[i.toNat]?).getD noHeader

theorem atField_any (x : L FieldD) (i : Int) (w : World) (h : LOk w 2 FieldD.cells x) :
    Calls Tryz.prog 139 #[x.v, .int .i64 i] w fun e w' =>
      e = .returned (.agg #[.string (fieldAt x i).name, .int .i64 (fieldAt x i).width]) ∧ Below w.heap.size w w' := by
  obtain ⟨l, A0, c0⟩ := x
  have HX := Lib.hid h
  clear h
  simp only [L.v] at *
  have hca := @World.cell?_alloc_some
  by_cases h1 : i < 0
  · have HR := Lib.hid (show fieldAt ⟨l, A0, c0⟩ i = noField by rw [fieldAt, if_pos h1])
    go_enter Tryz.func139, Tryz.ntmps139
    go_wp2
    refine bodyPost_ret (v := .agg #[.string noField.name, .int .i64 noField.width]) (by simp [results, Tryz.results139, go_sem, noField]) rfl ⟨by rw [HR.out], below2 _ _ _⟩
  · obtain ⟨k, rfl⟩ : ∃ k : Nat, i = k := ⟨i.toNat, by omega⟩
    by_cases h2 : k < l.length
    · obtain ⟨g, o, rfl, d0, d1⟩ := FieldD.at HX.out h2
      simp only at d0 d1
      have HR := Lib.hid (show fieldAt ⟨l, some ⟨g, o, none⟩, c0⟩ k = l[k] by rw [fieldAt, if_neg h1]; simp [h2])
      generalize l[k] = y at *
      go_enter Tryz.func139, Tryz.ntmps139
      go_wp2
      refine bodyPost_ret (v := .agg #[.string y.name, .int .i64 y.width]) (by simp [results, Tryz.results139, go_sem]) rfl ⟨by rw [HR.out], below2 _ _ _⟩
    · have HR := Lib.hid (show fieldAt ⟨l, A0, c0⟩ k = noField by rw [fieldAt, if_neg h1]; simp [List.getElem?_eq_none (Nat.le_of_not_lt h2)])
      go_enter Tryz.func139, Tryz.ntmps139
      go_wp2
      refine bodyPost_ret (v := .agg #[.string noField.name, .int .i64 noField.width]) (by simp [results, Tryz.results139, go_sem, noField]) rfl ⟨by rw [HR.out], below2 _ _ _⟩
theorem atHeader_any (x : L HeaderD) (i : Int) (w : World) (h : LOk w 2 HeaderD.cells x) :
    Calls Tryz.prog 182 #[x.v, .int .i64 i] w fun e w' =>
      e = .returned (.agg #[.string (headerAt x i).name, (headerAt x i).fields.v]) ∧ Below w.heap.size w w' := by
  obtain ⟨l, A0, c0⟩ := x
  have HX := Lib.hid h
  clear h
  simp only [L.v] at *
  have hca := @World.cell?_alloc_some
  by_cases h1 : i < 0
  · have HR := Lib.hid (show headerAt ⟨l, A0, c0⟩ i = noHeader by rw [headerAt, if_pos h1])
    go_enter Tryz.func182, Tryz.ntmps182
    go_wp2
    refine bodyPost_ret (v := .agg #[.string noHeader.name, noHeader.fields.v]) (by simp [results, Tryz.results182, go_sem, noHeader]) rfl ⟨by rw [HR.out], below2 _ _ _⟩
  · obtain ⟨k, rfl⟩ : ∃ k : Nat, i = k := ⟨i.toNat, by omega⟩
    by_cases h2 : k < l.length
    · obtain ⟨g, o, rfl, d0, d1⟩ := HeaderD.at HX.out h2
      simp only at d0 d1
      have HR := Lib.hid (show headerAt ⟨l, some ⟨g, o, none⟩, c0⟩ k = l[k] by rw [headerAt, if_neg h1]; simp [h2])
      generalize l[k] = y at *
      obtain ⟨nm, ⟨fl, fA, fc⟩⟩ := y
      simp only [L.v] at d1
      go_enter Tryz.func182, Tryz.ntmps182
      go_wp2
      refine bodyPost_ret (v := .agg #[.string nm, .slice fA fl.length fc]) (by simp [results, Tryz.results182, go_sem]) rfl ⟨by rw [HR.out], below2 _ _ _⟩
    · have HR := Lib.hid (show headerAt ⟨l, A0, c0⟩ k = noHeader by rw [headerAt, if_neg h1]; simp [List.getElem?_eq_none (Nat.le_of_not_lt h2)])
      go_enter Tryz.func182, Tryz.ntmps182
      go_wp2
      refine bodyPost_ret (v := .agg #[.string noHeader.name, noHeader.fields.v]) (by simp [results, Tryz.results182, go_sem, noHeader]) rfl ⟨by rw [HR.out], below2 _ _ _⟩

def fieldsM (p : ProgD) (h : Int) : L FieldD := if h = -1 then p.metadata else (headerAt p.headers h).fields
theorem fieldsM_ok {w : World} {p : ProgD} (o : ProgOk w p) (h : Int) : LOk w 2 FieldD.cells (fieldsM p h) := by
  unfold fieldsM
  split
  · exact o.metadata
  · unfold headerAt
    split
    · exact ⟨Nat.zero_le _, .inl rfl⟩
    · rcases hk : p.headers.l[h.toNat]? with _ | y
      · exact ⟨Nat.zero_le _, .inl rfl⟩
      · exact (o.hdr y (List.mem_of_getElem? hk)).fields
def widthAt (p : ProgD) (h f : Int) : Int := if okW (fieldAt (fieldsM p h) f).width = true then (fieldAt (fieldsM p h) f).width else 0
theorem mask_zero (n : Int) : ((maskM n : Int) == 0) = !okW n := by
  unfold maskM
  cases hv : okW n
  · rfl
  · have hr : 1 ≤ n ∧ n ≤ 32 := by simpa [okW] using hv
    have h2 : 2 ^ 1 ≤ 2 ^ n.toNat := Nat.pow_le_pow_right (by omega) (by omega)
    simp only [if_true, Bool.not_true, beq_eq_false_iff_ne]
    omega

theorem hdr_field (s : ByteArray) (A : Option Addr) (n c : Nat) (w : World) : (Instr.field 96 (.agg #[.string s, .slice A n c]) 1).run Tryz.prog w = .ok (.slice A n c) w := by kernel_rfl
theorem fld_field (s : ByteArray) (n : Int) (w : World) : (Instr.field 135 (.agg #[.string s, .int .i64 n]) 1).run Tryz.prog w = .ok (.int .i64 n) w := by kernel_rfl
set_option maxRecDepth 100000 in
theorem fields_any (p : ProgD) (h : Int) (w : World) (o : ProgOk w p) :
    Calls Tryz.prog 140 #[p.val, .int .i64 h] w fun e w' => e = .returned (fieldsM p h).v ∧ Below w.heap.size w w' := by
  have HO := Lib.hid o
  have hb : Below w.heap.size w (w.alloc (.cells #[.string p.name, p.headers.v, p.metadata.v, p.registers.v, p.actions.v, p.tables.v, p.states.v, p.control.v, p.deparser.v] 31)) := (Below.refl _ _).alloc (Nat.le_refl _) _
  have HB := Lib.hid hb
  clear o hb
  by_cases h1 : h = -1
  · have HR := Lib.hid (show fieldsM p h = p.metadata by rw [fieldsM, if_pos h1])
    subst h1
    simp only [ProgD.val, L.v]
    go_enter Tryz.func140, Tryz.ntmps140
    go_wp2
    go_ret
    exact ⟨by rw [HR.out]; rfl, HB.out⟩
  · have HR := Lib.hid (show fieldsM p h = (headerAt p.headers h).fields by rw [fieldsM, if_neg h1])
    have h1' : (h == -1) = false := beq_eq_false_iff_ne.2 h1
    simp only [ProgD.val, L.v]
    go_enter Tryz.func140, Tryz.ntmps140
    go_wp2_with fail
    refine (atHeader_any p.headers h _ (HO.out.headers.below HB.out (Nat.le_refl _))).mono ?_
    rintro e w1 ⟨rfl, hb1⟩
    have hfd := hdr_field
    have HR2 := Lib.hid (show (fieldsM p h).v = (headerAt p.headers h).fields.v by rw [HR.out])
    clear HR
    generalize headerAt p.headers h = y at *
    obtain ⟨nm, ⟨fl, fA, fc⟩⟩ := y
    simp only [L.v] at *
    go_wp2
    go_ret
    exact ⟨by rw [HR2.out]; rfl, HB.out.trans (hb1.mono HB.out.size)⟩

set_option maxRecDepth 100000 in
set_option maxHeartbeats 1000000 in
theorem width_any (p : ProgD) (h f : Int) (w : World) (o : ProgOk w p) :
    Calls Tryz.prog 91 #[p.val, .agg #[.int .i64 h, .int .i64 f]] w fun e w' => e = .returned (.int .i64 (widthAt p h f)) ∧ Below w.heap.size w w' := by
  have HO := Lib.hid o
  obtain ⟨W, hW⟩ : ∃ W, W = (w.alloc (.cells #[.string p.name, p.headers.v, p.metadata.v, p.registers.v, p.actions.v, p.tables.v, p.states.v, p.control.v, p.deparser.v] 31)).alloc (.cells #[.int .i64 h, .int .i64 f] 98) := ⟨_, rfl⟩
  have HB : Hid (Below w.heap.size w W) := Lib.hid (by rw [hW]; exact below2 _ _ _)
  have hp : ∀ w', Below W.heap.size W w' → (w'.cell? ⟨w.heap.size, 0, none⟩ = some (.string p.name) ∧ w'.cell? ⟨w.heap.size, 1, none⟩ = some p.headers.v ∧ w'.cell? ⟨w.heap.size, 2, none⟩ = some p.metadata.v ∧
      w'.cell? ⟨w.heap.size, 3, none⟩ = some p.registers.v ∧ w'.cell? ⟨w.heap.size, 4, none⟩ = some p.actions.v ∧ w'.cell? ⟨w.heap.size, 5, none⟩ = some p.tables.v ∧ w'.cell? ⟨w.heap.size, 6, none⟩ = some p.states.v ∧
      w'.cell? ⟨w.heap.size, 7, none⟩ = some p.control.v ∧ w'.cell? ⟨w.heap.size, 8, none⟩ = some p.deparser.v) ∧
      w'.cell? ⟨w.heap.size + 1, 0, none⟩ = some (.int .i64 h) ∧ w'.cell? ⟨w.heap.size + 1, 1, none⟩ = some (.int .i64 f) := by
    intro w' hb
    subst hW
    refine ⟨⟨?_, ?_, ?_, ?_, ?_, ?_, ?_, ?_, ?_⟩, ?_, ?_⟩ <;> exact below_cell hb (by simp [L.v])
  have hfd := fld_field
  have H0 := Lib.hid (Below.refl W.heap.size W)
  clear o
  simp only [ProgD.val, L.v] at *
  go_enter Tryz.func91, Tryz.ntmps91
  go_wp2
  rw [← hW]
  clear hW
  go_region_held3 (fun w' => Below W.heap.size W w') (first | exact H0.out | exact below_drew H0.out | (exact below_step (by assumption) (by assumption)))
    (first | (go_at_call 140; refine (fields_any p h _ (HO.out.below (below_step HB.out (by assumption)))).mono ?_; rintro e w1 ⟨rfl, hb1⟩) | (go_at_call 139; refine (atField_any (fieldsM p h) f _ ((fieldsM_ok HO.out h).below (below_step HB.out (by assumption)) (Nat.le_refl _))).mono ?_; rintro e w1 ⟨rfl, hb1⟩))
  have HB2 : Hid (Below w.heap.size w _) := Lib.hid (below_step HB.out (by assumption))
  clear hp
  have HR : Hid (widthAt p h f = if okW (fieldAt (fieldsM p h) f).width = true then (fieldAt (fieldsM p h) f).width else 0) := Lib.hid rfl
  generalize (fieldAt (fieldsM p h) f).width = n at *
  have hz := mask_zero n
  go_wp2_with fail
  refine (mask_any n _).mono ?_
  rintro e w3 ⟨rfl, hb3⟩
  have HB3 := Lib.hid (below_step HB2.out hb3)
  clear hb3
  cases hv : okW n
  · rw [hv] at hz
    have HR2 := Lib.hid (show widthAt p h f = 0 by rw [HR.out, hv]; rfl)
    go_wp2
    go_ret
    exact ⟨by rw [HR2.out]; rfl, HB3.out⟩
  · rw [hv] at hz
    have HR2 := Lib.hid (show widthAt p h f = n by rw [HR.out, hv]; rfl)
    go_wp2
    go_ret
    exact ⟨by rw [HR2.out]; rfl, HB3.out⟩
end Go.Proofs.YtbfjknidinkafaaGreat

