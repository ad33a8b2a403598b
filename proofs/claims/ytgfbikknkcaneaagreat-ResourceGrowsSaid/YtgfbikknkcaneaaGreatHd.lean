/- The walk of program.Lookup on any program. No condition but that the program lies in memory, with at most a hundred elements in each list. The walk of patchbayref21.names and Lookup on any program. No condition but that the program lies in memory, with at most a hundred elements in each list. The walk of patchbayref21.Lookup on any program. No condition but that the program lies in memory, with at most a hundred elements in each list. The walk of law 21's count of control nodes. No condition but that the nodes lie in memory. -/
import Derived.Test.YtgfbikknkcaneaaGreatHe
import Derived.Deep.CutBlock
namespace Go.Proofs.YtgfbikknkcaneaaGreat
open Go.RowKit

theorem stateName_any (t : StateD) (w : World) :
    Calls Tryz.prog 145 #[.agg #[.string t.name, t.extract.v, .bool t.sel, .int .i64 t.oh, .int .i64 t.of, t.cases.v, .int .i64 t.dflt]] w fun e w' => e = .returned (.string t.name) ∧ Below w.heap.size w w' := by
  go_enter Tryz.func145, Tryz.ntmps145
  go_wp2
  go_ret
  exact ⟨rfl, (Below.refl _ _).alloc (Nat.le_refl _) _⟩

set_option maxRecDepth 100000 in
set_option maxHeartbeats 1000000 in
theorem names_state (x : L StateD) (w : World) (h : LOk w 7 StateD.cells x) (hm : x.l.length ≤ 100) :
    Calls Tryz.prog 144 #[x.v, .func (.func 145) #[] #[]] w fun e w' =>
      ∃ A c, e = .returned (.slice A x.l.length c) ∧ OwnStrs w' w.heap.size A c (x.l.map StateD.name) ∧ Below w.heap.size w w' := by
  obtain ⟨l, A0, c0⟩ := x
  have HX := Lib.hid h
  clear h
  simp only [L.v] at *
  obtain ⟨i0, hi, hz0, hz1, hz2⟩ := info_parts Tryz.infoString
  go_enter Tryz.func144, Tryz.ntmps144
  go_wp2
  go_loopw [5, 7, 10] (fun o xv iv wr => ∃ (k : Nat) (A : Option Addr) (c : Nat), k ≤ l.length ∧ iv = .int .i64 k ∧ o = .slice A k c ∧ wr.ownsRow w.heap.size 9 1 (.slice A k c) k (strs ((l.take k).map StateD.name)) ∧ Below w.heap.size w wr)
    (fun _ _ i _ => l.length - (intOf i).toNat)
  case atStart => exact ⟨0, none, 0, Nat.zero_le _, rfl, rfl, World.ownsRow_nil _ _ _ _, Below.refl _ _⟩
  case round =>
    obtain ⟨k, A, c, hk, rfl, rfl, hown, hbel⟩ := hrel
    by_cases hlt : k < l.length
    · obtain ⟨g, of, rfl, d0, d1, d2, d3, d4, d5, d6⟩ := StateD.at (HX.out.below hbel (Nat.le_refl _)) hlt
      simp only at d0 d1 d2 d3 d4 d5 d6
      have HT : Hid (l.take (k + 1) = l.take k ++ [l[k]]) := Lib.hid (List.take_succ_eq_append_getElem hlt)
      generalize l[k] = y at *
      have HO := Lib.hid hown
      have HB := Lib.hid hbel
      clear hown hbel
      go_wp2_with fail
      refine (stateName_any y _).mono ?_
      rintro e w1 ⟨rfl, hb1⟩
      have hb2 : Below wr.heap.size wr w1 := (below_alloc (Below.refl _ _) _).trans (hb1.mono (below_alloc (Below.refl _ _) _).size)
      have hown1 := own_below HO.out hb2
      have hbel1 := HB.out.trans (hb2.mono HB.out.size)
      clear hb1 hb2
      go_wp2_with (first
        | (at_builtin; refine wpList_append_own _ rfl _ _ 124 rfl w.heap.size 9 i0 _ 1 16 Tryz.underlying124 hi hz0 hz1 hz2 rfl (by decide) _ _ _ rfl (hown1.alloc _) ⟨w1.heap.size, 0, none⟩ 1 1 [.string y.name] rfl rfl ?c1 ?c2 ?c3 ?c4 ?c5 ?_))
      case c1 => exact one_str _ _ _
      case c2 => intro u hu; simp at hu; subst hu; rfl
      case c3 => unfold maxLen; omega
      case c4 => omega
      case c5 => have := hbel1.size; simp; omega
      intro v' w2 hown2 hgrow _
      have hbel2 : Below w.heap.size w w2 := (hbel1.alloc hbel1.size _).grown hgrow (hbel1.alloc hbel1.size _).size fun j hj => (hown1.lt j hj).1
      obtain ⟨A', c', rfl⟩ : ∃ A' c', v' = .slice A' (k + 1) c' := by
        rcases hown2.2 with ⟨hv, h0⟩ | ⟨g', cap, cur, hv, _, _, _⟩
        · omega
        · exact ⟨_, _, hv⟩
      go_wp2
      go_roundw
      case rel =>
        refine ⟨k + 1, A', c', by omega, by go_num, rfl, ?_, hbel2⟩
        rw [HT.out, List.map_append]
        simpa [strs] using hown2
      case measure => simp [intOf]; omega
    · have hk' : k = l.length := by omega
      subst hk'
      rw [List.take_length] at hown
      have HO := Lib.hid hown
      clear hown
      go_wp2
      go_ret
      exact ⟨A, c, rfl, by simpa [OwnStrs] using HO.out, hbel⟩

/-- the names of the elements of a part -/
def namesOf (p : ProgD) (part : Int) : List ByteArray :=
  if part = 1 then p.headers.l.map HeaderD.name else if part = 2 then p.metadata.l.map FieldD.name else if part = 3 then p.registers.l.map RegD.name
  else if part = 4 then p.actions.l.map ActD.name else if part = 5 then p.tables.l.map TabD.name else if part = 6 then p.states.l.map StateD.name else []
/-- the lists that have names are short -/
structure Short (p : ProgD) : Prop where
  h : p.headers.l.length ≤ 100
  m : p.metadata.l.length ≤ 100
  r : p.registers.l.length ≤ 100
  a : p.actions.l.length ≤ 100
  t : p.tables.l.length ≤ 100
  s : p.states.l.length ≤ 100
theorem namesOf_le {p : ProgD} (h : Short p) (part : Int) : (namesOf p part).length ≤ 100 := by
  unfold namesOf
  repeat' split
  all_goals simp [h.h, h.m, h.r, h.a, h.t, h.s]
/-- a slice of strings, told by its cells -/
def Strs (w : World) (A : Option Addr) (c : Nat) (l : List ByteArray) : Prop := l.length = 0 ∨ ∃ g, A = some ⟨g, 0, none⟩ ∧ g < w.heap.size ∧ l.length ≤ c ∧ ∀ j, j < l.length → w.cell? ⟨g, 0 + j, none⟩ = some (.string (l.getD j ByteArray.empty))
theorem OwnStrs.strs {w : World} {B c : Nat} {A : Option Addr} {l : List ByteArray} (h : OwnStrs w B A c l) : Strs w A c l := by
  by_cases h0 : 0 < l.length
  · obtain ⟨g, e, h1, h2, h3⟩ := h.form h0
    exact .inr ⟨g, e, h1, h2, h3⟩
  · exact .inl (by omega)
theorem Strs.below {w w' : World} {A : Option Addr} {c : Nat} {l : List ByteArray} (h : Strs w A c l) (hb : Below w.heap.size w w') : Strs w' A c l := by
  rcases h with h | ⟨g, e, h1, h2, h3⟩
  · exact .inl h
  · exact .inr ⟨g, e, Nat.lt_of_lt_of_le h1 hb.size, h2, fun j hj => below_cell hb (h3 j hj)⟩

set_option maxRecDepth 100000 in
set_option maxHeartbeats 4000000 in
theorem list_any (p : ProgD) (part : Int) (w : World) (o : ProgOk w p) (hs : Short p) :
    Calls Tryz.prog 89 #[.agg (progCells p), .int .i64 part] w fun e w' =>
      ∃ A c, e = .returned (.slice A (namesOf p part).length c) ∧ Strs w' A c (namesOf p part) ∧ Below w.heap.size w w' := by
  obtain ⟨W, hW, hw, HB, hp⟩ := box1 w (progCells p) 31
  have HW := Lib.hid hw
  have HO := Lib.hid (o.below hw)
  have HS := Lib.hid hs
  clear o hw hs
  by_cases k1 : part = 1
  · have HN := Lib.hid (show namesOf p part = p.headers.l.map HeaderD.name by simp [namesOf, k1])
    subst k1
    go_enter Tryz.func89, Tryz.ntmps89
    go_upto_region 1 with fail
    rw [← hW]
    clear hW
    go_wp2_with fail
    refine (names_header p.headers W HO.out.headers HS.out.h).mono ?_
    rintro e w1 ⟨A, c, rfl, hown, hb1⟩
    have HOwn := Lib.hid hown.strs
    replace HB := below_step HB hb1
    clear hb1 hown
    go_wp2
    go_ret
    refine ⟨A, c, ?_, ?_, below_step HW.out HB⟩
    · rw [HN.out, List.length_map]; rfl
    · rw [HN.out]; exact HOwn.out
  have n1 : (part == 1) = false := beq_eq_false_iff_ne.2 k1
  by_cases k2 : part = 2
  · have HN := Lib.hid (show namesOf p part = p.metadata.l.map FieldD.name by simp [namesOf, k2])
    subst k2
    go_enter Tryz.func89, Tryz.ntmps89
    go_upto_region 1 with fail
    rw [← hW]
    clear hW
    go_wp2_with fail
    refine (names_field p.metadata W HO.out.metadata HS.out.m).mono ?_
    rintro e w1 ⟨A, c, rfl, hown, hb1⟩
    have HOwn := Lib.hid hown.strs
    replace HB := below_step HB hb1
    clear hb1 hown
    go_wp2
    go_ret
    refine ⟨A, c, ?_, ?_, below_step HW.out HB⟩
    · rw [HN.out, List.length_map]; rfl
    · rw [HN.out]; exact HOwn.out
  have n2 : (part == 2) = false := beq_eq_false_iff_ne.2 k2
  by_cases k3 : part = 3
  · have HN := Lib.hid (show namesOf p part = p.registers.l.map RegD.name by simp [namesOf, k3])
    subst k3
    go_enter Tryz.func89, Tryz.ntmps89
    go_upto_region 1 with fail
    rw [← hW]
    clear hW
    go_wp2_with fail
    refine (names_register p.registers W HO.out.registers HS.out.r).mono ?_
    rintro e w1 ⟨A, c, rfl, hown, hb1⟩
    have HOwn := Lib.hid hown.strs
    replace HB := below_step HB hb1
    clear hb1 hown
    go_wp2
    go_ret
    refine ⟨A, c, ?_, ?_, below_step HW.out HB⟩
    · rw [HN.out, List.length_map]; rfl
    · rw [HN.out]; exact HOwn.out
  have n3 : (part == 3) = false := beq_eq_false_iff_ne.2 k3
  by_cases k4 : part = 4
  · have HN := Lib.hid (show namesOf p part = p.actions.l.map ActD.name by simp [namesOf, k4])
    subst k4
    go_enter Tryz.func89, Tryz.ntmps89
    go_upto_region 1 with fail
    rw [← hW]
    clear hW
    go_wp2_with fail
    refine (names_action p.actions W HO.out.actions HS.out.a).mono ?_
    rintro e w1 ⟨A, c, rfl, hown, hb1⟩
    have HOwn := Lib.hid hown.strs
    replace HB := below_step HB hb1
    clear hb1 hown
    go_wp2
    go_ret
    refine ⟨A, c, ?_, ?_, below_step HW.out HB⟩
    · rw [HN.out, List.length_map]; rfl
    · rw [HN.out]; exact HOwn.out
  have n4 : (part == 4) = false := beq_eq_false_iff_ne.2 k4
  by_cases k5 : part = 5
  · have HN := Lib.hid (show namesOf p part = p.tables.l.map TabD.name by simp [namesOf, k5])
    subst k5
    go_enter Tryz.func89, Tryz.ntmps89
    go_upto_region 1 with fail
    rw [← hW]
    clear hW
    go_wp2_with fail
    refine (names_table p.tables W HO.out.tables HS.out.t).mono ?_
    rintro e w1 ⟨A, c, rfl, hown, hb1⟩
    have HOwn := Lib.hid hown.strs
    replace HB := below_step HB hb1
    clear hb1 hown
    go_wp2
    go_ret
    refine ⟨A, c, ?_, ?_, below_step HW.out HB⟩
    · rw [HN.out, List.length_map]; rfl
    · rw [HN.out]; exact HOwn.out
  have n5 : (part == 5) = false := beq_eq_false_iff_ne.2 k5
  by_cases k6 : part = 6
  · have HN := Lib.hid (show namesOf p part = p.states.l.map StateD.name by simp [namesOf, k6])
    subst k6
    go_enter Tryz.func89, Tryz.ntmps89
    go_upto_region 1 with fail
    rw [← hW]
    clear hW
    go_wp2_with fail
    refine (names_state p.states W HO.out.states HS.out.s).mono ?_
    rintro e w1 ⟨A, c, rfl, hown, hb1⟩
    have HOwn := Lib.hid hown.strs
    replace HB := below_step HB hb1
    clear hb1 hown
    go_wp2
    go_ret
    refine ⟨A, c, ?_, ?_, below_step HW.out HB⟩
    · rw [HN.out, List.length_map]; rfl
    · rw [HN.out]; exact HOwn.out
  have n6 : (part == 6) = false := beq_eq_false_iff_ne.2 k6
  have HN := Lib.hid (show namesOf p part = [] by simp [namesOf, k1, k2, k3, k4, k5, k6])
  clear k1 k2 k3 k4 k5 k6
  go_enter Tryz.func89, Tryz.ntmps89
  go_upto_region 1 with fail
  rw [← hW]
  clear hW
  go_wp2
  go_ret
  exact ⟨none, 0, by rw [HN.out]; rfl, .inl (by rw [HN.out]; rfl), below_step HW.out HB⟩

def lookM (l : List ByteArray) (s : ByteArray) : Int × Bool := if Lib.idxOfS l s < 0 then (0, false) else (Lib.idxOfS l s, true)
theorem indexS_any (l : List ByteArray) (A : Option Addr) (c : Nat) (s : ByteArray) (w : World) (h : Strs w A c l) (hl : l.length ≤ 100) :
    Calls Tryz.prog 88 #[.slice A l.length c, .string s] w fun e w' => e = .returned (.int .i64 (Lib.idxOfS l s)) ∧ w = w' := by
  rcases h with h | ⟨g, rfl, hg, hc, hcell⟩
  · obtain rfl := List.length_eq_zero_iff.1 h
    refine (Tryz.slices_Index_string_empty A c s w).mono ?_
    rintro e w' ⟨rfl, rfl⟩
    exact ⟨rfl, rfl⟩
  · refine (Tryz.slices_Index_string g 0 l.length c l s w (Nat.le_refl _) (by omega) hcell).mono ?_
    rintro e w' ⟨rfl, rfl⟩
    exact ⟨by rw [List.take_length], rfl⟩

set_option maxRecDepth 100000 in
set_option maxHeartbeats 4000000 in
theorem lookup_any (p : ProgD) (part : Int) (s : ByteArray) (w : World) (o : ProgOk w p) (hs : Short p) :
    Calls Tryz.prog 23 #[.agg (progCells p), .int .i64 part, .string s] w fun e w' =>
      e = .returned (.tuple #[.int .i64 (lookM (namesOf p part) s).1, .bool (lookM (namesOf p part) s).2]) ∧ Below w.heap.size w w' := by
  obtain ⟨W, hW, hw, HB, hp⟩ := box1 w (progCells p) 31
  have HW := Lib.hid hw
  have HO := Lib.hid (o.below hw)
  have HS := Lib.hid hs
  clear o hw hs
  go_enter Tryz.func23, Tryz.ntmps23
  go_upto_region 1 with fail
  rw [← hW]
  clear hW
  go_wp2_with fail
  refine (list_any p part W HO.out HS.out).mono ?_
  rintro e w1 ⟨A, c, rfl, hst, hb1⟩
  replace HB := below_step HB hb1
  clear hb1 hp
  have HL := Lib.hid (namesOf_le HS.out part)
  have HST := Lib.hid hst
  clear hst
  go_wp2_with fail
  refine (indexS_any (namesOf p part) A c s _ HST.out HL.out).mono ?_
  rintro e w' ⟨rfl, rfl⟩
  have HR : Hid (lookM (namesOf p part) s = if Lib.idxOfS (namesOf p part) s < 0 then (0, false) else (Lib.idxOfS (namesOf p part) s, true)) := Lib.hid rfl
  generalize Lib.idxOfS (namesOf p part) s = i at *
  by_cases hi : i < 0
  · have HR2 := Lib.hid (HR.out.trans (if_pos hi))
    have h2 : (0 ≤ i) = False := by simp; omega
    have h3 : max i 0 = 0 := by omega
    clear HR
    go_wp2
    refine bodyPost_ret (v := .tuple #[.int .i64 0, .bool false]) (by simp [results, Tryz.results23, go_sem]) rfl ⟨by rw [HR2.out], below_step HW.out HB⟩
  · have HR2 := Lib.hid (HR.out.trans (if_neg hi))
    have h2 : 0 ≤ i := by omega
    have h3 : max i 0 = i := by omega
    clear HR
    go_wp2
    refine bodyPost_ret (v := .tuple #[.int .i64 i, .bool true]) (by simp [results, Tryz.results23, go_sem]) rfl ⟨by rw [HR2.out], below_step HW.out HB⟩
end Go.Proofs.YtgfbikknkcaneaaGreat
namespace Go.Proofs.YtgfbikknkcaneaaGreat
open Go.RowKit

def partNames (p : ProgD) : Nat → List ByteArray
  | 1 => p.headers.l.map HeaderD.name
  | 2 => p.metadata.l.map FieldD.name
  | 3 => p.registers.l.map RegD.name
  | 4 => p.actions.l.map ActD.name
  | 5 => p.tables.l.map TabD.name
  | 6 => p.states.l.map StateD.name
  | _ => []
/-- what the reference has collected after its j-th loop -/
def accN (p : ProgD) (part : Int) : Nat → List ByteArray
  | 0 => []
  | n + 1 => accN p part n ++ if part = ((n + 1 : Nat) : Int) then partNames p (n + 1) else []
theorem accN_all (p : ProgD) (part : Int) : accN p part 6 = namesOf p part := by
  unfold namesOf
  simp only [accN, partNames]
  by_cases k1 : part = 1
  · subst k1; simp
  by_cases k2 : part = 2
  · subst k2; simp
  by_cases k3 : part = 3
  · subst k3; simp
  by_cases k4 : part = 4
  · subst k4; simp
  by_cases k5 : part = 5
  · subst k5; simp
  by_cases k6 : part = 6
  · subst k6; simp
  simp [k1, k2, k3, k4, k5, k6]
theorem accN_le {p : ProgD} (h : Short p) (part : Int) : (accN p part 1).length ≤ 100 ∧ (accN p part 2).length ≤ 200 ∧ (accN p part 3).length ≤ 300 ∧ (accN p part 4).length ≤ 400 ∧ (accN p part 5).length ≤ 500 := by
  obtain ⟨h1, h2, h3, h4, h5, h6⟩ := h
  have e1 : (accN p part 1).length ≤ 100 := by rw [accN, List.length_append]; split <;> simp [accN, partNames] <;> omega
  have e2 : (accN p part 2).length ≤ 200 := by rw [accN, List.length_append]; split <;> simp [partNames] <;> omega
  have e3 : (accN p part 3).length ≤ 300 := by rw [accN, List.length_append]; split <;> simp [partNames] <;> omega
  have e4 : (accN p part 4).length ≤ 400 := by rw [accN, List.length_append]; split <;> simp [partNames] <;> omega
  have e5 : (accN p part 5).length ≤ 500 := by rw [accN, List.length_append]; split <;> simp [partNames] <;> omega
  exact ⟨e1, e2, e3, e4, e5⟩

theorem HeaderD.at1 {w : World} {x : L HeaderD} (h : LOk w 2 HeaderD.cells x) {i : Nat} (hi : i < x.l.length) :
    ∃ g o, x.A = some ⟨g, o, none⟩ ∧ w.cell? ⟨g, o + i * 2, none⟩ = some (.string x.l[i].name) := by
  obtain ⟨g, o, e, h⟩ := HeaderD.at h hi
  exact ⟨g, o, e, h.1⟩
theorem FieldD.at1 {w : World} {x : L FieldD} (h : LOk w 2 FieldD.cells x) {i : Nat} (hi : i < x.l.length) :
    ∃ g o, x.A = some ⟨g, o, none⟩ ∧ w.cell? ⟨g, o + i * 2, none⟩ = some (.string x.l[i].name) := by
  obtain ⟨g, o, e, h⟩ := FieldD.at h hi
  exact ⟨g, o, e, h.1⟩
theorem RegD.at1 {w : World} {x : L RegD} (h : LOk w 3 RegD.cells x) {i : Nat} (hi : i < x.l.length) :
    ∃ g o, x.A = some ⟨g, o, none⟩ ∧ w.cell? ⟨g, o + i * 3, none⟩ = some (.string x.l[i].name) := by
  obtain ⟨g, o, e, h⟩ := RegD.at h hi
  exact ⟨g, o, e, h.1⟩
theorem ActD.at1 {w : World} {x : L ActD} (h : LOk w 3 ActD.cells x) {i : Nat} (hi : i < x.l.length) :
    ∃ g o, x.A = some ⟨g, o, none⟩ ∧ w.cell? ⟨g, o + i * 3, none⟩ = some (.string x.l[i].name) := by
  obtain ⟨g, o, e, h⟩ := ActD.at h hi
  exact ⟨g, o, e, h.1⟩
theorem TabD.at1 {w : World} {x : L TabD} (h : LOk w 6 TabD.cells x) {i : Nat} (hi : i < x.l.length) :
    ∃ g o, x.A = some ⟨g, o, none⟩ ∧ w.cell? ⟨g, o + i * 6, none⟩ = some (.string x.l[i].name) := by
  obtain ⟨g, o, e, h⟩ := TabD.at h hi
  exact ⟨g, o, e, h.1⟩
theorem StateD.at1 {w : World} {x : L StateD} (h : LOk w 7 StateD.cells x) {i : Nat} (hi : i < x.l.length) :
    ∃ g o, x.A = some ⟨g, o, none⟩ ∧ w.cell? ⟨g, o + i * 7, none⟩ = some (.string x.l[i].name) := by
  obtain ⟨g, o, e, h⟩ := StateD.at h hi
  exact ⟨g, o, e, h.1⟩
/-- what a loop holds of its list -/
def RN (W : World) (l : List ByteArray) (o : Value) (wr : World) : Prop := ∃ A c, o = .slice A l.length c ∧ wr.ownsRow W.heap.size 9 1 (.slice A l.length c) l.length (strs l) ∧ Below W.heap.size W wr

set_option maxRecDepth 100000 in
set_option maxHeartbeats 8000000 in
theorem rnames_any (p : ProgD) (part : Int) (w : World) (o : ProgOk w p) (hs : Short p) :
    Calls Tryz.prog 90 #[.agg (progCells p), .int .i64 part] w fun e w' =>
      ∃ A c, e = .returned (.slice A (namesOf p part).length c) ∧ Strs w' A c (namesOf p part) ∧ Below w.heap.size w w' := by
  obtain ⟨W, hW, hw, HB, hp⟩ := box1 w (progCells p) 31
  have HW := Lib.hid hw
  have HO := Lib.hid (o.below hw)
  have HS := Lib.hid hs
  have HALL := Lib.hid (accN_all p part)
  have HLE := Lib.hid (accN_le hs part)
  obtain ⟨i0, hi, hz0, hz1, hz2⟩ := info_parts Tryz.infoString
  clear o hw hs
  go_enter Tryz.func90, Tryz.ntmps90
  go_upto_region 1 with fail
  rw [← hW]
  clear hW
  have HR0 : Hid (RN W (accN p part 0) (.slice none 0 0) W) := Lib.hid ⟨none, 0, rfl, World.ownsRow_nil W W.heap.size 9 1, Below.refl _ _⟩
  go_upto_block 0 with fail
  go_cut [5, 6] from 12 to 131 (fun o _ wr => RN W (accN p part 1) o wr)
  case first =>
    clear HB
    have HL0 := Lib.hid (show (accN p part 0).length ≤ 0 by first | exact Nat.zero_le _ | exact HLE.out.1)
    obtain ⟨A00, c00, e00, o00, b00⟩ := HR0.out
    have HA0 := Lib.hid o00
    have HB0 := Lib.hid b00
    clear o00 b00
    go_wp2
    go_loopw [5, 6] (fun o iv wr => ∃ k : Nat, k ≤ p.headers.l.length ∧ iv = .int .i64 k ∧ (part = 1 ∨ k = 0) ∧ ∃ L1, Hid (L1 = accN p part 0 ++ (p.headers.l.take k).map HeaderD.name) ∧ RN W L1 o wr) (fun _ i _ => p.headers.l.length - (intOf i).toNat)
    case atStart => exact ⟨0, Nat.zero_le _, rfl, .inr rfl, _, Lib.hid (by simp), HR0.out⟩
    case round =>
      obtain ⟨k, hk, rfl, hz, L1, HL1, A, c, rfl, hown, HB⟩ := hrel
      have HO1 := Lib.hid hown
      clear hown
      by_cases hlt : k < p.headers.l.length
      · by_cases hj : part = 1
        · subst hj
          obtain ⟨g, of, hA, d0⟩ := HeaderD.at1 (HO.out.headers.below HB (Nat.le_refl _)) hlt
          have hp1 := hp wr HB
          simp only [progCells, hA] at hp1
          have HT : Hid (p.headers.l.take (k + 1) = p.headers.l.take k ++ [p.headers.l[k]]) := Lib.hid (List.take_succ_eq_append_getElem hlt)
          generalize p.headers.l[k] = y at *
          have HBH := Lib.hid HB
          have HLEN := Lib.hid (show L1.length = (accN p 1 0).length + k by rw [HL1.out, List.length_append, List.length_map, List.length_take]; omega)
          have hkS := HS.out.h
          have hl0 := HL0.out
          go_wp2_with (first
            | (at_builtin; refine wpList_append_own _ rfl _ _ 124 rfl W.heap.size 9 i0 _ 1 16 Tryz.underlying124 hi hz0 hz1 hz2 rfl (by decide) _ _ _ rfl (HO1.out.alloc _) ⟨wr.heap.size, 0, none⟩ 1 1 [.string y.name] rfl rfl ?c1a ?c1b ?c1c ?c1d ?c1e ?_))
          case c1b => first | rfl | (intro u hu; simp at hu; subst hu; rfl)
          case c1c => unfold maxLen; have := HLEN.out; omega
          case c1d => have := HLEN.out; omega
          case c1e => have := HBH.out.size; simp; omega
          intro v' w2 hown2 hgrow _
          have hbel2 : Below W.heap.size W w2 := (HBH.out.alloc HBH.out.size _).grown hgrow (HBH.out.alloc HBH.out.size _).size fun j hj => (HO1.out.lt j hj).1
          obtain ⟨A', c', rfl⟩ : ∃ A' c', v' = .slice A' (L1.length + 1) c' := by
            rcases hown2.2 with ⟨hv, h0⟩ | ⟨g', cap, cur, hv, _, _, _⟩
            · omega
            · exact ⟨_, _, hv⟩
          have HO2 := Lib.hid hown2
          clear hown2 hp1
          go_wp2
          go_roundw
          case rel =>
            refine ⟨k + 1, by omega, by go_num, .inl (by simp), L1 ++ [y.name], Lib.hid (by rw [HL1.out, HT.out]; simp), A', c', ?_, ?_, hbel2⟩
            · rw [List.length_append]; rfl
            · have := HO2.out
              simpa [strs] using this
          case measure => simp [intOf]; omega
        · have hk0 : k = 0 := by rcases hz with h | h; exact absurd h hj; exact h
          subst hk0
          have hjb : (part == 1) = false := beq_eq_false_iff_ne.2 hj
          have hp1 := hp wr HB
          have HF : Hid (L1 = accN p part 1) := Lib.hid (by rw [HL1.out]; simp [accN, hj])
          clear hj
          go_wp2
          go_meet
          case rel => exact ⟨A, c, by rw [← HF.out], by rw [← HF.out]; exact HO1.out, HB⟩
      · have hk1 : k = p.headers.l.length := by omega
        have HF : Hid (L1 = accN p part 1) := Lib.hid (by
          rw [HL1.out]
          rcases hz with h | h
          · subst h; rw [hk1, List.take_length]; simp [accN, partNames]
          · rw [h] at hk1
            have : p.headers.l = [] := List.length_eq_zero_iff.1 hk1.symm
            simp [accN, partNames, this])
        have hp1 := hp wr HB
        go_wp2
        go_meet
        case rel => exact ⟨A, c, by rw [← HF.out], by rw [← HF.out]; exact HO1.out, HB⟩
  case rest =>
  have HR0 := Lib.hid hcut
  clear HB
  clear hcut
  obtain ⟨A, c, rfl, _, HB⟩ := HR0.out
  go_upto_block 2 with fail
  go_cut [5, 7] from 12 to 131 (fun o _ wr => RN W (accN p part 2) o wr)
  case first =>
    clear HB
    have HL0 := Lib.hid (show (accN p part 1).length ≤ 100 by first | exact Nat.zero_le _ | exact HLE.out.1)
    obtain ⟨A00, c00, e00, o00, b00⟩ := HR0.out
    have HA0 := Lib.hid o00
    have HB0 := Lib.hid b00
    clear o00 b00
    go_wp2
    go_loopw [5, 7] (fun o iv wr => ∃ k : Nat, k ≤ p.metadata.l.length ∧ iv = .int .i64 k ∧ (part = 2 ∨ k = 0) ∧ ∃ L1, Hid (L1 = accN p part 1 ++ (p.metadata.l.take k).map FieldD.name) ∧ RN W L1 o wr) (fun _ i _ => p.metadata.l.length - (intOf i).toNat)
    case atStart => exact ⟨0, Nat.zero_le _, rfl, .inr rfl, _, Lib.hid (by simp), HR0.out⟩
    case round =>
      obtain ⟨k, hk, rfl, hz, L1, HL1, A, c, rfl, hown, HB⟩ := hrel
      have HO1 := Lib.hid hown
      clear hown
      by_cases hlt : k < p.metadata.l.length
      · by_cases hj : part = 2
        · subst hj
          obtain ⟨g, of, hA, d0⟩ := FieldD.at1 (HO.out.metadata.below HB (Nat.le_refl _)) hlt
          have hp1 := hp wr HB
          simp only [progCells, hA] at hp1
          have HT : Hid (p.metadata.l.take (k + 1) = p.metadata.l.take k ++ [p.metadata.l[k]]) := Lib.hid (List.take_succ_eq_append_getElem hlt)
          generalize p.metadata.l[k] = y at *
          have HBH := Lib.hid HB
          have HLEN := Lib.hid (show L1.length = (accN p 2 1).length + k by rw [HL1.out, List.length_append, List.length_map, List.length_take]; omega)
          have hkS := HS.out.m
          have hl0 := HL0.out
          go_wp2_with (first
            | (at_builtin; refine wpList_append_own _ rfl _ _ 124 rfl W.heap.size 9 i0 _ 1 16 Tryz.underlying124 hi hz0 hz1 hz2 rfl (by decide) _ _ _ rfl (HO1.out.alloc _) ⟨wr.heap.size, 0, none⟩ 1 1 [.string y.name] rfl rfl ?c2a ?c2b ?c2c ?c2d ?c2e ?_))
          case c2b => first | rfl | (intro u hu; simp at hu; subst hu; rfl)
          case c2c => unfold maxLen; have := HLEN.out; omega
          case c2d => have := HLEN.out; omega
          case c2e => have := HBH.out.size; simp; omega
          intro v' w2 hown2 hgrow _
          have hbel2 : Below W.heap.size W w2 := (HBH.out.alloc HBH.out.size _).grown hgrow (HBH.out.alloc HBH.out.size _).size fun j hj => (HO1.out.lt j hj).1
          obtain ⟨A', c', rfl⟩ : ∃ A' c', v' = .slice A' (L1.length + 1) c' := by
            rcases hown2.2 with ⟨hv, h0⟩ | ⟨g', cap, cur, hv, _, _, _⟩
            · omega
            · exact ⟨_, _, hv⟩
          have HO2 := Lib.hid hown2
          clear hown2 hp1
          go_wp2
          go_roundw
          case rel =>
            refine ⟨k + 1, by omega, by go_num, .inl (by simp), L1 ++ [y.name], Lib.hid (by rw [HL1.out, HT.out]; simp), A', c', ?_, ?_, hbel2⟩
            · rw [List.length_append]; rfl
            · have := HO2.out
              simpa [strs] using this
          case measure => simp [intOf]; omega
        · have hk0 : k = 0 := by rcases hz with h | h; exact absurd h hj; exact h
          subst hk0
          have hjb : (part == 2) = false := beq_eq_false_iff_ne.2 hj
          have hp1 := hp wr HB
          have HF : Hid (L1 = accN p part 2) := Lib.hid (by rw [HL1.out]; simp [accN, hj])
          clear hj
          go_wp2
          go_meet
          case rel => exact ⟨A, c, by rw [← HF.out], by rw [← HF.out]; exact HO1.out, HB⟩
      · have hk1 : k = p.metadata.l.length := by omega
        have HF : Hid (L1 = accN p part 2) := Lib.hid (by
          rw [HL1.out]
          rcases hz with h | h
          · subst h; rw [hk1, List.take_length]; simp [accN, partNames]
          · rw [h] at hk1
            have : p.metadata.l = [] := List.length_eq_zero_iff.1 hk1.symm
            simp [accN, partNames, this])
        have hp1 := hp wr HB
        go_wp2
        go_meet
        case rel => exact ⟨A, c, by rw [← HF.out], by rw [← HF.out]; exact HO1.out, HB⟩
  case rest =>
  have HR0 := Lib.hid hcut
  clear HB
  clear hcut
  obtain ⟨A, c, rfl, _, HB⟩ := HR0.out
  go_upto_block 4 with fail
  go_cut [5, 8] from 12 to 131 (fun o _ wr => RN W (accN p part 3) o wr)
  case first =>
    clear HB
    have HL0 := Lib.hid (show (accN p part 2).length ≤ 200 by first | exact Nat.zero_le _ | exact HLE.out.2.1)
    obtain ⟨A00, c00, e00, o00, b00⟩ := HR0.out
    have HA0 := Lib.hid o00
    have HB0 := Lib.hid b00
    clear o00 b00
    go_wp2
    go_loopw [5, 8] (fun o iv wr => ∃ k : Nat, k ≤ p.registers.l.length ∧ iv = .int .i64 k ∧ (part = 3 ∨ k = 0) ∧ ∃ L1, Hid (L1 = accN p part 2 ++ (p.registers.l.take k).map RegD.name) ∧ RN W L1 o wr) (fun _ i _ => p.registers.l.length - (intOf i).toNat)
    case atStart => exact ⟨0, Nat.zero_le _, rfl, .inr rfl, _, Lib.hid (by simp), HR0.out⟩
    case round =>
      obtain ⟨k, hk, rfl, hz, L1, HL1, A, c, rfl, hown, HB⟩ := hrel
      have HO1 := Lib.hid hown
      clear hown
      by_cases hlt : k < p.registers.l.length
      · by_cases hj : part = 3
        · subst hj
          obtain ⟨g, of, hA, d0⟩ := RegD.at1 (HO.out.registers.below HB (Nat.le_refl _)) hlt
          have hp1 := hp wr HB
          simp only [progCells, hA] at hp1
          have HT : Hid (p.registers.l.take (k + 1) = p.registers.l.take k ++ [p.registers.l[k]]) := Lib.hid (List.take_succ_eq_append_getElem hlt)
          generalize p.registers.l[k] = y at *
          have HBH := Lib.hid HB
          have HLEN := Lib.hid (show L1.length = (accN p 3 2).length + k by rw [HL1.out, List.length_append, List.length_map, List.length_take]; omega)
          have hkS := HS.out.r
          have hl0 := HL0.out
          go_wp2_with (first
            | (at_builtin; refine wpList_append_own _ rfl _ _ 124 rfl W.heap.size 9 i0 _ 1 16 Tryz.underlying124 hi hz0 hz1 hz2 rfl (by decide) _ _ _ rfl (HO1.out.alloc _) ⟨wr.heap.size, 0, none⟩ 1 1 [.string y.name] rfl rfl ?c3a ?c3b ?c3c ?c3d ?c3e ?_))
          case c3b => first | rfl | (intro u hu; simp at hu; subst hu; rfl)
          case c3c => unfold maxLen; have := HLEN.out; omega
          case c3d => have := HLEN.out; omega
          case c3e => have := HBH.out.size; simp; omega
          intro v' w2 hown2 hgrow _
          have hbel2 : Below W.heap.size W w2 := (HBH.out.alloc HBH.out.size _).grown hgrow (HBH.out.alloc HBH.out.size _).size fun j hj => (HO1.out.lt j hj).1
          obtain ⟨A', c', rfl⟩ : ∃ A' c', v' = .slice A' (L1.length + 1) c' := by
            rcases hown2.2 with ⟨hv, h0⟩ | ⟨g', cap, cur, hv, _, _, _⟩
            · omega
            · exact ⟨_, _, hv⟩
          have HO2 := Lib.hid hown2
          clear hown2 hp1
          go_wp2
          go_roundw
          case rel =>
            refine ⟨k + 1, by omega, by go_num, .inl (by simp), L1 ++ [y.name], Lib.hid (by rw [HL1.out, HT.out]; simp), A', c', ?_, ?_, hbel2⟩
            · rw [List.length_append]; rfl
            · have := HO2.out
              simpa [strs] using this
          case measure => simp [intOf]; omega
        · have hk0 : k = 0 := by rcases hz with h | h; exact absurd h hj; exact h
          subst hk0
          have hjb : (part == 3) = false := beq_eq_false_iff_ne.2 hj
          have hp1 := hp wr HB
          have HF : Hid (L1 = accN p part 3) := Lib.hid (by rw [HL1.out]; simp [accN, hj])
          clear hj
          go_wp2
          go_meet
          case rel => exact ⟨A, c, by rw [← HF.out], by rw [← HF.out]; exact HO1.out, HB⟩
      · have hk1 : k = p.registers.l.length := by omega
        have HF : Hid (L1 = accN p part 3) := Lib.hid (by
          rw [HL1.out]
          rcases hz with h | h
          · subst h; rw [hk1, List.take_length]; simp [accN, partNames]
          · rw [h] at hk1
            have : p.registers.l = [] := List.length_eq_zero_iff.1 hk1.symm
            simp [accN, partNames, this])
        have hp1 := hp wr HB
        go_wp2
        go_meet
        case rel => exact ⟨A, c, by rw [← HF.out], by rw [← HF.out]; exact HO1.out, HB⟩
  case rest =>
  have HR0 := Lib.hid hcut
  clear HB
  clear hcut
  obtain ⟨A, c, rfl, _, HB⟩ := HR0.out
  go_upto_block 6 with fail
  go_cut [5, 9] from 12 to 131 (fun o _ wr => RN W (accN p part 4) o wr)
  case first =>
    clear HB
    have HL0 := Lib.hid (show (accN p part 3).length ≤ 300 by first | exact Nat.zero_le _ | exact HLE.out.2.2.1)
    obtain ⟨A00, c00, e00, o00, b00⟩ := HR0.out
    have HA0 := Lib.hid o00
    have HB0 := Lib.hid b00
    clear o00 b00
    go_wp2
    go_loopw [5, 9] (fun o iv wr => ∃ k : Nat, k ≤ p.actions.l.length ∧ iv = .int .i64 k ∧ (part = 4 ∨ k = 0) ∧ ∃ L1, Hid (L1 = accN p part 3 ++ (p.actions.l.take k).map ActD.name) ∧ RN W L1 o wr) (fun _ i _ => p.actions.l.length - (intOf i).toNat)
    case atStart => exact ⟨0, Nat.zero_le _, rfl, .inr rfl, _, Lib.hid (by simp), HR0.out⟩
    case round =>
      obtain ⟨k, hk, rfl, hz, L1, HL1, A, c, rfl, hown, HB⟩ := hrel
      have HO1 := Lib.hid hown
      clear hown
      by_cases hlt : k < p.actions.l.length
      · by_cases hj : part = 4
        · subst hj
          obtain ⟨g, of, hA, d0⟩ := ActD.at1 (HO.out.actions.below HB (Nat.le_refl _)) hlt
          have hp1 := hp wr HB
          simp only [progCells, hA] at hp1
          have HT : Hid (p.actions.l.take (k + 1) = p.actions.l.take k ++ [p.actions.l[k]]) := Lib.hid (List.take_succ_eq_append_getElem hlt)
          generalize p.actions.l[k] = y at *
          have HBH := Lib.hid HB
          have HLEN := Lib.hid (show L1.length = (accN p 4 3).length + k by rw [HL1.out, List.length_append, List.length_map, List.length_take]; omega)
          have hkS := HS.out.a
          have hl0 := HL0.out
          go_wp2_with (first
            | (at_builtin; refine wpList_append_own _ rfl _ _ 124 rfl W.heap.size 9 i0 _ 1 16 Tryz.underlying124 hi hz0 hz1 hz2 rfl (by decide) _ _ _ rfl (HO1.out.alloc _) ⟨wr.heap.size, 0, none⟩ 1 1 [.string y.name] rfl rfl ?c4a ?c4b ?c4c ?c4d ?c4e ?_))
          case c4b => first | rfl | (intro u hu; simp at hu; subst hu; rfl)
          case c4c => unfold maxLen; have := HLEN.out; omega
          case c4d => have := HLEN.out; omega
          case c4e => have := HBH.out.size; simp; omega
          intro v' w2 hown2 hgrow _
          have hbel2 : Below W.heap.size W w2 := (HBH.out.alloc HBH.out.size _).grown hgrow (HBH.out.alloc HBH.out.size _).size fun j hj => (HO1.out.lt j hj).1
          obtain ⟨A', c', rfl⟩ : ∃ A' c', v' = .slice A' (L1.length + 1) c' := by
            rcases hown2.2 with ⟨hv, h0⟩ | ⟨g', cap, cur, hv, _, _, _⟩
            · omega
            · exact ⟨_, _, hv⟩
          have HO2 := Lib.hid hown2
          clear hown2 hp1
          go_wp2
          go_roundw
          case rel =>
            refine ⟨k + 1, by omega, by go_num, .inl (by simp), L1 ++ [y.name], Lib.hid (by rw [HL1.out, HT.out]; simp), A', c', ?_, ?_, hbel2⟩
            · rw [List.length_append]; rfl
            · have := HO2.out
              simpa [strs] using this
          case measure => simp [intOf]; omega
        · have hk0 : k = 0 := by rcases hz with h | h; exact absurd h hj; exact h
          subst hk0
          have hjb : (part == 4) = false := beq_eq_false_iff_ne.2 hj
          have hp1 := hp wr HB
          have HF : Hid (L1 = accN p part 4) := Lib.hid (by rw [HL1.out]; simp [accN, hj])
          clear hj
          go_wp2
          go_meet
          case rel => exact ⟨A, c, by rw [← HF.out], by rw [← HF.out]; exact HO1.out, HB⟩
      · have hk1 : k = p.actions.l.length := by omega
        have HF : Hid (L1 = accN p part 4) := Lib.hid (by
          rw [HL1.out]
          rcases hz with h | h
          · subst h; rw [hk1, List.take_length]; simp [accN, partNames]
          · rw [h] at hk1
            have : p.actions.l = [] := List.length_eq_zero_iff.1 hk1.symm
            simp [accN, partNames, this])
        have hp1 := hp wr HB
        go_wp2
        go_meet
        case rel => exact ⟨A, c, by rw [← HF.out], by rw [← HF.out]; exact HO1.out, HB⟩
  case rest =>
  have HR0 := Lib.hid hcut
  clear HB
  clear hcut
  obtain ⟨A, c, rfl, _, HB⟩ := HR0.out
  go_upto_block 8 with fail
  go_cut [5, 10] from 12 to 131 (fun o _ wr => RN W (accN p part 5) o wr)
  case first =>
    clear HB
    have HL0 := Lib.hid (show (accN p part 4).length ≤ 400 by first | exact Nat.zero_le _ | exact HLE.out.2.2.2.1)
    obtain ⟨A00, c00, e00, o00, b00⟩ := HR0.out
    have HA0 := Lib.hid o00
    have HB0 := Lib.hid b00
    clear o00 b00
    go_wp2
    go_loopw [5, 10] (fun o iv wr => ∃ k : Nat, k ≤ p.tables.l.length ∧ iv = .int .i64 k ∧ (part = 5 ∨ k = 0) ∧ ∃ L1, Hid (L1 = accN p part 4 ++ (p.tables.l.take k).map TabD.name) ∧ RN W L1 o wr) (fun _ i _ => p.tables.l.length - (intOf i).toNat)
    case atStart => exact ⟨0, Nat.zero_le _, rfl, .inr rfl, _, Lib.hid (by simp), HR0.out⟩
    case round =>
      obtain ⟨k, hk, rfl, hz, L1, HL1, A, c, rfl, hown, HB⟩ := hrel
      have HO1 := Lib.hid hown
      clear hown
      by_cases hlt : k < p.tables.l.length
      · by_cases hj : part = 5
        · subst hj
          obtain ⟨g, of, hA, d0⟩ := TabD.at1 (HO.out.tables.below HB (Nat.le_refl _)) hlt
          have hp1 := hp wr HB
          simp only [progCells, hA] at hp1
          have HT : Hid (p.tables.l.take (k + 1) = p.tables.l.take k ++ [p.tables.l[k]]) := Lib.hid (List.take_succ_eq_append_getElem hlt)
          generalize p.tables.l[k] = y at *
          have HBH := Lib.hid HB
          have HLEN := Lib.hid (show L1.length = (accN p 5 4).length + k by rw [HL1.out, List.length_append, List.length_map, List.length_take]; omega)
          have hkS := HS.out.t
          have hl0 := HL0.out
          go_wp2_with (first
            | (at_builtin; refine wpList_append_own _ rfl _ _ 124 rfl W.heap.size 9 i0 _ 1 16 Tryz.underlying124 hi hz0 hz1 hz2 rfl (by decide) _ _ _ rfl (HO1.out.alloc _) ⟨wr.heap.size, 0, none⟩ 1 1 [.string y.name] rfl rfl ?c5a ?c5b ?c5c ?c5d ?c5e ?_))
          case c5b => first | rfl | (intro u hu; simp at hu; subst hu; rfl)
          case c5c => unfold maxLen; have := HLEN.out; omega
          case c5d => have := HLEN.out; omega
          case c5e => have := HBH.out.size; simp; omega
          intro v' w2 hown2 hgrow _
          have hbel2 : Below W.heap.size W w2 := (HBH.out.alloc HBH.out.size _).grown hgrow (HBH.out.alloc HBH.out.size _).size fun j hj => (HO1.out.lt j hj).1
          obtain ⟨A', c', rfl⟩ : ∃ A' c', v' = .slice A' (L1.length + 1) c' := by
            rcases hown2.2 with ⟨hv, h0⟩ | ⟨g', cap, cur, hv, _, _, _⟩
            · omega
            · exact ⟨_, _, hv⟩
          have HO2 := Lib.hid hown2
          clear hown2 hp1
          go_wp2
          go_roundw
          case rel =>
            refine ⟨k + 1, by omega, by go_num, .inl (by simp), L1 ++ [y.name], Lib.hid (by rw [HL1.out, HT.out]; simp), A', c', ?_, ?_, hbel2⟩
            · rw [List.length_append]; rfl
            · have := HO2.out
              simpa [strs] using this
          case measure => simp [intOf]; omega
        · have hk0 : k = 0 := by rcases hz with h | h; exact absurd h hj; exact h
          subst hk0
          have hjb : (part == 5) = false := beq_eq_false_iff_ne.2 hj
          have hp1 := hp wr HB
          have HF : Hid (L1 = accN p part 5) := Lib.hid (by rw [HL1.out]; simp [accN, hj])
          clear hj
          go_wp2
          go_meet
          case rel => exact ⟨A, c, by rw [← HF.out], by rw [← HF.out]; exact HO1.out, HB⟩
      · have hk1 : k = p.tables.l.length := by omega
        have HF : Hid (L1 = accN p part 5) := Lib.hid (by
          rw [HL1.out]
          rcases hz with h | h
          · subst h; rw [hk1, List.take_length]; simp [accN, partNames]
          · rw [h] at hk1
            have : p.tables.l = [] := List.length_eq_zero_iff.1 hk1.symm
            simp [accN, partNames, this])
        have hp1 := hp wr HB
        go_wp2
        go_meet
        case rel => exact ⟨A, c, by rw [← HF.out], by rw [← HF.out]; exact HO1.out, HB⟩
  case rest =>
  have HR0 := Lib.hid hcut
  clear HB
  clear hcut
  obtain ⟨A, c, rfl, _, HB⟩ := HR0.out
  go_upto_block 10 with fail
  go_cut [5, 11] from 12 to 131 (fun o _ wr => RN W (accN p part 6) o wr)
  case first =>
    clear HB
    have HL0 := Lib.hid (show (accN p part 5).length ≤ 500 by first | exact Nat.zero_le _ | exact HLE.out.2.2.2.2)
    obtain ⟨A00, c00, e00, o00, b00⟩ := HR0.out
    have HA0 := Lib.hid o00
    have HB0 := Lib.hid b00
    clear o00 b00
    go_wp2
    go_loopw [5, 11] (fun o iv wr => ∃ k : Nat, k ≤ p.states.l.length ∧ iv = .int .i64 k ∧ (part = 6 ∨ k = 0) ∧ ∃ L1, Hid (L1 = accN p part 5 ++ (p.states.l.take k).map StateD.name) ∧ RN W L1 o wr) (fun _ i _ => p.states.l.length - (intOf i).toNat)
    case atStart => exact ⟨0, Nat.zero_le _, rfl, .inr rfl, _, Lib.hid (by simp), HR0.out⟩
    case round =>
      obtain ⟨k, hk, rfl, hz, L1, HL1, A, c, rfl, hown, HB⟩ := hrel
      have HO1 := Lib.hid hown
      clear hown
      by_cases hlt : k < p.states.l.length
      · by_cases hj : part = 6
        · subst hj
          obtain ⟨g, of, hA, d0⟩ := StateD.at1 (HO.out.states.below HB (Nat.le_refl _)) hlt
          have hp1 := hp wr HB
          simp only [progCells, hA] at hp1
          have HT : Hid (p.states.l.take (k + 1) = p.states.l.take k ++ [p.states.l[k]]) := Lib.hid (List.take_succ_eq_append_getElem hlt)
          generalize p.states.l[k] = y at *
          have HBH := Lib.hid HB
          have HLEN := Lib.hid (show L1.length = (accN p 6 5).length + k by rw [HL1.out, List.length_append, List.length_map, List.length_take]; omega)
          have hkS := HS.out.s
          have hl0 := HL0.out
          go_wp2_with (first
            | (at_builtin; refine wpList_append_own _ rfl _ _ 124 rfl W.heap.size 9 i0 _ 1 16 Tryz.underlying124 hi hz0 hz1 hz2 rfl (by decide) _ _ _ rfl (HO1.out.alloc _) ⟨wr.heap.size, 0, none⟩ 1 1 [.string y.name] rfl rfl ?c6a ?c6b ?c6c ?c6d ?c6e ?_))
          case c6b => first | rfl | (intro u hu; simp at hu; subst hu; rfl)
          case c6c => unfold maxLen; have := HLEN.out; omega
          case c6d => have := HLEN.out; omega
          case c6e => have := HBH.out.size; simp; omega
          intro v' w2 hown2 hgrow _
          have hbel2 : Below W.heap.size W w2 := (HBH.out.alloc HBH.out.size _).grown hgrow (HBH.out.alloc HBH.out.size _).size fun j hj => (HO1.out.lt j hj).1
          obtain ⟨A', c', rfl⟩ : ∃ A' c', v' = .slice A' (L1.length + 1) c' := by
            rcases hown2.2 with ⟨hv, h0⟩ | ⟨g', cap, cur, hv, _, _, _⟩
            · omega
            · exact ⟨_, _, hv⟩
          have HO2 := Lib.hid hown2
          clear hown2 hp1
          go_wp2
          go_roundw
          case rel =>
            refine ⟨k + 1, by omega, by go_num, .inl (by simp), L1 ++ [y.name], Lib.hid (by rw [HL1.out, HT.out]; simp), A', c', ?_, ?_, hbel2⟩
            · rw [List.length_append]; rfl
            · have := HO2.out
              simpa [strs] using this
          case measure => simp [intOf]; omega
        · have hk0 : k = 0 := by rcases hz with h | h; exact absurd h hj; exact h
          subst hk0
          have hjb : (part == 6) = false := beq_eq_false_iff_ne.2 hj
          have hp1 := hp wr HB
          have HF : Hid (L1 = accN p part 6) := Lib.hid (by rw [HL1.out]; simp [accN, hj])
          clear hj
          go_wp2
          go_meet
          case rel => exact ⟨A, c, by rw [← HF.out], by rw [← HF.out]; exact HO1.out, HB⟩
      · have hk1 : k = p.states.l.length := by omega
        have HF : Hid (L1 = accN p part 6) := Lib.hid (by
          rw [HL1.out]
          rcases hz with h | h
          · subst h; rw [hk1, List.take_length]; simp [accN, partNames]
          · rw [h] at hk1
            have : p.states.l = [] := List.length_eq_zero_iff.1 hk1.symm
            simp [accN, partNames, this])
        have hp1 := hp wr HB
        go_wp2
        go_meet
        case rel => exact ⟨A, c, by rw [← HF.out], by rw [← HF.out]; exact HO1.out, HB⟩
  case rest =>
  have HR0 := Lib.hid hcut
  clear HB
  clear hcut
  obtain ⟨A, c, rfl, _, HB⟩ := HR0.out
  go_wp2
  go_ret
  exact ⟨A, c, by rw [← HALL.out]; rfl, by rw [← HALL.out]; exact OwnStrs.strs (by obtain ⟨A2, c2, e2, h2, _⟩ := HR0.out; cases e2; exact h2), below_step HW.out HB⟩
end Go.Proofs.YtgfbikknkcaneaaGreat
namespace Go.Proofs.YtgfbikknkcaneaaGreat
open Go.RowKit

set_option maxRecDepth 100000 in
set_option maxHeartbeats 4000000 in
theorem rlookup_any (p : ProgD) (part : Int) (s : ByteArray) (w : World) (o : ProgOk w p) (hs : Short p) :
    Calls Tryz.prog 24 #[.agg (progCells p), .int .i64 part, .string s] w fun e w' =>
      e = .returned (.tuple #[.int .i64 (lookM (namesOf p part) s).1, .bool (lookM (namesOf p part) s).2]) ∧ Below w.heap.size w w' := by
  obtain ⟨W, hW, hw, HB, hp⟩ := box1 w (progCells p) 31
  have HW := Lib.hid hw
  have HO := Lib.hid (o.below hw)
  have HS := Lib.hid hs
  clear o hw hs
  go_enter Tryz.func24, Tryz.ntmps24
  go_upto_region 1 with fail
  rw [← hW]
  clear hW
  go_wp2_with fail
  refine (rnames_any p part W HO.out HS.out).mono ?_
  rintro e w1 ⟨A, c, rfl, hst, hb1⟩
  replace HB := below_step HB hb1
  clear hb1 hp
  have HL := Lib.hid (namesOf_le HS.out part)
  have HR : Hid (lookM (namesOf p part) s = if Lib.idxOfS (namesOf p part) s < 0 then (0, false) else (Lib.idxOfS (namesOf p part) s, true)) := Lib.hid rfl
  obtain ⟨l, hl⟩ : ∃ l, l = namesOf p part := ⟨_, rfl⟩
  rw [← hl] at hst HL HR
  rw [← hl]
  have HNL := Lib.hid hl.symm
  clear hl
  have HST := Lib.hid hst
  have HB1 := Lib.hid HB
  clear hst HB
  go_wp2
  go_loopw [9] (fun iv wr => ∃ k : Nat, k ≤ l.length ∧ iv = .int .i64 k ∧ (∀ j, j < k → l.getD j ByteArray.empty ≠ s) ∧ wr = w1) (fun i _ => l.length - (intOf i).toNat)
  case atStart => exact ⟨0, Nat.zero_le _, rfl, fun j h => absurd h (Nat.not_lt_zero _), rfl⟩
  case round =>
    obtain ⟨k, hk, rfl, hpre, rfl⟩ := hrel
    have HPre := Lib.hid hpre
    clear hpre
    by_cases hlt : k < l.length
    · rcases HST.out with h0 | ⟨g, rfl, hg, hc, hcell⟩
      · omega
      have d0 := hcell k hlt
      have hl1 := HL.out
      have HN : Hid (l.getD k ByteArray.empty = l[k]) := Lib.hid (by simp [hlt])
      rw [HN.out] at d0
      generalize l[k] = y at *
      rw [Nat.zero_add] at d0
      clear hcell
      by_cases hy : y = s
      · have hy1 := toList_true hy
        have HR2 : Hid (lookM l s = ((k : Int), true)) := Lib.hid (by
          have e := Lib.idxOfS_hit l l.length k s hlt (Nat.le_refl _) (HN.out.trans hy) HPre.out
          rw [List.take_length] at e
          rw [HR.out, e, if_neg (by omega)])
        clear hy HR HST
        go_wp2
        refine bodyPost_ret (v := .tuple #[.int .i64 k, .bool true]) (by simp [results, Tryz.results24, go_sem]) rfl ⟨by rw [HNL.out, HR2.out], below_step HW.out HB1.out⟩
      · have hy1 := toList_false hy
        have HY := Lib.hid hy
        clear hy
        go_wp2
        go_roundw
        case rel => exact ⟨k + 1, by omega, by go_num, fun j hj => by
          rcases Nat.lt_or_ge j k with h | h
          · exact HPre.out j h
          · have : j = k := by omega
            subst this; rw [HN.out]; exact HY.out, by trivial⟩
        case measure => simp [intOf]; omega
    · have e : k = l.length := by omega
      have HR2 : Hid (lookM l s = (0, false)) := Lib.hid (by
        have e2 := Lib.idxOfS_miss l l.length s (by rw [← e]; exact HPre.out)
        rw [List.take_length] at e2
        rw [HR.out, e2, if_pos (by omega)])
      clear HR HST
      go_wp2
      refine bodyPost_ret (v := .tuple #[.int .i64 0, .bool false]) (by simp [results, Tryz.results24, go_sem]) rfl ⟨by rw [HNL.out, HR2.out], below_step HW.out HB1.out⟩
end Go.Proofs.YtgfbikknkcaneaaGreat
namespace Go.Proofs.YtgfbikknkcaneaaGreat
open Go.RowKit

/-- the lists of control nodes are no longer than memory -/
inductive CtlCaps : List CtlD → Prop
  | nil : CtlCaps []
  | cons {k t : Int} {cond : L NodeD} {th el : List CtlD} {tA eA : Option Addr} {tc ec : Nat} {l : List CtlD} : th.length ≤ 4398046511104 → el.length ≤ 4398046511104 → CtlCaps th → CtlCaps el → CtlCaps l → CtlCaps (.mk k t cond th el tA eA tc ec :: l)
theorem CtlCaps.mem {x : CtlD} : ∀ {l : List CtlD}, CtlCaps l → x ∈ l → x.th.l.length ≤ 4398046511104 ∧ x.el.l.length ≤ 4398046511104 ∧ CtlCaps x.th.l ∧ CtlCaps x.el.l
  | _ :: l, .cons h1 h2 h3 h4 h5, hm => by
    rcases List.mem_cons.1 hm with rfl | hm
    · exact ⟨h1, h2, h3, h4⟩
    · exact h5.mem hm
/-- the loop of the count -/
def goN (f : CtlD → Nat) : List CtlD → Nat → Nat
  | [], n => n
  | x :: l, n => if 100 ≤ n then n else if 40 < x.cond.l.length then 100 else goN f l (n + f x)
def nodesM : Nat → List CtlD → Nat
  | 0, l => if l.length = 0 ∨ 100 ≤ l.length then l.length else 100
  | d + 1, l => goN (fun x => nodesM d x.th.l + nodesM d x.el.l) l l.length
theorem goN_le {f : CtlD → Nat} {B : Nat} : ∀ {l : List CtlD} {n : Nat}, (∀ x ∈ l, f x ≤ B) → 100 ≤ B → n ≤ 100 + B ∨ n ≤ 4398046511104 → goN f l n ≤ B + 4398046511204
  | [], n, _, _, hn => by rw [goN]; omega
  | x :: l, n, hf, hB, hn => by
    rw [goN]
    by_cases h1 : 100 ≤ n
    · rw [if_pos h1]; omega
    · rw [if_neg h1]
      by_cases h2 : 40 < x.cond.l.length
      · rw [if_pos h2]; omega
      · rw [if_neg h2]
        have h3 := hf x (List.mem_cons_self ..)
        exact goN_le (fun y hy => hf y (List.mem_cons_of_mem _ hy)) hB (.inl (by omega))
theorem nodes_le : ∀ (d : Nat) (l : List CtlD), l.length ≤ 4398046511104 → CtlCaps l → nodesM d l + 4398046511304 ≤ 2 ^ (d + 1) * 4398046511304
  | 0, l, h, _ => by rw [nodesM]; split <;> omega
  | d + 1, l, h, hc => by
    rw [nodesM]
    have h1 : ∀ x ∈ l, nodesM d x.th.l + nodesM d x.el.l + 2 * 4398046511304 ≤ 2 ^ (d + 2) * 4398046511304 := by
      intro x hx
      obtain ⟨a, b, c, e⟩ := hc.mem hx
      have := nodes_le d x.th.l a c
      have := nodes_le d x.el.l b e
      have : 2 ^ (d + 2) = 2 * 2 ^ (d + 1) := by rw [Nat.pow_succ _ (d + 1), Nat.mul_comm]
      rw [this, Nat.mul_assoc]
      omega
    have hp : 2 ^ 2 ≤ 2 ^ (d + 2) := Nat.pow_le_pow_right (by decide) (by omega)
    have h2 := goN_le (f := fun x => nodesM d x.th.l + nodesM d x.el.l) (B := 2 ^ (d + 2) * 4398046511304 - 2 * 4398046511304) (l := l) (n := l.length) (fun x hx => by have := h1 x hx; omega) (by omega) (.inr h)
    show _ ≤ 2 ^ (d + 2) * 4398046511304
    omega
theorem nodes_top (d : Nat) (hd : d ≤ 10) (l : List CtlD) (h : l.length ≤ 4398046511104) (hc : CtlCaps l) : nodesM d l ≤ 10000000000000000 := by
  have h1 := nodes_le d l h hc
  have : 2 ^ (d + 1) ≤ 2 ^ 11 := Nat.pow_le_pow_right (by decide) (by omega)
  have : 2 ^ (d + 1) * 4398046511304 ≤ 2 ^ 11 * 4398046511304 := Nat.mul_le_mul_right _ this
  omega
/-- a small count counts all, and no condition is long -/
theorem goN_small {f : CtlD → Nat} : ∀ {l : List CtlD} {n : Nat}, goN f l n ≤ 60 → n ≤ 60 ∧ (l.map f).sum + n = goN f l n ∧ ∀ x ∈ l, x.cond.l.length ≤ 40
  | [], n, h => by simp [goN] at h ⊢; exact h
  | x :: l, n, h => by
    rw [goN] at h ⊢
    by_cases h1 : 100 ≤ n
    · rw [if_pos h1] at h; omega
    · rw [if_neg h1] at h ⊢
      by_cases h2 : 40 < x.cond.l.length
      · rw [if_pos h2] at h; omega
      · rw [if_neg h2] at h ⊢
        obtain ⟨a, b, c⟩ := goN_small h
        refine ⟨by omega, by rw [← b, List.map_cons, List.sum_cons]; omega, fun y hy => ?_⟩
        rcases List.mem_cons.1 hy with rfl | hy
        · omega
        · exact c y hy
theorem pres_sum : ∀ (l : List CtlD), (presM l).length = (l.map fun x => (preM x).length).sum
  | [] => rfl
  | x :: l => by rw [presM, List.length_append, pres_sum l]; rfl
theorem sum_le {f g : CtlD → Nat} : ∀ {l : List CtlD}, (∀ x ∈ l, f x ≤ g x) → (l.map f).sum ≤ (l.map g).sum
  | [], _ => Nat.le_refl _
  | x :: l, h => by
    simp only [List.map_cons, List.sum_cons]
    have := h x (List.mem_cons_self ..)
    have := sum_le (l := l) fun y hy => h y (List.mem_cons_of_mem _ hy)
    omega
theorem sum_mem {f : CtlD → Nat} : ∀ {l : List CtlD} {x : CtlD}, x ∈ l → f x ≤ (l.map f).sum
  | y :: l, x, h => by
    simp only [List.map_cons, List.sum_cons]
    rcases List.mem_cons.1 h with rfl | h
    · omega
    · have := sum_mem (f := f) h; omega
theorem sum_succ {f : CtlD → Nat} : ∀ {l : List CtlD}, (l.map fun x => 1 + f x).sum = (l.map f).sum + l.length
  | [] => rfl
  | x :: l => by simp only [List.map_cons, List.sum_cons, List.length_cons, sum_succ (l := l)]; omega
theorem nodes_small : ∀ (d : Nat) (l : List CtlD), nodesM d l ≤ 60 → (presM l).length ≤ nodesM d l ∧ ∀ x ∈ presM l, x.cond.l.length ≤ 40
  | 0, l, h => by
    rw [nodesM] at h ⊢
    split at h
    · have : l = [] := List.eq_nil_of_length_eq_zero (by omega)
      subst this
      simp [presM]
    · omega
  | d + 1, l, h => by
    rw [nodesM] at h ⊢
    obtain ⟨a, b, c⟩ := goN_small h
    have hx : ∀ x ∈ l, nodesM d x.th.l ≤ 60 ∧ nodesM d x.el.l ≤ 60 := by
      intro x hx
      have := sum_mem (f := fun x => nodesM d x.th.l + nodesM d x.el.l) hx
      omega
    constructor
    · rw [← b, pres_sum, ← sum_succ]
      refine sum_le fun x hm => ?_
      have h1 := nodes_small d x.th.l (hx x hm).1
      have h2 := nodes_small d x.el.l (hx x hm).2
      rw [preM_eq, List.length_cons, List.length_append]
      omega
    · intro y hy
      have hg : ∀ (l2 : List CtlD), (∀ x ∈ l2, x ∈ l) → y ∈ presM l2 → y.cond.l.length ≤ 40 := by
        intro l2
        induction l2 with
        | nil => intro _ h; simp [presM] at h
        | cons x l2 ih =>
          intro hs hy
          rw [presM, List.mem_append, preM_eq] at hy
          have hxm := hs x (List.mem_cons_self ..)
          rcases hy with hy | hy
          · rcases List.mem_cons.1 hy with rfl | hy
            · exact c _ hxm
            · rcases List.mem_append.1 hy with hy | hy
              · exact (nodes_small d x.th.l (hx x hxm).1).2 y hy
              · exact (nodes_small d x.el.l (hx x hxm).2).2 y hy
          · exact ih (fun z hz => hs z (List.mem_cons_of_mem _ hz)) hy
      exact hg l (fun _ h => h) hy

set_option maxRecDepth 100000 in
set_option maxHeartbeats 8000000 in
theorem nodes_any : ∀ (d : Nat) (D : Int) (c : L CtlD) (w : World), D = d → d ≤ 10 → c.l.length ≤ 4398046511104 → CtlCaps c.l → LOk w 5 CtlD.cells c → CtlsOk w c.l →
    Calls Tryz.prog 29 #[.slice c.A c.l.length c.c, .int .i64 D] w fun e w' => e = .returned (.int .i64 (nodesM d c.l : Int)) ∧ Below w.heap.size w w'
  | 0, D, ⟨cl, cA, cc⟩, w, hD, _, hl, _, hc, _ => by
    have hd0 : D = 0 := by omega
    subst hd0
    simp only at hl ⊢
    clear hD
    by_cases h0 : cl.length = 0
    · have HE : Hid (nodesM 0 cl = 0) := Lib.hid (by rw [nodesM, if_pos (.inl h0)]; exact h0)
      have h2 : ¬ ((0 : Int) < (cl.length : Int)) := by omega
      have h3 : (cl.length : Int) = 0 := by omega
      clear hc h0
      go_enter Tryz.func29, Tryz.ntmps29
      go_wp2
      refine wp_loop_rounds 1 ?_
      rw [rounds_succ]
      go_wp2
      go_ret
      exact ⟨by rw [HE.out]; rfl, Below.refl _ _⟩
    have h2 : ((0 : Int) < (cl.length : Int)) := by omega
    by_cases h1 : 100 ≤ cl.length
    · have HE : Hid (nodesM 0 cl = cl.length) := Lib.hid (by rw [nodesM, if_pos (.inr h1)])
      have h3 : ¬ ((cl.length : Int) < 100) := by omega
      clear hc h0 h1
      go_enter Tryz.func29, Tryz.ntmps29
      go_wp2
      refine wp_loop_rounds 1 ?_
      rw [rounds_succ]
      go_wp2
      go_ret
      exact ⟨by rw [HE.out]; rfl, Below.refl _ _⟩
    · have HE : Hid (nodesM 0 cl = 100) := Lib.hid (by rw [nodesM, if_neg (by omega)])
      have h3 : ((cl.length : Int) < 100) := by omega
      clear hc h0 h1
      go_enter Tryz.func29, Tryz.ntmps29
      go_wp2
      refine wp_loop_rounds 1 ?_
      rw [rounds_succ]
      go_wp2
      go_ret
      exact ⟨by rw [HE.out]; rfl, Below.refl _ _⟩
  | d + 1, D, ⟨cl, cA, cc⟩, w, hD, hd, hl, hcap, hc, hcs => by
    have IH := Lib.hid (nodes_any d)
    have HC := Lib.hid hc
    have HCS := Lib.hid hcs
    have HCap := Lib.hid hcap
    have HD := Lib.hid (show IntKind.i64.wrap (D - 1) = (d : Int) by rw [IntWalk.i64_in _ (by omega)]; omega)
    have HDle := Lib.hid (show d ≤ 10 by omega)
    have hD1 : 1 ≤ D := by omega
    have hD2 : D ≤ 10 := by omega
    have hDb : (D == 0) = false := by rw [beq_eq_false_iff_ne]; omega
    simp only at hl HCS HCap ⊢
    obtain ⟨f, hf⟩ : ∃ f : CtlD → Nat, f = fun x => nodesM d x.th.l + nodesM d x.el.l := ⟨_, rfl⟩
    have HF := Lib.hid hf
    have HE : Hid (goN f cl cl.length = nodesM (d + 1) cl) := Lib.hid (by rw [hf]; rfl)
    clear hc hcs hcap hD hd hf
    generalize nodesM (d + 1) cl = R at *
    go_enter Tryz.func29, Tryz.ntmps29
    go_wp2
    go_loopw [5, 6] (fun nv iv wr => ∃ k n : Nat, k ≤ cl.length ∧ iv = .int .i64 k ∧ nv = .int .i64 n ∧ n ≤ 30000000000000000 ∧ Hid (goN f (cl.drop k) n = R) ∧ Below w.heap.size w wr) (fun _ i _ => cl.length - (intOf i).toNat)
    case atStart => exact ⟨0, cl.length, Nat.zero_le _, rfl, rfl, by omega, HE, Below.refl _ _⟩
    case round =>
      obtain ⟨k, n, hk, rfl, rfl, hn, HG, HB⟩ := hrel
      by_cases hlt : k < cl.length
      · by_cases hn1 : n < 100
        · obtain ⟨g0, of0, hA, hall⟩ := CtlD.atA (HC.out.below HB (Nat.le_refl _)) hlt
          simp only at hA
          subst hA
          have HX : Hid (CtlOk w cl[k]) := Lib.hid (ctls_mem HCS.out (List.getElem_mem hlt))
          have HXc := Lib.hid (HCap.out.mem (List.getElem_mem hlt))
          have HS : Hid (goN f (cl.drop k) n = if 40 < cl[k].cond.l.length then 100 else goN f (cl.drop (k + 1)) (n + f cl[k])) := Lib.hid (by
            rw [List.drop_eq_getElem_cons hlt, goN, if_neg (by omega)])
          have HTop : Hid (nodesM d cl[k].th.l ≤ 10000000000000000 ∧ nodesM d cl[k].el.l ≤ 10000000000000000) := Lib.hid ⟨nodes_top d HDle.out _ HXc.out.1 HXc.out.2.2.1, nodes_top d HDle.out _ HXc.out.2.1 HXc.out.2.2.2⟩
          have HFx : Hid (f cl[k] = nodesM d cl[k].th.l + nodesM d cl[k].el.l) := Lib.hid (by rw [HF.out])
          generalize cl[k] = x at *
          have HXt : Hid (LOk w 5 CtlD.cells x.th ∧ CtlsOk w x.th.l) := Lib.hid ⟨(ctl_parts HX.out).2.1, (ctl_parts HX.out).2.2.2.1⟩
          have HXe : Hid (LOk w 5 CtlD.cells x.el ∧ CtlsOk w x.el.l) := Lib.hid ⟨(ctl_parts HX.out).2.2.1, (ctl_parts HX.out).2.2.2.2⟩
          clear HX
          have hh := hall wr (Below.refl _ _)
          obtain ⟨_, _, d2, _, _⟩ := hh
          by_cases h40 : 40 < x.cond.l.length
          · have h40' : (40 : Int) < (x.cond.l.length : Int) := by omega
            have HR := Lib.hid ((HS.out.trans (if_pos h40)).symm.trans HG.out)
            clear hall h40
            go_wp2
            go_ret
            exact ⟨by rw [← HR.out]; rfl, HB⟩
          have h40' : ¬ (40 : Int) < (x.cond.l.length : Int) := by omega
          have HR := Lib.hid ((HS.out.trans (if_neg h40)).symm.trans HG.out)
          rw [HFx.out] at HR
          have hb3 : ∀ w', Below wr.heap.size wr w' → w'.cell? ⟨g0, of0 + k * 5 + 3, none⟩ = some (.slice x.th.A x.th.l.length x.th.c) ∧ w'.cell? ⟨g0, of0 + k * 5 + 4, none⟩ = some (.slice x.el.A x.el.l.length x.el.c) :=
            fun w' h => ⟨(hall w' h).2.2.2.1, (hall w' h).2.2.2.2⟩
          clear hall h40 HFx
          generalize x.cond = xcd at *
          generalize x.th = xt at *
          generalize x.el = xe at *
          obtain ⟨tl, tA, tc⟩ := xt
          obtain ⟨el, eA, ec⟩ := xe
          simp only at hb3 HXt HXe HXc HTop HR
          have HCt : Hid (∀ w', Below wr.heap.size wr w' → Calls Tryz.prog 29 #[.slice tA tl.length tc, .int .i64 (IntKind.i64.wrap (D - 1))] w' fun e w2 => e = .returned (.int .i64 (nodesM d tl : Int)) ∧ Below w'.heap.size w' w2) :=
            Lib.hid (fun w' h => IH.out (IntKind.i64.wrap (D - 1)) ⟨tl, tA, tc⟩ w' HD.out HDle.out HXc.out.1 HXc.out.2.2.1 (HXt.out.1.below (below_step HB h) (Nat.le_refl _)) (CtlsOk.below (below_step HB h) HXt.out.2))
          have HCe : Hid (∀ w', Below wr.heap.size wr w' → Calls Tryz.prog 29 #[.slice eA el.length ec, .int .i64 (IntKind.i64.wrap (D - 1))] w' fun e w2 => e = .returned (.int .i64 (nodesM d el : Int)) ∧ Below w'.heap.size w' w2) :=
            Lib.hid (fun w' h => IH.out (IntKind.i64.wrap (D - 1)) ⟨el, eA, ec⟩ w' HD.out HDle.out HXc.out.2.1 HXc.out.2.2.2 (HXe.out.1.below (below_step HB h) (Nat.le_refl _)) (CtlsOk.below (below_step HB h) HXe.out.2))
          have t1 := HTop.out.1
          have t2 := HTop.out.2
          generalize nodesM d tl = a at *
          generalize nodesM d el = b at *
          have H0 := Lib.hid (Below.refl wr.heap.size wr)
          have HBw := Lib.hid HB
          clear HB HXt HXe HXc HTop
          go_upto_region 7 with fail
          clear d2
          go_region_held3 (fun w' => Below wr.heap.size wr w') (first | exact H0.out | exact below_drew H0.out | (exact below_step (by assumption) (by assumption)) | assumption)
            (first | (go_at_call 29; with_reducible (refine (HCt.out _ (by assumption)).mono ?_); rintro e w1 ⟨rfl, hb1⟩)
                   | (go_at_call 29; with_reducible (refine (HCe.out _ (by assumption)).mono ?_); rintro e w1 ⟨rfl, hb1⟩))
          have HB5 : Hid (Below wr.heap.size wr _) := Lib.hid (by assumption)
          go_wp2
          go_roundw
          case rel => exact ⟨k + 1, n + (a + b), by omega, by go_num, by (rw [IntWalk.i64_in ((n : Int) + (a : Int)) (by omega), IntWalk.i64_in ((n : Int) + (a : Int) + (b : Int)) (by omega)]; congr 1; omega), by omega, HR, below_step HBw.out HB5.out⟩
          case measure => simp [intOf]; omega
        · have HR : Hid (R = n) := Lib.hid (by rw [← HG.out, List.drop_eq_getElem_cons hlt, goN, if_pos (by omega)])
          have hn2 : ¬ ((n : Int) < 100) := by omega
          clear hn1
          go_wp2
          go_ret
          exact ⟨by rw [HR.out]; rfl, HB⟩
      · have HR : Hid (R = n) := Lib.hid (by rw [← HG.out, List.drop_eq_nil_of_le (by omega), goN])
        go_wp2
        go_ret
        exact ⟨by rw [HR.out]; rfl, HB⟩
end Go.Proofs.YtgfbikknkcaneaaGreat
