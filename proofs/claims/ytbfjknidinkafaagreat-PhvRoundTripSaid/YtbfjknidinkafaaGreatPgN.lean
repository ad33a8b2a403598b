/- Walks of program.names at each of its types. The list's length: at most 100. -/
import Derived.Test.YtbfjknidinkafaaGreatPgA
namespace Go.Proofs.YtbfjknidinkafaaGreat
open Go.RowKit

theorem Tryz.infoString : (Tryz.prog.info? 9).map (fun i => (i.zero, i.size, i.bytes)) = some (some (.string ⟨#[]⟩), 1, 16) := by kernel_rfl
def strs (l : List ByteArray) : List Value := l.map Value.string
theorem strs_len (l : List ByteArray) : (strs l).length = l.length := by simp [strs]
/-- a slice of strings of the call's own -/
def OwnStrs (w' : World) (B : Nat) (A : Option Addr) (c : Nat) (l : List ByteArray) : Prop := w'.ownsRow B 9 1 (.slice A l.length c) l.length (strs l)
theorem one_str (w : World) (s : ByteArray) (t : TypeId) : ∀ j v, [Value.string s][j]? = some v → (w.alloc (.cells #[.string s] t)).cell? ((⟨w.heap.size, 0, none⟩ : Addr).add j) = some v := by
  intro j v hj
  match j, hj with
  | 0, hj => simp at hj; subst hj; simp [Addr.add]

set_option maxRecDepth 100000 in
set_option maxHeartbeats 1000000 in
theorem names_header (x : L HeaderD) (w : World) (h : LOk w 2 HeaderD.cells x) (hm : x.l.length ≤ 100) :
    Calls Tryz.prog 119 #[x.v, .func (.func 120) #[] #[]] w fun e w' =>
      ∃ A c, e = .returned (.slice A x.l.length c) ∧ OwnStrs w' w.heap.size A c (x.l.map HeaderD.name) ∧ Below w.heap.size w w' := by
  obtain ⟨l, A0, c0⟩ := x
  have HX := Lib.hid h
  clear h
  simp only [L.v] at *
  obtain ⟨i0, hi, hz0, hz1, hz2⟩ := info_parts Tryz.infoString
  go_enter Tryz.func119, Tryz.ntmps119
  go_wp2
  go_loopw [5, 7, 10] (fun o xv iv wr => ∃ (k : Nat) (A : Option Addr) (c : Nat), k ≤ l.length ∧ iv = .int .i64 k ∧ o = .slice A k c ∧ wr.ownsRow w.heap.size 9 1 (.slice A k c) k (strs ((l.take k).map HeaderD.name)) ∧ Below w.heap.size w wr)
    (fun _ _ i _ => l.length - (intOf i).toNat)
  case atStart => exact ⟨0, none, 0, Nat.zero_le _, rfl, rfl, World.ownsRow_nil _ _ _ _, Below.refl _ _⟩
  case round =>
    obtain ⟨k, A, c, hk, rfl, rfl, hown, hbel⟩ := hrel
    by_cases hlt : k < l.length
    · obtain ⟨g, of, rfl, d0, d1⟩ := HeaderD.at (HX.out.below hbel (Nat.le_refl _)) hlt
      simp only at d0 d1
      have HT : Hid (l.take (k + 1) = l.take k ++ [l[k]]) := Lib.hid (List.take_succ_eq_append_getElem hlt)
      generalize l[k] = y at *
      have HO := Lib.hid hown
      have HB := Lib.hid hbel
      clear hown hbel
      go_wp2_with fail
      refine (headerName_any y _).mono ?_
      rintro e w1 ⟨rfl, hb1⟩
      have hb2 : Below wr.heap.size wr w1 := (below_alloc (Below.refl _ _) _).trans (hb1.mono (below_alloc (Below.refl _ _) _).size)
      have hown1 := own_below HO.out hb2
      have hbel1 := HB.out.trans (hb2.mono HB.out.size)
      clear hb1 hb2
      go_wp2_with (first
        | (at_builtin; refine wpList_append_own _ rfl _ _ 172 rfl w.heap.size 9 i0 _ 1 16 Tryz.underlying172 hi hz0 hz1 hz2 rfl (by decide) _ _ _ rfl (hown1.alloc _) ⟨w1.heap.size, 0, none⟩ 1 1 [.string y.name] rfl rfl ?c1 ?c2 ?c3 ?c4 ?c5 ?_))
      case c1 => exact one_str _ _ _
      case c2 => intro u hu; simp at hu; subst hu; rfl
      case c3 => unfold maxLen; omega
      case c4 => omega
      case c5 => have := hbel1.size; simp; omega
      intro v' w2 hown2 hgrow _
      have hbel2 : Below w.heap.size w w2 := (hbel1.alloc hbel1.size _).grown hgrow (hbel1.alloc hbel1.size _).size fun j hj => (hown1.lt j hj).1
      obtain ⟨A', c', rfl⟩ : ∃ A' c', v' = .slice A' (k + 1) c' := by
        rcases hown2.2 with ⟨hv, h0⟩ | ⟨g', cap, cur, hv, _, _, _⟩
        · omega
        · exact ⟨_, _, hv⟩
      go_wp2
      go_roundw
      case rel =>
        refine ⟨k + 1, A', c', by omega, by go_num, rfl, ?_, hbel2⟩
        rw [HT.out, List.map_append]
        simpa [strs] using hown2
      case measure => simp [intOf]; omega
    · have hk' : k = l.length := by omega
      subst hk'
      rw [List.take_length] at hown
      have HO := Lib.hid hown
      clear hown
      go_wp2
      go_ret
      exact ⟨A, c, rfl, by simpa [OwnStrs] using HO.out, hbel⟩

set_option maxRecDepth 100000 in
set_option maxHeartbeats 1000000 in
theorem names_field (x : L FieldD) (w : World) (h : LOk w 2 FieldD.cells x) (hm : x.l.length ≤ 100) :
    Calls Tryz.prog 123 #[x.v, .func (.func 124) #[] #[]] w fun e w' =>
      ∃ A c, e = .returned (.slice A x.l.length c) ∧ OwnStrs w' w.heap.size A c (x.l.map FieldD.name) ∧ Below w.heap.size w w' := by
  obtain ⟨l, A0, c0⟩ := x
  have HX := Lib.hid h
  clear h
  simp only [L.v] at *
  obtain ⟨i0, hi, hz0, hz1, hz2⟩ := info_parts Tryz.infoString
  go_enter Tryz.func123, Tryz.ntmps123
  go_wp2
  go_loopw [5, 7, 10] (fun o xv iv wr => ∃ (k : Nat) (A : Option Addr) (c : Nat), k ≤ l.length ∧ iv = .int .i64 k ∧ o = .slice A k c ∧ wr.ownsRow w.heap.size 9 1 (.slice A k c) k (strs ((l.take k).map FieldD.name)) ∧ Below w.heap.size w wr)
    (fun _ _ i _ => l.length - (intOf i).toNat)
  case atStart => exact ⟨0, none, 0, Nat.zero_le _, rfl, rfl, World.ownsRow_nil _ _ _ _, Below.refl _ _⟩
  case round =>
    obtain ⟨k, A, c, hk, rfl, rfl, hown, hbel⟩ := hrel
    by_cases hlt : k < l.length
    · obtain ⟨g, of, rfl, d0, d1⟩ := FieldD.at (HX.out.below hbel (Nat.le_refl _)) hlt
      simp only at d0 d1
      have HT : Hid (l.take (k + 1) = l.take k ++ [l[k]]) := Lib.hid (List.take_succ_eq_append_getElem hlt)
      generalize l[k] = y at *
      have HO := Lib.hid hown
      have HB := Lib.hid hbel
      clear hown hbel
      go_wp2_with fail
      refine (fieldName_any y _).mono ?_
      rintro e w1 ⟨rfl, hb1⟩
      have hb2 : Below wr.heap.size wr w1 := (below_alloc (Below.refl _ _) _).trans (hb1.mono (below_alloc (Below.refl _ _) _).size)
      have hown1 := own_below HO.out hb2
      have hbel1 := HB.out.trans (hb2.mono HB.out.size)
      clear hb1 hb2
      go_wp2_with (first
        | (at_builtin; refine wpList_append_own _ rfl _ _ 172 rfl w.heap.size 9 i0 _ 1 16 Tryz.underlying172 hi hz0 hz1 hz2 rfl (by decide) _ _ _ rfl (hown1.alloc _) ⟨w1.heap.size, 0, none⟩ 1 1 [.string y.name] rfl rfl ?c1 ?c2 ?c3 ?c4 ?c5 ?_))
      case c1 => exact one_str _ _ _
      case c2 => intro u hu; simp at hu; subst hu; rfl
      case c3 => unfold maxLen; omega
      case c4 => omega
      case c5 => have := hbel1.size; simp; omega
      intro v' w2 hown2 hgrow _
      have hbel2 : Below w.heap.size w w2 := (hbel1.alloc hbel1.size _).grown hgrow (hbel1.alloc hbel1.size _).size fun j hj => (hown1.lt j hj).1
      obtain ⟨A', c', rfl⟩ : ∃ A' c', v' = .slice A' (k + 1) c' := by
        rcases hown2.2 with ⟨hv, h0⟩ | ⟨g', cap, cur, hv, _, _, _⟩
        · omega
        · exact ⟨_, _, hv⟩
      go_wp2
      go_roundw
      case rel =>
        refine ⟨k + 1, A', c', by omega, by go_num, rfl, ?_, hbel2⟩
        rw [HT.out, List.map_append]
        simpa [strs] using hown2
      case measure => simp [intOf]; omega
    · have hk' : k = l.length := by omega
      subst hk'
      rw [List.take_length] at hown
      have HO := Lib.hid hown
      clear hown
      go_wp2
      go_ret
      exact ⟨A, c, rfl, by simpa [OwnStrs] using HO.out, hbel⟩

set_option maxRecDepth 100000 in
set_option maxHeartbeats 1000000 in
theorem names_register (x : L RegD) (w : World) (h : LOk w 3 RegD.cells x) (hm : x.l.length ≤ 100) :
    Calls Tryz.prog 126 #[x.v, .func (.func 127) #[] #[]] w fun e w' =>
      ∃ A c, e = .returned (.slice A x.l.length c) ∧ OwnStrs w' w.heap.size A c (x.l.map RegD.name) ∧ Below w.heap.size w w' := by
  obtain ⟨l, A0, c0⟩ := x
  have HX := Lib.hid h
  clear h
  simp only [L.v] at *
  obtain ⟨i0, hi, hz0, hz1, hz2⟩ := info_parts Tryz.infoString
  go_enter Tryz.func126, Tryz.ntmps126
  go_wp2
  go_loopw [5, 7, 10] (fun o xv iv wr => ∃ (k : Nat) (A : Option Addr) (c : Nat), k ≤ l.length ∧ iv = .int .i64 k ∧ o = .slice A k c ∧ wr.ownsRow w.heap.size 9 1 (.slice A k c) k (strs ((l.take k).map RegD.name)) ∧ Below w.heap.size w wr)
    (fun _ _ i _ => l.length - (intOf i).toNat)
  case atStart => exact ⟨0, none, 0, Nat.zero_le _, rfl, rfl, World.ownsRow_nil _ _ _ _, Below.refl _ _⟩
  case round =>
    obtain ⟨k, A, c, hk, rfl, rfl, hown, hbel⟩ := hrel
    by_cases hlt : k < l.length
    · obtain ⟨g, of, rfl, d0, d1, d2⟩ := RegD.at (HX.out.below hbel (Nat.le_refl _)) hlt
      simp only at d0 d1 d2
      have HT : Hid (l.take (k + 1) = l.take k ++ [l[k]]) := Lib.hid (List.take_succ_eq_append_getElem hlt)
      generalize l[k] = y at *
      have HO := Lib.hid hown
      have HB := Lib.hid hbel
      clear hown hbel
      go_wp2_with fail
      refine (registerName_any y _).mono ?_
      rintro e w1 ⟨rfl, hb1⟩
      have hb2 : Below wr.heap.size wr w1 := (below_alloc (Below.refl _ _) _).trans (hb1.mono (below_alloc (Below.refl _ _) _).size)
      have hown1 := own_below HO.out hb2
      have hbel1 := HB.out.trans (hb2.mono HB.out.size)
      clear hb1 hb2
      go_wp2_with (first
        | (at_builtin; refine wpList_append_own _ rfl _ _ 172 rfl w.heap.size 9 i0 _ 1 16 Tryz.underlying172 hi hz0 hz1 hz2 rfl (by decide) _ _ _ rfl (hown1.alloc _) ⟨w1.heap.size, 0, none⟩ 1 1 [.string y.name] rfl rfl ?c1 ?c2 ?c3 ?c4 ?c5 ?_))
      case c1 => exact one_str _ _ _
      case c2 => intro u hu; simp at hu; subst hu; rfl
      case c3 => unfold maxLen; omega
      case c4 => omega
      case c5 => have := hbel1.size; simp; omega
      intro v' w2 hown2 hgrow _
      have hbel2 : Below w.heap.size w w2 := (hbel1.alloc hbel1.size _).grown hgrow (hbel1.alloc hbel1.size _).size fun j hj => (hown1.lt j hj).1
      obtain ⟨A', c', rfl⟩ : ∃ A' c', v' = .slice A' (k + 1) c' := by
        rcases hown2.2 with ⟨hv, h0⟩ | ⟨g', cap, cur, hv, _, _, _⟩
        · omega
        · exact ⟨_, _, hv⟩
      go_wp2
      go_roundw
      case rel =>
        refine ⟨k + 1, A', c', by omega, by go_num, rfl, ?_, hbel2⟩
        rw [HT.out, List.map_append]
        simpa [strs] using hown2
      case measure => simp [intOf]; omega
    · have hk' : k = l.length := by omega
      subst hk'
      rw [List.take_length] at hown
      have HO := Lib.hid hown
      clear hown
      go_wp2
      go_ret
      exact ⟨A, c, rfl, by simpa [OwnStrs] using HO.out, hbel⟩

set_option maxRecDepth 100000 in
set_option maxHeartbeats 1000000 in
theorem names_action (x : L ActD) (w : World) (h : LOk w 3 ActD.cells x) (hm : x.l.length ≤ 100) :
    Calls Tryz.prog 129 #[x.v, .func (.func 130) #[] #[]] w fun e w' =>
      ∃ A c, e = .returned (.slice A x.l.length c) ∧ OwnStrs w' w.heap.size A c (x.l.map ActD.name) ∧ Below w.heap.size w w' := by
  obtain ⟨l, A0, c0⟩ := x
  have HX := Lib.hid h
  clear h
  simp only [L.v] at *
  obtain ⟨i0, hi, hz0, hz1, hz2⟩ := info_parts Tryz.infoString
  go_enter Tryz.func129, Tryz.ntmps129
  go_wp2
  go_loopw [5, 7, 10] (fun o xv iv wr => ∃ (k : Nat) (A : Option Addr) (c : Nat), k ≤ l.length ∧ iv = .int .i64 k ∧ o = .slice A k c ∧ wr.ownsRow w.heap.size 9 1 (.slice A k c) k (strs ((l.take k).map ActD.name)) ∧ Below w.heap.size w wr)
    (fun _ _ i _ => l.length - (intOf i).toNat)
  case atStart => exact ⟨0, none, 0, Nat.zero_le _, rfl, rfl, World.ownsRow_nil _ _ _ _, Below.refl _ _⟩
  case round =>
    obtain ⟨k, A, c, hk, rfl, rfl, hown, hbel⟩ := hrel
    by_cases hlt : k < l.length
    · obtain ⟨g, of, rfl, d0, d1, d2⟩ := ActD.at (HX.out.below hbel (Nat.le_refl _)) hlt
      simp only at d0 d1 d2
      have HT : Hid (l.take (k + 1) = l.take k ++ [l[k]]) := Lib.hid (List.take_succ_eq_append_getElem hlt)
      generalize l[k] = y at *
      have HO := Lib.hid hown
      have HB := Lib.hid hbel
      clear hown hbel
      go_wp2_with fail
      refine (actionName_any y _).mono ?_
      rintro e w1 ⟨rfl, hb1⟩
      have hb2 : Below wr.heap.size wr w1 := (below_alloc (Below.refl _ _) _).trans (hb1.mono (below_alloc (Below.refl _ _) _).size)
      have hown1 := own_below HO.out hb2
      have hbel1 := HB.out.trans (hb2.mono HB.out.size)
      clear hb1 hb2
      go_wp2_with (first
        | (at_builtin; refine wpList_append_own _ rfl _ _ 172 rfl w.heap.size 9 i0 _ 1 16 Tryz.underlying172 hi hz0 hz1 hz2 rfl (by decide) _ _ _ rfl (hown1.alloc _) ⟨w1.heap.size, 0, none⟩ 1 1 [.string y.name] rfl rfl ?c1 ?c2 ?c3 ?c4 ?c5 ?_))
      case c1 => exact one_str _ _ _
      case c2 => intro u hu; simp at hu; subst hu; rfl
      case c3 => unfold maxLen; omega
      case c4 => omega
      case c5 => have := hbel1.size; simp; omega
      intro v' w2 hown2 hgrow _
      have hbel2 : Below w.heap.size w w2 := (hbel1.alloc hbel1.size _).grown hgrow (hbel1.alloc hbel1.size _).size fun j hj => (hown1.lt j hj).1
      obtain ⟨A', c', rfl⟩ : ∃ A' c', v' = .slice A' (k + 1) c' := by
        rcases hown2.2 with ⟨hv, h0⟩ | ⟨g', cap, cur, hv, _, _, _⟩
        · omega
        · exact ⟨_, _, hv⟩
      go_wp2
      go_roundw
      case rel =>
        refine ⟨k + 1, A', c', by omega, by go_num, rfl, ?_, hbel2⟩
        rw [HT.out, List.map_append]
        simpa [strs] using hown2
      case measure => simp [intOf]; omega
    · have hk' : k = l.length := by omega
      subst hk'
      rw [List.take_length] at hown
      have HO := Lib.hid hown
      clear hown
      go_wp2
      go_ret
      exact ⟨A, c, rfl, by simpa [OwnStrs] using HO.out, hbel⟩

set_option maxRecDepth 100000 in
set_option maxHeartbeats 1000000 in
theorem names_table (x : L TabD) (w : World) (h : LOk w 6 TabD.cells x) (hm : x.l.length ≤ 100) :
    Calls Tryz.prog 132 #[x.v, .func (.func 133) #[] #[]] w fun e w' =>
      ∃ A c, e = .returned (.slice A x.l.length c) ∧ OwnStrs w' w.heap.size A c (x.l.map TabD.name) ∧ Below w.heap.size w w' := by
  obtain ⟨l, A0, c0⟩ := x
  have HX := Lib.hid h
  clear h
  simp only [L.v] at *
  obtain ⟨i0, hi, hz0, hz1, hz2⟩ := info_parts Tryz.infoString
  go_enter Tryz.func132, Tryz.ntmps132
  go_wp2
  go_loopw [5, 7, 10] (fun o xv iv wr => ∃ (k : Nat) (A : Option Addr) (c : Nat), k ≤ l.length ∧ iv = .int .i64 k ∧ o = .slice A k c ∧ wr.ownsRow w.heap.size 9 1 (.slice A k c) k (strs ((l.take k).map TabD.name)) ∧ Below w.heap.size w wr)
    (fun _ _ i _ => l.length - (intOf i).toNat)
  case atStart => exact ⟨0, none, 0, Nat.zero_le _, rfl, rfl, World.ownsRow_nil _ _ _ _, Below.refl _ _⟩
  case round =>
    obtain ⟨k, A, c, hk, rfl, rfl, hown, hbel⟩ := hrel
    by_cases hlt : k < l.length
    · obtain ⟨g, of, rfl, d0, d1, d2, d3, d4, d5⟩ := TabD.at (HX.out.below hbel (Nat.le_refl _)) hlt
      simp only at d0 d1 d2 d3 d4 d5
      have HT : Hid (l.take (k + 1) = l.take k ++ [l[k]]) := Lib.hid (List.take_succ_eq_append_getElem hlt)
      generalize l[k] = y at *
      have HO := Lib.hid hown
      have HB := Lib.hid hbel
      clear hown hbel
      go_wp2_with fail
      refine (tableName_any y _).mono ?_
      rintro e w1 ⟨rfl, hb1⟩
      have hb2 : Below wr.heap.size wr w1 := (below_alloc (Below.refl _ _) _).trans (hb1.mono (below_alloc (Below.refl _ _) _).size)
      have hown1 := own_below HO.out hb2
      have hbel1 := HB.out.trans (hb2.mono HB.out.size)
      clear hb1 hb2
      go_wp2_with (first
        | (at_builtin; refine wpList_append_own _ rfl _ _ 172 rfl w.heap.size 9 i0 _ 1 16 Tryz.underlying172 hi hz0 hz1 hz2 rfl (by decide) _ _ _ rfl (hown1.alloc _) ⟨w1.heap.size, 0, none⟩ 1 1 [.string y.name] rfl rfl ?c1 ?c2 ?c3 ?c4 ?c5 ?_))
      case c1 => exact one_str _ _ _
      case c2 => intro u hu; simp at hu; subst hu; rfl
      case c3 => unfold maxLen; omega
      case c4 => omega
      case c5 => have := hbel1.size; simp; omega
      intro v' w2 hown2 hgrow _
      have hbel2 : Below w.heap.size w w2 := (hbel1.alloc hbel1.size _).grown hgrow (hbel1.alloc hbel1.size _).size fun j hj => (hown1.lt j hj).1
      obtain ⟨A', c', rfl⟩ : ∃ A' c', v' = .slice A' (k + 1) c' := by
        rcases hown2.2 with ⟨hv, h0⟩ | ⟨g', cap, cur, hv, _, _, _⟩
        · omega
        · exact ⟨_, _, hv⟩
      go_wp2
      go_roundw
      case rel =>
        refine ⟨k + 1, A', c', by omega, by go_num, rfl, ?_, hbel2⟩
        rw [HT.out, List.map_append]
        simpa [strs] using hown2
      case measure => simp [intOf]; omega
    · have hk' : k = l.length := by omega
      subst hk'
      rw [List.take_length] at hown
      have HO := Lib.hid hown
      clear hown
      go_wp2
      go_ret
      exact ⟨A, c, rfl, by simpa [OwnStrs] using HO.out, hbel⟩
end Go.Proofs.YtbfjknidinkafaaGreat

