/- Walks of the reference's widths of fields. No condition but that the program lies in memory. -/
import Derived.Test.YtbfjknidinkafaaGreatRcB
namespace Go.Proofs.YtbfjknidinkafaaGreat
open Go.RowKit

set_option maxRecDepth 100000 in
set_option maxHeartbeats 4000000 in
theorem rwidth12_any (p : ProgD) (h f : Int) (w : World) (o : ProgOk w p) :
    Calls Tryz.prog 55 #[.agg (progCells p), .agg #[.int .i64 h, .int .i64 f]] w fun e w' => e = .returned (.int .i64 (widthAt p h f)) ∧ Below w.heap.size w w' := by
  have HO := Lib.hid o
  have HWd := Lib.hid (widthAt_decl p h f)
  clear o
  have hca := @World.cell?_alloc_some
  rcases fieldsOf_cases p h with ⟨rfl, hx⟩ | ⟨h1, h2, hx⟩ | ⟨k, hk, rfl, hx⟩
  · rcases declF_cases hx f with ⟨h3, hd⟩ | ⟨j, hj, rfl, hd⟩
    · have HR : Hid (widthAt p (-1) f = 0) := Lib.hid (by rw [HWd.out, hd])
      clear hd hx HWd
      by_cases h4 : f < 0
      · clear h3
        go_enter Tryz.func55, Tryz.ntmps55
        go_wp2
        go_ret
        exact ⟨by rw [HR.out]; rfl, below2 _ _ _⟩
      · have h5 : (p.metadata.l.length : Int) ≤ f := by omega
        clear h3
        go_enter Tryz.func55, Tryz.ntmps55
        go_wp2
        go_ret
        exact ⟨by rw [HR.out]; rfl, below2 _ _ _⟩
    · obtain ⟨g, of, hA, d0, d1⟩ := FieldD.at HO.out.metadata hj
      simp only [progCells, hA]
      have HR : Hid (widthAt p (-1) j = if okW p.metadata.l[j].width = true then p.metadata.l[j].width else 0) := Lib.hid (by rw [HWd.out, hd])
      clear hd hx hA HWd
      generalize p.metadata.l[j] = y at *
      generalize y.width = n at *
      by_cases h6 : n < 1
      · have HR2 := Lib.hid (show widthAt p (-1) j = 0 by rw [HR.out, okW_not.2 (.inl h6)]; rfl)
        clear HR
        go_enter Tryz.func55, Tryz.ntmps55
        go_wp2
        go_ret
        exact ⟨by rw [HR2.out]; rfl, below2 _ _ _⟩
      by_cases h7 : 32 < n
      · have HR2 := Lib.hid (show widthAt p (-1) j = 0 by rw [HR.out, okW_not.2 (.inr h7)]; rfl)
        clear HR
        go_enter Tryz.func55, Tryz.ntmps55
        go_wp2
        go_ret
        exact ⟨by rw [HR2.out]; rfl, below2 _ _ _⟩
      have HR2 := Lib.hid (show widthAt p (-1) j = n by rw [HR.out, okW_iff.2 ⟨by omega, by omega⟩]; rfl)
      clear HR
      go_enter Tryz.func55, Tryz.ntmps55
      go_wp2
      go_ret
      exact ⟨by rw [HR2.out]; rfl, below2 _ _ _⟩
  · have HR : Hid (widthAt p h f = 0) := Lib.hid (by rw [HWd.out, declF_none hx f])
    clear hx HWd
    by_cases h4 : h < 0
    · have h5 : h < -1 := by omega
      clear h2
      go_enter Tryz.func55, Tryz.ntmps55
      go_wp2
      go_ret
      exact ⟨by rw [HR.out]; rfl, below2 _ _ _⟩
    · have h5 : (p.headers.l.length : Int) ≤ h := by omega
      clear h2
      go_enter Tryz.func55, Tryz.ntmps55
      go_wp2
      go_ret
      exact ⟨by rw [HR.out]; rfl, below2 _ _ _⟩
  · obtain ⟨g, of, hA, d0, d1⟩ := HeaderD.at HO.out.headers hk
    have HF := Lib.hid (HO.out.hdr _ (List.getElem_mem hk)).fields
    simp only [progCells, hA]
    clear hA
    generalize p.headers.l[k] = x at *
    obtain ⟨xn, ⟨fl, fA, fc⟩⟩ := x
    simp only [L.v] at d1
    rcases declF_cases hx f with ⟨h3, hd⟩ | ⟨j, hj, rfl, hd⟩
    · have HR : Hid (widthAt p k f = 0) := Lib.hid (by rw [HWd.out, hd])
      simp only at h3
      clear hd hx HWd
      by_cases h4 : f < 0
      · clear h3
        go_enter Tryz.func55, Tryz.ntmps55
        go_wp2
        go_ret
        exact ⟨by rw [HR.out]; rfl, below2 _ _ _⟩
      · have h5 : (fl.length : Int) ≤ f := by omega
        clear h3
        go_enter Tryz.func55, Tryz.ntmps55
        go_wp2
        go_ret
        exact ⟨by rw [HR.out]; rfl, below2 _ _ _⟩
    · simp only at hj
      have HR : Hid (widthAt p k j = if okW fl[j].width = true then fl[j].width else 0) := Lib.hid (by rw [HWd.out, hd])
      obtain ⟨g2, of2, hA, e0, e1⟩ := FieldD.at HF.out hj
      simp only at hA e0 e1
      subst hA
      clear hd hx HWd
      generalize fl[j] = y at *
      generalize y.width = n at *
      by_cases h6 : n < 1
      · have HR2 := Lib.hid (show widthAt p k j = 0 by rw [HR.out, okW_not.2 (.inl h6)]; rfl)
        clear HR
        go_enter Tryz.func55, Tryz.ntmps55
        go_wp2
        go_ret
        exact ⟨by rw [HR2.out]; rfl, below2 _ _ _⟩
      by_cases h7 : 32 < n
      · have HR2 := Lib.hid (show widthAt p k j = 0 by rw [HR.out, okW_not.2 (.inr h7)]; rfl)
        clear HR
        go_enter Tryz.func55, Tryz.ntmps55
        go_wp2
        go_ret
        exact ⟨by rw [HR2.out]; rfl, below2 _ _ _⟩
      have HR2 := Lib.hid (show widthAt p k j = n by rw [HR.out, okW_iff.2 ⟨by omega, by omega⟩]; rfl)
      clear HR
      go_enter Tryz.func55, Tryz.ntmps55
      go_wp2
      go_ret
      exact ⟨by rw [HR2.out]; rfl, below2 _ _ _⟩
set_option maxRecDepth 100000 in
set_option maxHeartbeats 4000000 in
theorem rwidth17_any (p : ProgD) (h f : Int) (w : World) (o : ProgOk w p) :
    Calls Tryz.prog 186 #[.agg (progCells p), .agg #[.int .i64 h, .int .i64 f]] w fun e w' => e = .returned (.int .i64 (widthAt p h f)) ∧ Below w.heap.size w w' := by
  have HO := Lib.hid o
  have HWd := Lib.hid (widthAt_decl p h f)
  clear o
  have hca := @World.cell?_alloc_some
  rcases fieldsOf_cases p h with ⟨rfl, hx⟩ | ⟨h1, h2, hx⟩ | ⟨k, hk, rfl, hx⟩
  · rcases declF_cases hx f with ⟨h3, hd⟩ | ⟨j, hj, rfl, hd⟩
    · have HR : Hid (widthAt p (-1) f = 0) := Lib.hid (by rw [HWd.out, hd])
      clear hd hx HWd
      by_cases h4 : f < 0
      · clear h3
        go_enter Tryz.func186, Tryz.ntmps186
        go_wp2
        go_ret
        exact ⟨by rw [HR.out]; rfl, below2 _ _ _⟩
      · have h5 : (p.metadata.l.length : Int) ≤ f := by omega
        clear h3
        go_enter Tryz.func186, Tryz.ntmps186
        go_wp2
        go_ret
        exact ⟨by rw [HR.out]; rfl, below2 _ _ _⟩
    · obtain ⟨g, of, hA, d0, d1⟩ := FieldD.at HO.out.metadata hj
      simp only [progCells, hA]
      have HR : Hid (widthAt p (-1) j = if okW p.metadata.l[j].width = true then p.metadata.l[j].width else 0) := Lib.hid (by rw [HWd.out, hd])
      clear hd hx hA HWd
      generalize p.metadata.l[j] = y at *
      generalize y.width = n at *
      by_cases h6 : n < 1
      · have HR2 := Lib.hid (show widthAt p (-1) j = 0 by rw [HR.out, okW_not.2 (.inl h6)]; rfl)
        clear HR
        go_enter Tryz.func186, Tryz.ntmps186
        go_wp2
        go_ret
        exact ⟨by rw [HR2.out]; rfl, below2 _ _ _⟩
      by_cases h7 : 32 < n
      · have HR2 := Lib.hid (show widthAt p (-1) j = 0 by rw [HR.out, okW_not.2 (.inr h7)]; rfl)
        clear HR
        go_enter Tryz.func186, Tryz.ntmps186
        go_wp2
        go_ret
        exact ⟨by rw [HR2.out]; rfl, below2 _ _ _⟩
      have HR2 := Lib.hid (show widthAt p (-1) j = n by rw [HR.out, okW_iff.2 ⟨by omega, by omega⟩]; rfl)
      clear HR
      go_enter Tryz.func186, Tryz.ntmps186
      go_wp2
      go_ret
      exact ⟨by rw [HR2.out]; rfl, below2 _ _ _⟩
  · have HR : Hid (widthAt p h f = 0) := Lib.hid (by rw [HWd.out, declF_none hx f])
    clear hx HWd
    by_cases h4 : h < 0
    · have h5 : h < -1 := by omega
      clear h2
      go_enter Tryz.func186, Tryz.ntmps186
      go_wp2
      go_ret
      exact ⟨by rw [HR.out]; rfl, below2 _ _ _⟩
    · have h5 : (p.headers.l.length : Int) ≤ h := by omega
      clear h2
      go_enter Tryz.func186, Tryz.ntmps186
      go_wp2
      go_ret
      exact ⟨by rw [HR.out]; rfl, below2 _ _ _⟩
  · obtain ⟨g, of, hA, d0, d1⟩ := HeaderD.at HO.out.headers hk
    have HF := Lib.hid (HO.out.hdr _ (List.getElem_mem hk)).fields
    simp only [progCells, hA]
    clear hA
    generalize p.headers.l[k] = x at *
    obtain ⟨xn, ⟨fl, fA, fc⟩⟩ := x
    simp only [L.v] at d1
    rcases declF_cases hx f with ⟨h3, hd⟩ | ⟨j, hj, rfl, hd⟩
    · have HR : Hid (widthAt p k f = 0) := Lib.hid (by rw [HWd.out, hd])
      simp only at h3
      clear hd hx HWd
      by_cases h4 : f < 0
      · clear h3
        go_enter Tryz.func186, Tryz.ntmps186
        go_wp2
        go_ret
        exact ⟨by rw [HR.out]; rfl, below2 _ _ _⟩
      · have h5 : (fl.length : Int) ≤ f := by omega
        clear h3
        go_enter Tryz.func186, Tryz.ntmps186
        go_wp2
        go_ret
        exact ⟨by rw [HR.out]; rfl, below2 _ _ _⟩
    · simp only at hj
      have HR : Hid (widthAt p k j = if okW fl[j].width = true then fl[j].width else 0) := Lib.hid (by rw [HWd.out, hd])
      obtain ⟨g2, of2, hA, e0, e1⟩ := FieldD.at HF.out hj
      simp only at hA e0 e1
      subst hA
      clear hd hx HWd
      generalize fl[j] = y at *
      generalize y.width = n at *
      by_cases h6 : n < 1
      · have HR2 := Lib.hid (show widthAt p k j = 0 by rw [HR.out, okW_not.2 (.inl h6)]; rfl)
        clear HR
        go_enter Tryz.func186, Tryz.ntmps186
        go_wp2
        go_ret
        exact ⟨by rw [HR2.out]; rfl, below2 _ _ _⟩
      by_cases h7 : 32 < n
      · have HR2 := Lib.hid (show widthAt p k j = 0 by rw [HR.out, okW_not.2 (.inr h7)]; rfl)
        clear HR
        go_enter Tryz.func186, Tryz.ntmps186
        go_wp2
        go_ret
        exact ⟨by rw [HR2.out]; rfl, below2 _ _ _⟩
      have HR2 := Lib.hid (show widthAt p k j = n by rw [HR.out, okW_iff.2 ⟨by omega, by omega⟩]; rfl)
      clear HR
      go_enter Tryz.func186, Tryz.ntmps186
      go_wp2
      go_ret
      exact ⟨by rw [HR2.out]; rfl, below2 _ _ _⟩
end Go.Proofs.YtbfjknidinkafaaGreat

