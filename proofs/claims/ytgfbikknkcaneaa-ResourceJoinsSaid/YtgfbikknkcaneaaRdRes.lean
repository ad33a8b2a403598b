/- Reading resources and chips. -/
import Derived.Test.YtgfbikknkcaneaaRead
import Derived.Test.YtgfbikknkcaneaaLaw34C
import Derived.Test.YtgfbikknkcaneaaLaw34D
namespace Go.Proofs.Ytgfbikknkcaneaa
open Go.RowKit Go.WideShapes Go.ChangeShapes
section
variable {H : Type} {enc : TypeId × Value → H} {w : World} {base : Nat} {held : Bool}
theorem cells_eq {cs ys : List Value} (h : cs.length = ys.length) (hi : ∀ i, i < ys.length → cs[i]? = ys[i]?) : cs = ys := by
  refine List.ext_getElem? fun i => ?_
  by_cases h1 : i < ys.length
  · exact hi i h1
  · rw [List.getElem?_eq_none (by omega), List.getElem?_eq_none (by omega)]
theorem wf_i64 {z : Int} (h : (Lit.int .i64 z).wf = true) : -9223372036854775808 ≤ z ∧ z ≤ 9223372036854775807 := by
  have h1 : IntKind.i64.min = -9223372036854775808 := rfl
  have h2 : IntKind.i64.max = 9223372036854775807 := rfl
  simp only [Lit.wf, Bool.and_eq_true, decide_eq_true_eq] at h
  omega
theorem rd_res (N : Nat) : RdB enc Try.prog w base held N 27 ResD.cells ResD.wf := by
  intro m hm cs x h hw
  obtain ⟨xs, n, e1, hx, hlen, hl, hf⟩ := DataW.trod_struct Try.underlying27 h
  subst hx
  simp only [DataW.weights, Try.underlying27] at hw
  obtain ⟨a, ha, wa⟩ := rd_field (N := N) 0 _ 0 1 hf hl hw rfl rfl rfl (by kernel_rfl) (rd_int Try.underlying3) (by omega)
  obtain ⟨b, hb, wb⟩ := rd_field (N := N) 1 _ 1 1 hf hl hw rfl rfl rfl (by kernel_rfl) (rd_int Try.underlying3) (by omega)
  have e2 : cs.length = 2 := hlen.trans (by kernel_rfl)
  refine ⟨⟨a, b⟩, cells_eq e2 fun i hi => ?_, wf_i64 wa, wf_i64 wb⟩
  match i, hi with
  | 0, _ => exact cell_of_cut ha
  | 1, _ => exact cell_of_cut hb
theorem rd_ress (N : Nat) : RdB enc Try.prog w base held N 22 (fun y : L ResD => [y.v]) (ListOk w 2 16 ResD.cells ResD.wf) :=
  (rd_list (N := N) (k := 2) (kb := 16) Try.underlying22 (by kernel_rfl) (by kernel_rfl) (by decide) (fun _ => rfl) (rd_res N)).mono (Nat.le_succ N)
theorem rd_chip (N : Nat) : RdB enc Try.prog w base held N 24 (fun c : Fin 8 → Int => (chipCells c).toList) (fun _ => True) := by
  intro m hm cs x h hw
  obtain ⟨xs, n, e1, hx, hlen, hl, hf⟩ := DataW.trod_struct Try.underlying24 h
  subst hx
  simp only [DataW.weights, Try.underlying24] at hw
  obtain ⟨c0, h0, _⟩ := rd_field (N := N) 0 _ 0 1 hf hl hw rfl rfl rfl (by kernel_rfl) (rd_int Try.underlying3) (by omega)
  obtain ⟨c1, h1, _⟩ := rd_field (N := N) 1 _ 1 1 hf hl hw rfl rfl rfl (by kernel_rfl) (rd_int Try.underlying3) (by omega)
  obtain ⟨c2, h2, _⟩ := rd_field (N := N) 2 _ 2 1 hf hl hw rfl rfl rfl (by kernel_rfl) (rd_int Try.underlying3) (by omega)
  obtain ⟨c3, h3, _⟩ := rd_field (N := N) 3 _ 3 1 hf hl hw rfl rfl rfl (by kernel_rfl) (rd_int Try.underlying3) (by omega)
  obtain ⟨c4, h4, _⟩ := rd_field (N := N) 4 _ 4 1 hf hl hw rfl rfl rfl (by kernel_rfl) (rd_int Try.underlying3) (by omega)
  obtain ⟨c5, h5, _⟩ := rd_field (N := N) 5 _ 5 1 hf hl hw rfl rfl rfl (by kernel_rfl) (rd_int Try.underlying3) (by omega)
  obtain ⟨c6, h6, _⟩ := rd_field (N := N) 6 _ 6 1 hf hl hw rfl rfl rfl (by kernel_rfl) (rd_int Try.underlying3) (by omega)
  obtain ⟨c7, h7, _⟩ := rd_field (N := N) 7 _ 7 1 hf hl hw rfl rfl rfl (by kernel_rfl) (rd_int Try.underlying3) (by omega)
  have e2 : cs.length = 8 := hlen.trans (by kernel_rfl)
  refine ⟨fun i => [c0, c1, c2, c3, c4, c5, c6, c7].getD i.1 0, cells_eq e2 fun i hi => ?_, trivial⟩
  match i, hi with
  | 0, _ => exact cell_of_cut h0
  | 1, _ => exact cell_of_cut h1
  | 2, _ => exact cell_of_cut h2
  | 3, _ => exact cell_of_cut h3
  | 4, _ => exact cell_of_cut h4
  | 5, _ => exact cell_of_cut h5
  | 6, _ => exact cell_of_cut h6
  | 7, _ => exact cell_of_cut h7
end
end Go.Proofs.Ytgfbikknkcaneaa

