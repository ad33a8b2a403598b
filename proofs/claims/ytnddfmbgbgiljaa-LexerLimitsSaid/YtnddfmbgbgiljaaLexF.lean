/- Walks of the law's helper works, of equal's and repeat's likes, of IsIdentifier. No condition. -/
import Derived.Test.YtnddfmbgbgiljaaLexE
import Derived.Deep.AppendLies
namespace Go.Proofs.Ytnddfmbgbgiljaa
open Go.RowKit

/-- the text of the chapter's example -/
def exText : ByteArray := ⟨#[97, 49, 60, 61, 48, 120, 49, 102, 32, 35, 32, 120]⟩
def exToks : List Tk := [⟨1, [97, 49], 0, 1⟩, ⟨3, [60, 61], 0, 1⟩, ⟨2, [48, 120, 49, 102], 31, 1⟩]
theorem ex_tok : tokenize exText.data.toList = (exToks, 0, 0) := by
  have h : exText.data.toList = [97, 49, 60, 61, 48, 120, 49, 102, 32, 35, 32, 120] := rfl
  rw [h]; decide +kernel

set_option maxRecDepth 100000 in
set_option maxHeartbeats 2000000 in
theorem works_any (w : World) : Calls Try.prog 8 #[] w fun e w' => e = .returned (.bool true) ∧ Below w.heap.size w w' := by
  go_enter Try.func8, Try.ntmps8
  go_wp2_with fail
  refine (tokenize_any exText _ (by unfold maxLen; decide)).mono ?_
  rintro e w1 ⟨A, c, rfl, hc, hown, hb⟩
  rw [ex_tok] at hown hc ⊢
  have e3 : exToks.length = 3 := rfl
  simp only [e3] at hown hc ⊢
  obtain ⟨g, cap, hv, _, hlt⟩ := hown.form (by omega)
  have hA : A = some ⟨g, 0, none⟩ := by injection hv
  subst hA
  have hcell : ∀ j, j < 12 → w1.cell? ⟨g, j, none⟩ = (tkCells exToks)[j]? := fun j hj => hown.cellAt j hj
  have k0 := hcell 0 (by omega)
  have k1 := hcell 1 (by omega)
  have k2 := hcell 2 (by omega)
  have k3 := hcell 3 (by omega)
  have k4 := hcell 4 (by omega)
  have k5 := hcell 5 (by omega)
  have k6 := hcell 6 (by omega)
  have k7 := hcell 7 (by omega)
  have k8 := hcell 8 (by omega)
  have k9 := hcell 9 (by omega)
  have k10 := hcell 10 (by omega)
  have k11 := hcell 11 (by omega)
  simp [exToks, tkCells, Tk.cells] at k0 k1 k2 k3 k4 k5 k6 k7 k8 k9 k10 k11
  clear hv hcell hown
  go_wp2
  go_ret
  exact ⟨rfl, hb⟩

end Go.Proofs.Ytnddfmbgbgiljaa
