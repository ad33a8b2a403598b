/- Walks of the small functions of package program. No condition. -/
import Derived.Test.YtbfjknidinkafaaGreatRep
import Derived.Test.YtbfjknidinkafaaGreatIdent
namespace Go.Proofs.YtbfjknidinkafaaGreat
open Go.RowKit

theorem require_ok (p i s : Int) (w : World) :
    Calls Tryz.prog 116 #[.int .i64 0, .int .i64 p, .int .i64 i, .int .i64 s] w fun e w' => e = .returned (.tuple #[]) ∧ w = w' := by
  go_enter Tryz.func116, Tryz.ntmps116
  go_wp2
  go_end0
  exact ⟨rfl, rfl⟩
theorem require_bad (c p i s : Int) (w : World) (h : (c == 0) = false) :
    Calls Tryz.prog 116 #[.int .i64 c, .int .i64 p, .int .i64 i, .int .i64 s] w fun e w' =>
      e = .panicked [{ v := .iface 137 (.agg #[.int .i64 c, .int .i64 p, .int .i64 i, .int .i64 s]), recovered := false }] ∧ w = w' := by
  go_enter Tryz.func116, Tryz.ntmps116
  go_wp2
  exact ⟨rfl, rfl, rfl⟩
theorem when_any (b : Bool) (c : Int) (w : World) :
    Calls Tryz.prog 117 #[.bool b, .int .i64 c] w fun e w' => e = .returned (.int .i64 (if b = true then c else 0)) ∧ w = w' := by
  cases b
  · go_enter Tryz.func117, Tryz.ntmps117
    go_wp2
    go_ret
    exact ⟨rfl, rfl⟩
  · go_enter Tryz.func117, Tryz.ntmps117
    go_wp2
    go_ret
    exact ⟨rfl, rfl⟩
def ident (s : ByteArray) : Bool := identM s.data.toList
theorem identifier_any (s : ByteArray) (w : World) (hs : s.size ≤ maxLen) :
    Calls Tryz.prog 118 #[.string s] w fun e w' => e = .returned (.bool (!ident s)) ∧ w = w' := by
  go_enter Tryz.func118, Tryz.ntmps118
  go_wp2_with fail
  refine (isIdent_any s _ hs).mono ?_
  rintro e w1 ⟨rfl, rfl⟩
  go_wp2
  go_ret
  exact ⟨rfl, rfl⟩
theorem widthInvalid_any (n : Int) (w : World) :
    Calls Tryz.prog 125 #[.int .i64 n] w fun e w' => e = .returned (.bool (decide (n < 1) || decide (32 < n))) ∧ w = w' := by
  by_cases h : n < 1
  · have H := Lib.hid h
    go_enter Tryz.func125, Tryz.ntmps125
    go_wp2
    go_ret
    exact ⟨by rw [decide_eq_true H.out]; rfl, rfl⟩
  · have H := Lib.hid h
    go_enter Tryz.func125, Tryz.ntmps125
    go_wp2
    go_ret
    exact ⟨by rw [decide_eq_false (show ¬ n < 1 by have := H.out; omega)]; rfl, rfl⟩

theorem fieldName_any (f : FieldD) (w : World) :
    Calls Tryz.prog 124 #[.agg #[.string f.name, .int .i64 f.width]] w fun e w' => e = .returned (.string f.name) ∧ Below w.heap.size w w' := by
  go_enter Tryz.func124, Tryz.ntmps124
  go_wp2
  go_ret
  exact ⟨rfl, (Below.refl _ _).alloc (Nat.le_refl _) _⟩
theorem actionName_any (f : ActD) (w : World) :
    Calls Tryz.prog 130 #[.agg #[.string f.name, f.params.v, f.body.v]] w fun e w' => e = .returned (.string f.name) ∧ Below w.heap.size w w' := by
  go_enter Tryz.func130, Tryz.ntmps130
  go_wp2
  go_ret
  exact ⟨rfl, (Below.refl _ _).alloc (Nat.le_refl _) _⟩
theorem tableName_any (t : TabD) (w : World) :
    Calls Tryz.prog 133 #[.agg #[.string t.name, t.keys.v, t.acts.v, .int .i64 t.defA, t.args.v, .int .i64 t.size]] w fun e w' => e = .returned (.string t.name) ∧ Below w.heap.size w w' := by
  go_enter Tryz.func133, Tryz.ntmps133
  go_wp2
  go_ret
  exact ⟨rfl, (Below.refl _ _).alloc (Nat.le_refl _) _⟩
theorem headerName_any (f : HeaderD) (w : World) :
    Calls Tryz.prog 120 #[.agg #[.string f.name, f.fields.v]] w fun e w' => e = .returned (.string f.name) ∧ Below w.heap.size w w' := by
  go_enter Tryz.func120, Tryz.ntmps120
  go_wp2
  go_ret
  exact ⟨rfl, (Below.refl _ _).alloc (Nat.le_refl _) _⟩
theorem registerName_any (f : RegD) (w : World) :
    Calls Tryz.prog 127 #[.agg #[.string f.name, .int .i64 f.width, .int .i64 f.size]] w fun e w' => e = .returned (.string f.name) ∧ Below w.heap.size w w' := by
  go_enter Tryz.func127, Tryz.ntmps127
  go_wp2
  go_ret
  exact ⟨rfl, (Below.refl _ _).alloc (Nat.le_refl _) _⟩
end Go.Proofs.YtbfjknidinkafaaGreat

