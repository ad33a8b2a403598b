/- Walks of the small functions of package program. No condition. -/
import Derived.Test.YtgfbikknkcaneaaRep
import Derived.Test.YtgfbikknkcaneaaIdent
namespace Go.Proofs.Ytgfbikknkcaneaa
open Go.RowKit

theorem require_ok (p i s : Int) (w : World) :
    Calls Try.prog 30 #[.int .i64 0, .int .i64 p, .int .i64 i, .int .i64 s] w fun e w' => e = .returned (.tuple #[]) ∧ w = w' := by
  go_enter Try.func30, Try.ntmps30
  go_wp2
  go_end0
  exact ⟨rfl, rfl⟩
theorem require_bad (c p i s : Int) (w : World) (h : (c == 0) = false) :
    Calls Try.prog 30 #[.int .i64 c, .int .i64 p, .int .i64 i, .int .i64 s] w fun e w' =>
      e = .panicked [{ v := .iface 74 (.agg #[.int .i64 c, .int .i64 p, .int .i64 i, .int .i64 s]), recovered := false }] ∧ w = w' := by
  go_enter Try.func30, Try.ntmps30
  go_wp2
  exact ⟨rfl, rfl, rfl⟩
theorem when_any (b : Bool) (c : Int) (w : World) :
    Calls Try.prog 31 #[.bool b, .int .i64 c] w fun e w' => e = .returned (.int .i64 (if b = true then c else 0)) ∧ w = w' := by
  cases b
  · go_enter Try.func31, Try.ntmps31
    go_wp2
    go_ret
    exact ⟨rfl, rfl⟩
  · go_enter Try.func31, Try.ntmps31
    go_wp2
    go_ret
    exact ⟨rfl, rfl⟩
def ident (s : ByteArray) : Bool := identM s.data.toList
theorem identifier_any (s : ByteArray) (w : World) (hs : s.size ≤ maxLen) :
    Calls Try.prog 32 #[.string s] w fun e w' => e = .returned (.bool (!ident s)) ∧ w = w' := by
  go_enter Try.func32, Try.ntmps32
  go_wp2_with fail
  refine (isIdent_any s _ hs).mono ?_
  rintro e w1 ⟨rfl, rfl⟩
  go_wp2
  go_ret
  exact ⟨rfl, rfl⟩
theorem widthInvalid_any (n : Int) (w : World) :
    Calls Try.prog 39 #[.int .i64 n] w fun e w' => e = .returned (.bool (decide (n < 1) || decide (32 < n))) ∧ w = w' := by
  by_cases h : n < 1
  · have H := Lib.hid h
    go_enter Try.func39, Try.ntmps39
    go_wp2
    go_ret
    exact ⟨by rw [decide_eq_true H.out]; rfl, rfl⟩
  · have H := Lib.hid h
    go_enter Try.func39, Try.ntmps39
    go_wp2
    go_ret
    exact ⟨by rw [decide_eq_false (show ¬ n < 1 by have := H.out; omega)]; rfl, rfl⟩

theorem fieldName_any (f : FieldD) (w : World) :
    Calls Try.prog 38 #[.agg #[.string f.name, .int .i64 f.width]] w fun e w' => e = .returned (.string f.name) ∧ Below w.heap.size w w' := by
  go_enter Try.func38, Try.ntmps38
  go_wp2
  go_ret
  exact ⟨rfl, (Below.refl _ _).alloc (Nat.le_refl _) _⟩
theorem actionName_any (f : ActD) (w : World) :
    Calls Try.prog 44 #[.agg #[.string f.name, f.params.v, f.body.v]] w fun e w' => e = .returned (.string f.name) ∧ Below w.heap.size w w' := by
  go_enter Try.func44, Try.ntmps44
  go_wp2
  go_ret
  exact ⟨rfl, (Below.refl _ _).alloc (Nat.le_refl _) _⟩
theorem tableName_any (t : TabD) (w : World) :
    Calls Try.prog 47 #[.agg #[.string t.name, t.keys.v, t.acts.v, .int .i64 t.defA, t.args.v, .int .i64 t.size]] w fun e w' => e = .returned (.string t.name) ∧ Below w.heap.size w w' := by
  go_enter Try.func47, Try.ntmps47
  go_wp2
  go_ret
  exact ⟨rfl, (Below.refl _ _).alloc (Nat.le_refl _) _⟩
theorem headerName_any (f : HeaderD) (w : World) :
    Calls Try.prog 34 #[.agg #[.string f.name, f.fields.v]] w fun e w' => e = .returned (.string f.name) ∧ Below w.heap.size w w' := by
  go_enter Try.func34, Try.ntmps34
  go_wp2
  go_ret
  exact ⟨rfl, (Below.refl _ _).alloc (Nat.le_refl _) _⟩
theorem registerName_any (f : RegD) (w : World) :
    Calls Try.prog 41 #[.agg #[.string f.name, .int .i64 f.width, .int .i64 f.size]] w fun e w' => e = .returned (.string f.name) ∧ Below w.heap.size w w' := by
  go_enter Try.func41, Try.ntmps41
  go_wp2
  go_ret
  exact ⟨rfl, (Below.refl _ _).alloc (Nat.le_refl _) _⟩
end Go.Proofs.Ytgfbikknkcaneaa

