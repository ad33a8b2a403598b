/- Walks of package expr's checks on any program: arity, wide, field, primary, combine. No condition but that the program lies in memory. -/
import Derived.Test.YtbfjknidinkafaaGreatCkK
namespace Go.Proofs.YtbfjknidinkafaaGreat
open Go.RowKit

theorem ret_ii {a b c d : Int} (h : a = c) (h' : b = d) : Ending.returned (.tuple #[.int .i64 a, .int .i64 b]) = .returned (.tuple #[.int .i64 c, .int .i64 d]) := by rw [h, h']

theorem arity_any (op : Int) (w : World) : Calls Tryz.prog 216 #[.int .i64 op] w fun e w' => e = .returned (.int .i64 (arityM op)) ∧ w = w' := by
  by_cases h : 1 ≤ op ∧ op ≤ 17
  · have hd : op = 1 ∨ op = 2 ∨ op = 3 ∨ op = 4 ∨ op = 5 ∨ op = 6 ∨ op = 7 ∨ op = 8 ∨ op = 9 ∨ op = 10 ∨ op = 11 ∨ op = 12 ∨ op = 13 ∨ op = 14 ∨ op = 15 ∨ op = 16 ∨ op = 17 := by omega
    rcases hd with rfl | rfl | rfl | rfl | rfl | rfl | rfl | rfl | rfl | rfl | rfl | rfl | rfl | rfl | rfl | rfl | rfl
    all_goals
      go_enter Tryz.func216, Tryz.ntmps216
      go_wp2
      go_ret
      exact ⟨rfl, rfl⟩
  · have HR := Lib.hid (show arityM op = -1 by unfold arityM; repeat' split <;> omega)
    have hn : ∀ k : Int, 1 ≤ k → k ≤ 17 → (op == k) = false := fun k h1 h2 => beq_eq_false_iff_ne.2 (by omega)
    have n1 := hn 1 (by decide) (by decide)
    have n2 := hn 2 (by decide) (by decide)
    have n3 := hn 3 (by decide) (by decide)
    have n4 := hn 4 (by decide) (by decide)
    have n5 := hn 5 (by decide) (by decide)
    have n6 := hn 6 (by decide) (by decide)
    have n7 := hn 7 (by decide) (by decide)
    have n8 := hn 8 (by decide) (by decide)
    have n9 := hn 9 (by decide) (by decide)
    have n10 := hn 10 (by decide) (by decide)
    have n11 := hn 11 (by decide) (by decide)
    have n12 := hn 12 (by decide) (by decide)
    have n13 := hn 13 (by decide) (by decide)
    have n14 := hn 14 (by decide) (by decide)
    have n15 := hn 15 (by decide) (by decide)
    have n16 := hn 16 (by decide) (by decide)
    have n17 := hn 17 (by decide) (by decide)
    clear h hn
    go_enter Tryz.func216, Tryz.ntmps216
    go_wp2
    go_ret
    exact ⟨by rw [HR.out]; rfl, rfl⟩

theorem wideM_ok {n : Int} (h : okW n = true) : wideM n = (n, 0) := if_pos h
theorem wideM_bad {n : Int} (h : okW n = false) : wideM n = (0, 10) := if_neg (by rw [h]; simp)
theorem okW_iff {n : Int} : okW n = true ↔ 1 ≤ n ∧ n ≤ 32 := by simp [okW]
theorem okW_not {n : Int} : okW n = false ↔ n < 1 ∨ 32 < n := by
  rw [← Bool.not_eq_true, okW_iff]; omega
theorem wide_any (n : Int) (w : World) : Calls Tryz.prog 220 #[.int .i64 n] w fun e w' => e = .returned (.tuple #[.int .i64 (wideM n).1, .int .i64 (wideM n).2]) ∧ w = w' := by
  cases h : okW n
  · have HR := Lib.hid (wideM_bad h)
    have h' := okW_not.1 h
    rcases h' with h1 | h1
    all_goals
      go_enter Tryz.func220, Tryz.ntmps220
      go_wp2
      go_ret2
      exact ⟨by rw [HR.out]; rfl, rfl⟩
  · have HR := Lib.hid (wideM_ok h)
    obtain ⟨h1, h2⟩ := okW_iff.1 h
    go_enter Tryz.func220, Tryz.ntmps220
    go_wp2
    go_ret2
    exact ⟨by rw [HR.out]; rfl, rfl⟩

/-- a scope: the program, the parameters -/
@[reducible] def scopeCells (p : ProgD) (ps : L FieldD) : Array Value := #[.string p.name, .slice p.headers.A p.headers.l.length p.headers.c, .slice p.metadata.A p.metadata.l.length p.metadata.c,
  .slice p.registers.A p.registers.l.length p.registers.c, .slice p.actions.A p.actions.l.length p.actions.c, .slice p.tables.A p.tables.l.length p.tables.c,
  .slice p.states.A p.states.l.length p.states.c, .slice p.control.A p.control.l.length p.control.c, .slice p.deparser.A p.deparser.l.length p.deparser.c, .slice ps.A ps.l.length ps.c]
/-- what a walk knows of the fields of a header or of the metadata -/
theorem fieldsOf_cases (p : ProgD) (h : Int) : (h = -1 ∧ fieldsOf p h = some p.metadata) ∨ (h ≠ -1 ∧ (h < 0 ∨ (p.headers.l.length : Int) ≤ h) ∧ fieldsOf p h = none) ∨
    ∃ k : Nat, ∃ hk : k < p.headers.l.length, h = k ∧ fieldsOf p h = some p.headers.l[k].fields := by
  by_cases h1 : h = -1
  · exact .inl ⟨h1, by rw [fieldsOf, if_pos h1]⟩
  · by_cases h2 : h < 0
    · exact .inr (.inl ⟨h1, .inl h2, by rw [fieldsOf, if_neg h1, if_pos h2]⟩)
    · obtain ⟨k, rfl⟩ : ∃ k : Nat, h = k := ⟨h.toNat, by omega⟩
      by_cases h3 : k < p.headers.l.length
      · exact .inr (.inr ⟨k, h3, rfl, by rw [fieldsOf, if_neg h1, if_neg h2]; simp [h3]⟩)
      · exact .inr (.inl ⟨h1, .inr (by omega), by rw [fieldsOf, if_neg h1, if_neg h2]; simp [List.getElem?_eq_none (Nat.le_of_not_lt h3)]⟩)
theorem declF_cases {p : ProgD} {h : Int} {x : L FieldD} (hx : fieldsOf p h = some x) (f : Int) : ((f < 0 ∨ (x.l.length : Int) ≤ f) ∧ declF p h f = none) ∨ ∃ k : Nat, ∃ hk : k < x.l.length, f = k ∧ declF p h f = some x.l[k] := by
  by_cases h1 : f < 0
  · exact .inl ⟨.inl h1, by rw [declF, hx]; exact if_pos h1⟩
  · obtain ⟨k, rfl⟩ : ∃ k : Nat, f = k := ⟨f.toNat, by omega⟩
    by_cases h2 : k < x.l.length
    · exact .inr ⟨k, h2, rfl, by rw [declF, hx]; simp [h1, h2]⟩
    · exact .inl ⟨.inr (by omega), by rw [declF, hx]; simp [h1, List.getElem?_eq_none (Nat.le_of_not_lt h2)]⟩
theorem declF_none {p : ProgD} {h : Int} (hx : fieldsOf p h = none) (f : Int) : declF p h f = none := by rw [declF, hx]
/-- a field found or the zero field, and whether it was found -/
def foundV (d : Option FieldD) : Value := .tuple #[.agg #[.string (d.getD noField).name, .int .i64 (d.getD noField).width], .bool d.isSome]

set_option maxRecDepth 100000 in
set_option maxHeartbeats 2000000 in
theorem sfield_any (p : ProgD) (ps : L FieldD) (h f : Int) (w : World) (o : ProgOk w p) :
    Calls Tryz.prog 221 #[.agg (scopeCells p ps), .int .i64 h, .int .i64 f] w fun e w' => e = .returned (foundV (declF p h f)) ∧ Below w.heap.size w w' := by
  have HO := Lib.hid o
  clear o
  have hca := @World.cell?_alloc_some
  rcases fieldsOf_cases p h with ⟨rfl, hx⟩ | ⟨h1, h2, hx⟩ | ⟨k, hk, rfl, hx⟩
  · rcases declF_cases hx f with ⟨h3, hd⟩ | ⟨j, hj, rfl, hd⟩
    · have HR := Lib.hid hd
      clear hd hx
      rcases h3 with h3 | h3
      all_goals
        go_enter Tryz.func221, Tryz.ntmps221
        go_wp2
        refine bodyPost_ret (v := foundV none) (by simp [results, Tryz.results221, go_sem, foundV, noField]) rfl ⟨by rw [HR.out], below2 _ _ _⟩
    · have HR := Lib.hid hd
      obtain ⟨g, of, hA, d0, d1⟩ := FieldD.at HO.out.metadata hj
      simp only [scopeCells, hA]
      clear hd hx hA
      generalize p.metadata.l[j] = y at *
      go_enter Tryz.func221, Tryz.ntmps221
      go_wp2
      refine bodyPost_ret (v := foundV (some y)) (by simp [results, Tryz.results221, go_sem, foundV]) rfl ⟨by rw [HR.out], below2 _ _ _⟩
  · have HR := Lib.hid (declF_none hx f)
    have h1' : (h == -1) = false := beq_eq_false_iff_ne.2 h1
    clear hx
    rcases h2 with h2 | h2
    all_goals
      go_enter Tryz.func221, Tryz.ntmps221
      go_wp2
      refine bodyPost_ret (v := foundV none) (by simp [results, Tryz.results221, go_sem, foundV, noField]) rfl ⟨by rw [HR.out], below2 _ _ _⟩
  · obtain ⟨g, of, hA, d0, d1⟩ := HeaderD.at HO.out.headers hk
    have HF := Lib.hid (HO.out.hdr _ (List.getElem_mem hk)).fields
    have h1' : ((k : Int) == -1) = false := beq_eq_false_iff_ne.2 (by omega)
    simp only [scopeCells, hA]
    clear hA
    generalize p.headers.l[k] = x at *
    obtain ⟨xn, ⟨fl, fA, fc⟩⟩ := x
    simp only [L.v] at d1
    rcases declF_cases hx f with ⟨h3, hd⟩ | ⟨j, hj, rfl, hd⟩
    · have HR := Lib.hid hd
      simp only at h3
      clear hd hx
      rcases h3 with h3 | h3
      all_goals
        go_enter Tryz.func221, Tryz.ntmps221
        go_wp2
        refine bodyPost_ret (v := foundV none) (by simp [results, Tryz.results221, go_sem, foundV, noField]) rfl ⟨by rw [HR.out], below2 _ _ _⟩
    · have HR := Lib.hid hd
      obtain ⟨g2, of2, hA, e0, e1⟩ := FieldD.at HF.out hj
      simp only at hA hj e0 e1
      subst hA
      clear hd hx
      generalize fl[j] = y at *
      go_enter Tryz.func221, Tryz.ntmps221
      go_wp2
      refine bodyPost_ret (v := foundV (some y)) (by simp [results, Tryz.results221, go_sem, foundV]) rfl ⟨by rw [HR.out], below2 _ _ _⟩
end Go.Proofs.YtbfjknidinkafaaGreat

