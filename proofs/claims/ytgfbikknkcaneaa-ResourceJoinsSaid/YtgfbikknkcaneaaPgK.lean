/- Walks of resource's add, Sum, Fits and of their references. The list's length: at most 1000. -/
import Derived.Test.YtgfbikknkcaneaaPgJ
import Derived.Deep.RegionLaw
import Derived.IntWalk
namespace Go.Proofs.Ytgfbikknkcaneaa
open Go.RowKit

def maxInt : Nat := 9223372036854775807
def addM (a b : Nat) : Nat := if maxInt - a < b then maxInt else a + b
theorem addM_le {a b : Nat} (ha : a ≤ maxInt) : addM a b ≤ maxInt := by unfold addM; split <;> omega
theorem add_any (a b : Nat) (w : World) (ha : a ≤ maxInt) (hb : b ≤ maxInt) :
    Calls Try.prog 14 #[.int .i64 a, .int .i64 b] w fun e w' => e = .returned (.int .i64 (addM a b)) ∧ w = w' := by
  unfold maxInt at ha hb
  by_cases h : 9223372036854775807 - a < b
  · have HM := Lib.hid (show addM a b = 9223372036854775807 by rw [addM, if_pos (by unfold maxInt; exact h)]; rfl)
    have h1 : (9223372036854775807 : Int) - (a : Int) < (b : Int) := by omega
    go_enter Try.func14, Try.ntmps14
    go_wp2
    go_ret
    exact ⟨by rw [HM.out]; rfl, rfl⟩
  · have HM := Lib.hid (show addM a b = a + b by rw [addM, if_neg (by unfold maxInt; exact h)])
    have h1 : ¬ (9223372036854775807 : Int) - (a : Int) < (b : Int) := by omega
    go_enter Try.func14, Try.ntmps14
    go_wp2
    go_ret
    exact ⟨by rw [HM.out]; rfl, rfl⟩
/-- the reference's sum: a negative number counts nought -/
theorem radd_any (a : Nat) (b : Int) (w : World) (ha : a ≤ maxInt) (hb : b ≤ 9223372036854775807) :
    Calls Try.prog 15 #[.int .i64 a, .int .i64 b] w fun e w' => e = .returned (.int .i64 (addM a b.toNat)) ∧ w = w' := by
  unfold maxInt at ha
  by_cases h0 : b ≤ 0
  · have HM := Lib.hid (show addM a b.toNat = a by rw [addM, show b.toNat = 0 by omega, if_neg (by unfold maxInt; omega)]; rfl)
    go_enter Try.func15, Try.ntmps15
    go_wp2
    go_ret
    exact ⟨by rw [HM.out]; rfl, rfl⟩
  · obtain ⟨n, rfl⟩ : ∃ n : Nat, b = n := ⟨b.toNat, by omega⟩
    rw [Int.toNat_natCast]
    by_cases h : 9223372036854775807 - n < a
    · have HM := Lib.hid (show addM a n = 9223372036854775807 by rw [addM, if_pos (by unfold maxInt; omega)]; rfl)
      have h1 : (9223372036854775807 : Int) - (n : Int) < (a : Int) := by omega
      go_enter Try.func15, Try.ntmps15
      go_wp2
      go_ret
      exact ⟨by rw [HM.out]; rfl, rfl⟩
    · have HM := Lib.hid (show addM a n = a + n by rw [addM, if_neg (by unfold maxInt; omega)])
      have h1 : ¬ (9223372036854775807 : Int) - (n : Int) < (a : Int) := by omega
      go_enter Try.func15, Try.ntmps15
      go_wp2
      go_ret
      exact ⟨by rw [HM.out]; rfl, rfl⟩

structure ResD where
  s : Int
  t : Int
def ResD.cells (r : ResD) : List Value := [.int .i64 r.s, .int .i64 r.t]
theorem ResD.at {w : World} {x : L ResD} (h : LOk w 2 ResD.cells x) {i : Nat} (hi : i < x.l.length) :
    ∃ g o, x.A = some ⟨g, o, none⟩ ∧ w.cell? ⟨g, o + i * 2, none⟩ = some (.int .i64 x.l[i].s) ∧ w.cell? ⟨g, o + i * 2 + 1, none⟩ = some (.int .i64 x.l[i].t) := by
  obtain ⟨g, o, e, _, hc⟩ := h.at hi
  exact ⟨g, o, e, hc 0 (by omega), hc 1 (by omega)⟩
def ResD.wf (r : ResD) : Prop := (-9223372036854775808 ≤ r.s ∧ r.s ≤ 9223372036854775807) ∧ (-9223372036854775808 ≤ r.t ∧ r.t ≤ 9223372036854775807)
def sumS (l : List ResD) : Nat := l.foldl (fun a r => addM a r.s.toNat) 0
def sumT (l : List ResD) : Nat := l.foldl (fun a r => addM a r.t.toNat) 0
theorem sumS_snoc (l : List ResD) (r : ResD) : sumS (l ++ [r]) = addM (sumS l) r.s.toNat := by simp [sumS]
theorem sumT_snoc (l : List ResD) (r : ResD) : sumT (l ++ [r]) = addM (sumT l) r.t.toNat := by simp [sumT]
theorem foldS_le : ∀ (l : List ResD) (a : Nat), a ≤ maxInt → l.foldl (fun a r => addM a r.s.toNat) a ≤ maxInt
  | [], _, h => h
  | _ :: l, _, h => foldS_le l _ (addM_le h)
theorem foldT_le : ∀ (l : List ResD) (a : Nat), a ≤ maxInt → l.foldl (fun a r => addM a r.t.toNat) a ≤ maxInt
  | [], _, h => h
  | _ :: l, _, h => foldT_le l _ (addM_le h)
theorem sumS_le (l : List ResD) : sumS l ≤ maxInt := foldS_le l 0 (Nat.zero_le _)
theorem sumT_le (l : List ResD) : sumT l ≤ maxInt := foldT_le l 0 (Nat.zero_le _)

theorem fits_any2 (s t : Int) (c : Fin 8 → Int) (w : World) :
    Calls Try.prog 9 #[.agg #[.int .i64 s, .int .i64 t], .agg #[.int .i64 (c 0), .int .i64 (c 1), .int .i64 (c 2), .int .i64 (c 3), .int .i64 (c 4), .int .i64 (c 5), .int .i64 (c 6), .int .i64 (c 7)]] w
      fun e w' => e = .returned (.bool (decide (s ≤ c 3) && decide (t ≤ c 4))) ∧ Below w.heap.size w w' := by
  by_cases h : s ≤ c 3
  · have H := Lib.hid h
    go_enter Try.func9, Try.ntmps9
    go_wp2
    go_ret
    exact ⟨by rw [decide_eq_true H.out]; rfl, below2 _ _ _⟩
  · have H := Lib.hid h
    go_enter Try.func9, Try.ntmps9
    go_wp2
    go_ret
    exact ⟨by rw [decide_eq_false (show ¬ s ≤ c 3 by have := H.out; omega)]; rfl, below2 _ _ _⟩
theorem rfits_any2 (s t : Int) (c : Fin 8 → Int) (w : World) :
    Calls Try.prog 10 #[.agg #[.int .i64 s, .int .i64 t], .agg #[.int .i64 (c 0), .int .i64 (c 1), .int .i64 (c 2), .int .i64 (c 3), .int .i64 (c 4), .int .i64 (c 5), .int .i64 (c 6), .int .i64 (c 7)]] w
      fun e w' => e = .returned (.bool (decide (s ≤ c 3) && decide (t ≤ c 4))) ∧ Below w.heap.size w w' := by
  by_cases h : s ≤ c 3
  · have H := Lib.hid h
    go_enter Try.func10, Try.ntmps10
    go_wp2
    go_ret
    exact ⟨by rw [decide_eq_true H.out]; rfl, below2 _ _ _⟩
  · have H := Lib.hid h
    go_enter Try.func10, Try.ntmps10
    go_wp2
    go_ret
    exact ⟨by rw [decide_eq_false (show ¬ s ≤ c 3 by have := H.out; omega)]; rfl, below2 _ _ _⟩
end Go.Proofs.Ytgfbikknkcaneaa

