/- Walks of the reference on fields and operators: Arity, wide, Declared, Width. No condition but that the program lies in memory. -/
import Derived.Test.YtbfjknidinkafaaGreatRcA
namespace Go.Proofs.YtbfjknidinkafaaGreat
open Go.RowKit

theorem rarity_any (op : Int) (w : World) : Calls Tryz.prog 213 #[.int .i64 op] w fun e w' => e = .returned (.int .i64 (arityM op)) ∧ w = w' := by
  have hd : op < 1 ∨ (1 ≤ op ∧ op ≤ 4) ∨ (5 ≤ op ∧ op ≤ 8) ∨ (9 ≤ op ∧ op ≤ 16) ∨ op = 17 ∨ 17 < op := by omega
  rcases hd with h | ⟨h1, h2⟩ | ⟨h1, h2⟩ | ⟨h1, h2⟩ | h | h
  · have HR := Lib.hid (show arityM op = -1 by unfold arityM; repeat' split <;> omega)
    have k1 : (op == 17) = false := beq_eq_false_iff_ne.2 (by omega)
    have k2 : ¬ 5 ≤ op := by omega
    have k3 : ¬ 9 ≤ op := by omega
    go_enter Tryz.func213, Tryz.ntmps213
    go_wp2
    go_ret
    exact ⟨by rw [HR.out]; rfl, rfl⟩
  · have HR := Lib.hid (show arityM op = 0 by unfold arityM; repeat' split <;> omega)
    go_enter Tryz.func213, Tryz.ntmps213
    go_wp2
    go_ret
    exact ⟨by rw [HR.out]; rfl, rfl⟩
  · have HR := Lib.hid (show arityM op = 1 by unfold arityM; repeat' split <;> omega)
    have k2 : 1 ≤ op := by omega
    have k3 : ¬ op ≤ 4 := by omega
    go_enter Tryz.func213, Tryz.ntmps213
    go_wp2
    go_ret
    exact ⟨by rw [HR.out]; rfl, rfl⟩
  · have HR := Lib.hid (show arityM op = 2 by unfold arityM; repeat' split <;> omega)
    have k2 : 1 ≤ op := by omega
    have k3 : ¬ op ≤ 4 := by omega
    have k4 : 5 ≤ op := by omega
    have k5 : ¬ op ≤ 8 := by omega
    go_enter Tryz.func213, Tryz.ntmps213
    go_wp2
    go_ret
    exact ⟨by rw [HR.out]; rfl, rfl⟩
  · subst h
    go_enter Tryz.func213, Tryz.ntmps213
    go_wp2
    go_ret
    exact ⟨rfl, rfl⟩
  · have HR := Lib.hid (show arityM op = -1 by unfold arityM; repeat' split <;> omega)
    have k1 : (op == 17) = false := beq_eq_false_iff_ne.2 (by omega)
    have k2 : 1 ≤ op := by omega
    have k3 : ¬ op ≤ 4 := by omega
    have k4 : 5 ≤ op := by omega
    have k5 : ¬ op ≤ 8 := by omega
    have k6 : 9 ≤ op := by omega
    have k7 : ¬ op ≤ 16 := by omega
    go_enter Tryz.func213, Tryz.ntmps213
    go_wp2
    go_ret
    exact ⟨by rw [HR.out]; rfl, rfl⟩
theorem rwide_any (n : Int) (w : World) : Calls Tryz.prog 219 #[.int .i64 n] w fun e w' => e = .returned (.tuple #[.int .i64 (wideM n).1, .int .i64 (wideM n).2]) ∧ w = w' := by
  cases h : okW n
  · have HR := Lib.hid (wideM_bad h)
    have h' := okW_not.1 h
    clear h
    by_cases h2 : n < 1
    · go_enter Tryz.func219, Tryz.ntmps219
      go_wp2
      go_ret2
      exact ⟨by rw [HR.out]; rfl, rfl⟩
    · have h1 : 32 < n := by omega
      go_enter Tryz.func219, Tryz.ntmps219
      go_wp2
      go_ret2
      exact ⟨by rw [HR.out]; rfl, rfl⟩
  · have HR := Lib.hid (wideM_ok h)
    obtain ⟨h1, h2⟩ := okW_iff.1 h
    go_enter Tryz.func219, Tryz.ntmps219
    go_wp2
    go_ret2
    exact ⟨by rw [HR.out]; rfl, rfl⟩
theorem widthAt_decl (p : ProgD) (h f : Int) : widthAt p h f = match declF p h f with | some d => if okW d.width = true then d.width else 0 | none => 0 := by
  have hn : okW noField.width = false := rfl
  unfold widthAt fieldsM
  rcases fieldsOf_cases p h with ⟨rfl, hx⟩ | ⟨h1, h2, hx⟩ | ⟨k, hk, rfl, hx⟩
  · rw [if_pos rfl]
    rcases declF_cases hx f with ⟨h3, hd⟩ | ⟨j, hj, rfl, hd⟩
    · have e : fieldAt p.metadata f = noField := by
        unfold fieldAt
        split
        · rfl
        · rw [List.getElem?_eq_none (by omega)]; rfl
      rw [hd, e, hn]; rfl
    · have e : fieldAt p.metadata j = p.metadata.l[j] := by rw [fieldAt, if_neg (by omega)]; simp [hj]
      rw [hd, e]
  · have e : headerAt p.headers h = noHeader := by
      unfold headerAt
      split
      · rfl
      · rw [List.getElem?_eq_none (by omega)]; rfl
    have e2 : fieldAt noHeader.fields f = noField := by
      unfold fieldAt
      split <;> rfl
    rw [if_neg h1, declF_none hx f, e, e2, hn]; rfl
  · have e0 : headerAt p.headers k = p.headers.l[k] := by rw [headerAt, if_neg (by omega)]; simp [hk]
    rw [if_neg (show ¬ ((k : Nat) : Int) = -1 by omega), e0]
    rcases declF_cases hx f with ⟨h3, hd⟩ | ⟨j, hj, rfl, hd⟩
    · have e : fieldAt p.headers.l[k].fields f = noField := by
        unfold fieldAt
        split
        · rfl
        · rw [List.getElem?_eq_none (by omega)]; rfl
      rw [hd, e, hn]; rfl
    · have e : fieldAt p.headers.l[k].fields j = p.headers.l[k].fields.l[j] := by rw [fieldAt, if_neg (by omega)]; simp [hj]
      rw [hd, e]
/-- a declared width, and whether there is one -/
def declV (d : Option FieldD) : Value := .tuple #[.int .i64 (d.getD noField).width, .bool d.isSome]
set_option maxRecDepth 100000 in
set_option maxHeartbeats 2000000 in
theorem rdeclared_any (p : ProgD) (h f : Int) (w : World) (o : ProgOk w p) :
    Calls Tryz.prog 183 #[.agg (progCells p), .agg #[.int .i64 h, .int .i64 f]] w fun e w' => e = .returned (declV (declF p h f)) ∧ Below w.heap.size w w' := by
  have HO := Lib.hid o
  clear o
  have hca := @World.cell?_alloc_some
  rcases fieldsOf_cases p h with ⟨rfl, hx⟩ | ⟨h1, h2, hx⟩ | ⟨k, hk, rfl, hx⟩
  · rcases declF_cases hx f with ⟨h3, hd⟩ | ⟨j, hj, rfl, hd⟩
    · have HR := Lib.hid hd
      clear hd hx
      by_cases h4 : f < 0
      · clear h3
        go_enter Tryz.func183, Tryz.ntmps183
        go_wp2
        go_ret2
        exact ⟨by rw [HR.out]; rfl, below2 _ _ _⟩
      · have h5 : (p.metadata.l.length : Int) ≤ f := by omega
        clear h3
        go_enter Tryz.func183, Tryz.ntmps183
        go_wp2
        go_ret2
        exact ⟨by rw [HR.out]; rfl, below2 _ _ _⟩
    · have HR := Lib.hid hd
      obtain ⟨g, of, hA, d0, d1⟩ := FieldD.at HO.out.metadata hj
      simp only [progCells, hA]
      clear hd hx hA
      generalize p.metadata.l[j] = y at *
      go_enter Tryz.func183, Tryz.ntmps183
      go_wp2
      go_ret2
      exact ⟨by rw [HR.out]; rfl, below2 _ _ _⟩
  · have HR := Lib.hid (declF_none hx f)
    have h1' : (h == -1) = false := beq_eq_false_iff_ne.2 h1
    clear hx
    by_cases h4 : h < 0
    · clear h2
      go_enter Tryz.func183, Tryz.ntmps183
      go_wp2
      go_ret2
      exact ⟨by rw [HR.out]; rfl, below2 _ _ _⟩
    · have h5 : (p.headers.l.length : Int) ≤ h := by omega
      clear h2
      go_enter Tryz.func183, Tryz.ntmps183
      go_wp2
      go_ret2
      exact ⟨by rw [HR.out]; rfl, below2 _ _ _⟩
  · obtain ⟨g, of, hA, d0, d1⟩ := HeaderD.at HO.out.headers hk
    have HF := Lib.hid (HO.out.hdr _ (List.getElem_mem hk)).fields
    have h1' : ((k : Int) == -1) = false := beq_eq_false_iff_ne.2 (by omega)
    simp only [progCells, hA]
    clear hA
    generalize p.headers.l[k] = x at *
    obtain ⟨xn, ⟨fl, fA, fc⟩⟩ := x
    simp only [L.v] at d1
    rcases declF_cases hx f with ⟨h3, hd⟩ | ⟨j, hj, rfl, hd⟩
    · have HR := Lib.hid hd
      simp only at h3
      clear hd hx
      by_cases h4 : f < 0
      · clear h3
        go_enter Tryz.func183, Tryz.ntmps183
        go_wp2
        go_ret2
        exact ⟨by rw [HR.out]; rfl, below2 _ _ _⟩
      · have h5 : (fl.length : Int) ≤ f := by omega
        clear h3
        go_enter Tryz.func183, Tryz.ntmps183
        go_wp2
        go_ret2
        exact ⟨by rw [HR.out]; rfl, below2 _ _ _⟩
    · have HR := Lib.hid hd
      simp only at hj
      obtain ⟨g2, of2, hA, e0, e1⟩ := FieldD.at HF.out hj
      simp only at hA e0 e1
      subst hA
      clear hd hx
      simp only at HR
      generalize fl[j] = y at *
      go_enter Tryz.func183, Tryz.ntmps183
      go_wp2
      go_ret2
      exact ⟨by rw [HR.out]; rfl, below2 _ _ _⟩
end Go.Proofs.YtbfjknidinkafaaGreat

