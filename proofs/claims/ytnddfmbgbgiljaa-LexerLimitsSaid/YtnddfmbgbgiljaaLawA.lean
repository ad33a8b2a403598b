/- Walks of the laws' helper equal. -/
import Derived.Test.YtnddfmbgbgiljaaLexLaw
namespace Go.Proofs.Ytnddfmbgbgiljaa
open Go.RowKit

theorem tokM_len : ∀ (n : Nat) (l : List UInt8) (at_ : Nat) (out : List Tk), (tokM n l at_ out).1.length ≤ out.length + l.length
  | 0, _, _, _ => Nat.le_add_right _ _
  | n + 1, [], _, _ => Nat.le_add_right _ _
  | n + 1, c :: r, at_, out => by
    rw [tokM]
    split
    · exact Nat.le_trans (tokM_len n r _ _) (by simp only [List.length_cons]; omega)
    · split
      · exact Nat.le_trans (tokM_len n r _ _) (by simp only [List.length_cons]; omega)
      · split
        · exact Nat.le_trans (tokM_len n _ _ _) (by rw [List.length_drop]; omega)
        · split
          · simp
          · split
            · rename_i h0
              have hp := nextM_len (c :: r) h0
              exact Nat.le_trans (tokM_len n _ _ _) (by rw [List.length_drop]; simp only [List.length_append, List.length_singleton]; omega)
            · simp
theorem tokenize_len (l : List UInt8) : (tokenize l).1.length ≤ l.length := by
  unfold tokenize
  split
  · simp
  · have := tokM_len l.length l 1 []
    simpa using this

/-- a slice's cells, nil let in -/
def RdS (w : World) (size : Nat) (A : Option Addr) (n : Nat) (xs : List Value) : Prop :=
  0 < n → ∃ g, A = some ⟨g, 0, none⟩ ∧ g < w.heap.size ∧ ∀ j, j < n * size → w.cell? ⟨g, j, none⟩ = xs[j]?
theorem RdS.of_own {w : World} {base : Nat} {e : TypeId} {size n c : Nat} {A : Option Addr} {xs : List Value} (h : w.ownsRow base e size (.slice A n c) n xs) : RdS w size A n xs := by
  intro hn
  obtain ⟨g, cap, hv, _, hlt⟩ := h.form hn
  have hA : A = some ⟨g, 0, none⟩ := by injection hv
  subst hA
  exact ⟨g, rfl, hlt, fun j hj => h.cellAt j hj⟩
theorem RdS.below {w w' : World} {size n : Nat} {A : Option Addr} {xs : List Value} (h : RdS w size A n xs) (hb : Below w.heap.size w w') : RdS w' size A n xs := by
  intro hn
  obtain ⟨g, e, hg, hc⟩ := h hn
  exact ⟨g, e, Nat.lt_of_lt_of_le hg hb.size, fun j hj => (hb.cell (p := ⟨g, j, none⟩) hg).trans (hc j hj)⟩
theorem tkCells_at (l : List Tk) (i : Nat) (h : i < l.length) (j : Nat) (hj : j < 4) : (tkCells l)[i * 4 + j]? = (l[i]'h).cells.toList[j]? := by
  induction l generalizing i with
  | nil => simp at h
  | cons t l ih =>
    have e : tkCells (t :: l) = t.cells.toList ++ tkCells l := rfl
    have hl : t.cells.toList.length = 4 := rfl
    cases i with
    | zero => rw [e, List.getElem?_append_left (by omega)]; simp
    | succ i =>
      rw [e, List.getElem?_append_right (by omega), hl, show (i + 1) * 4 + j - 4 = i * 4 + j from by omega, ih i (by simpa using h)]
      rfl

set_option maxHeartbeats 1000000 in
theorem equal_true (toks : List Tk) (A B : Option Addr) (c d : Nat) (w : World) (hA : RdS w 4 A toks.length (tkCells toks)) (hB : RdS w 4 B toks.length (tkCells toks)) (hl : toks.length ≤ 1048576) :
    Calls Try.prog 11 #[.slice A toks.length c, .slice B toks.length d] w fun e w' => e = .returned (.bool true) ∧ ∃ n, w' = w.drewN n := by
  have HA := Lib.hid hA
  have HB := Lib.hid hB
  clear hA hB
  go_enter Try.func11, Try.ntmps11
  go_wp2
  go_loopw [5] (fun i wr => ∃ k n : Nat, k ≤ toks.length ∧ i = .int .i64 k ∧ wr = w.drewN n) (fun i _ => toks.length - (intOf i).toNat)
  case atStart => exact ⟨0, 0, Nat.zero_le _, rfl, rfl⟩
  case round =>
    obtain ⟨k, n, hk, rfl, rfl⟩ := hrel
    by_cases hlt : k < toks.length
    · obtain ⟨a, rfl, _, ha⟩ := HA.out (by omega)
      obtain ⟨b, rfl, _, hb⟩ := HB.out (by omega)
      have hat : ∀ j, j < 4 → w.cell? ⟨a, k * 4 + j, none⟩ = toks[k].cells.toList[j]? := fun j hj => by rw [ha _ (by omega), tkCells_at _ _ hlt _ hj]
      have hbt : ∀ j, j < 4 → w.cell? ⟨b, k * 4 + j, none⟩ = toks[k].cells.toList[j]? := fun j hj => by rw [hb _ (by omega), tkCells_at _ _ hlt _ hj]
      generalize toks[k] = tk at hat hbt
      have a0 : w.cell? ⟨a, k * 4, none⟩ = some (.int .i64 tk.kind) := hat 0 (by omega)
      have a1 : w.cell? ⟨a, k * 4 + 1, none⟩ = some (.string ⟨tk.text.toArray⟩) := hat 1 (by omega)
      have a2 : w.cell? ⟨a, k * 4 + 2, none⟩ = some (.int .u32 tk.value) := hat 2 (by omega)
      have a3 : w.cell? ⟨a, k * 4 + 3, none⟩ = some (.int .i64 tk.line) := hat 3 (by omega)
      have b0 : w.cell? ⟨b, k * 4, none⟩ = some (.int .i64 tk.kind) := hbt 0 (by omega)
      have b1 : w.cell? ⟨b, k * 4 + 1, none⟩ = some (.string ⟨tk.text.toArray⟩) := hbt 1 (by omega)
      have b2 : w.cell? ⟨b, k * 4 + 2, none⟩ = some (.int .u32 tk.value) := hbt 2 (by omega)
      have b3 : w.cell? ⟨b, k * 4 + 3, none⟩ = some (.int .i64 tk.line) := hbt 3 (by omega)
      clear hat hbt ha hb
      go_wp2
      go_quiet (fail)
      go_wp2
      go_roundw
      case rel => exact ⟨k + 1, _, by omega, by go_num, rfl⟩
      case measure => simp [intOf]; omega
    · go_wp2
      go_ret
      exact ⟨rfl, _, rfl⟩

set_option maxHeartbeats 1000000 in
theorem law_tokenizes (s : ByteArray) (w : World) (hs : s.size ≤ maxLen) :
    Calls Try.prog 3 #[.string s] w fun e w' => e = .returned (.bool true) ∧ Below w.heap.size w w' := by
  by_cases h : 3000 < s.size
  · have HS := Lib.hid hs
    go_enter Try.func3, Try.ntmps3
    go_wp2_with fail
    refine (works_any _).mono ?_
    rintro e w' ⟨rfl, hb⟩
    go_wp2
    go_ret
    exact ⟨rfl, hb⟩
  · have HS := Lib.hid hs
    have HE := Lib.hid (tokenize_eq s.data.toList)
    have hlen : (tokenize s.data.toList).1.length ≤ 1048576 := Nat.le_trans (tokenize_len _) (by show s.size ≤ _; omega)
    have HL := Lib.hid hlen
    clear hlen
    go_enter Try.func3, Try.ntmps3
    go_wp2_with fail
    refine (tokenize_any s _ HS.out).mono ?_
    rintro e w1 ⟨A, c, rfl, hc, hown, hb⟩
    go_wp2_with fail
    refine (rtokenize_any s _ HS.out).mono ?_
    rintro e w2 ⟨B, d, rfl, hd, hown', hb'⟩
    rw [← HE.out] at hown' hd ⊢
    have HR1 := Lib.hid ((RdS.of_own hown).below hb')
    have HR2 := Lib.hid (RdS.of_own hown')
    clear hown hown' hc hd
    generalize htk : tokenize s.data.toList = r at *
    obtain ⟨toks, line, err⟩ := r
    go_wp2_with fail
    refine (equal_true toks A B c d _ HR1.out HR2.out HL.out).mono ?_
    rintro e w' ⟨rfl, n, rfl⟩
    go_wp2_with fail
    refine (works_any _).mono ?_
    rintro e w' ⟨rfl, hb3⟩
    go_wp2
    go_ret
    exact ⟨rfl, (below_drewN (hb.trans (hb'.mono hb.size)) n).trans (hb3.mono (Nat.le_trans hb.size hb'.size))⟩

end Go.Proofs.Ytnddfmbgbgiljaa
