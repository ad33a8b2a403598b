/- The walk of the reference lexer's first at a symbol. No condition but the length of the text. -/
import Derived.Test.YtnddfmbgbgiljaaRefD
namespace Go.Proofs.Ytnddfmbgbgiljaa
open Go.RowKit

theorem below_set4 {B g : Nat} {a w : World} (h : Below B a w) (hg : B ≤ g) (x0 x1 x2 x3 : Value) : Below B a ((((w.setCell ⟨g, 0, none⟩ x0).setCell ⟨g, 1, none⟩ x1).setCell ⟨g, 2, none⟩ x2).setCell ⟨g, 3, none⟩ x3) :=
  (((h.setCell (p := ⟨g, 0, none⟩) hg _).setCell (p := ⟨g, 1, none⟩) hg _).setCell (p := ⟨g, 2, none⟩) hg _).setCell (p := ⟨g, 3, none⟩) hg _
theorem symList_len : symList.length = 34 := by decide +kernel
theorem symStr_at (k : Nat) (hk : k < 34) : ∃ x : ByteArray, symStr.toArray[k]? = some (.string x) ∧ symList[k]? = some x.data.toList ∧ x.size ≤ 2 := by
  have hl : k < symList.length := by rw [symList_len]; exact hk
  refine ⟨⟨(symList[k]'hl).toArray⟩, ?_, ?_, ?_⟩
  · simp [symStr, List.getElem?_eq_getElem hl]
  · simp [List.getElem?_eq_getElem hl]
  · have h : ∀ x ∈ symList, x.length ≤ 2 := by decide +kernel
    exact h _ (List.getElem_mem hl)
theorem prefix_take (x l : List UInt8) : x.isPrefixOf l = decide (x.length ≤ l.length ∧ l.take x.length = x) := by
  rw [Bool.eq_iff_iff, decide_eq_true_iff, List.isPrefixOf_iff_prefix, List.prefix_iff_eq_take]
  constructor
  · intro h
    refine ⟨?_, h.symm⟩
    have := congrArg List.length h
    rw [List.length_take] at this
    omega
  · intro h; exact h.2.symm
theorem find_hit {p : List UInt8 → Bool} {k : Nat} {x : List UInt8} (hx : symList[k]? = some x) (hno : ∀ j < k, ∀ y, symList[j]? = some y → p y = false) (hp : p x = true) : symList.find? p = some x := by
  rw [List.find?_eq_some_iff_getElem]
  obtain ⟨hk, e⟩ := List.getElem?_eq_some_iff.1 hx
  refine ⟨hp, k, hk, e, fun j hj => ?_⟩
  have := hno j hj _ (List.getElem?_eq_getElem (by omega))
  simpa using this
theorem find_miss {p : List UInt8 → Bool} (hno : ∀ j < 34, ∀ y, symList[j]? = some y → p y = false) : symList.find? p = none := by
  rw [List.find?_eq_none]
  intro x hx
  obtain ⟨j, hj, e⟩ := List.mem_iff_getElem.1 hx
  have := hno j (by rw [← symList_len]; exact hj) x (by rw [List.getElem?_eq_getElem hj, e])
  simpa using this

set_option maxRecDepth 100000 in
set_option maxHeartbeats 2000000 in
theorem first_sym (s : ByteArray) (w : World) (_hs : s.size ≤ 1048576) (h0 : 0 < s.size) (hl : isLet (s[0].toNat : Int) = false) (hd : isDig (s[0].toNat : Int) = false) :
    Calls Try.prog 18 #[.string s] w fun e w' => DigEnd s w e w' := by
  have HN := Lib.hid (firstM_head s h0)
  have HL := Lib.hid hl
  have HD := Lib.hid hd
  clear hl hd
  go_enter Try.func18, Try.ntmps18
  go_wp2_with fail
  refine (rletter_any _ _).mono ?_
  rintro e w' ⟨rfl, rfl⟩
  have hl := HL.out
  go_wp2_with fail
  refine (rdig5_any _ _).mono ?_
  rintro e w' ⟨rfl, rfl⟩
  have hd := HD.out
  go_wp2_with fail
  clear hl hd
  refine (symbols_any _).mono ?_
  rintro e w' ⟨rfl, rfl⟩
  go_wp2
  have hbel : Below w.heap.size w ((w.alloc (.cells #[.int .i64 0, .string ⟨#[]⟩, .int .u32 0, .int .i64 0] 43)).alloc (.cells symStr.toArray 9)) := below_alloc (below_alloc (Below.refl _ _) _) _
  have HB := Lib.hid hbel
  clear hbel
  go_loopw [7] (fun i wr => ∃ k n : Nat, k ≤ 34 ∧ i = .int .i64 k ∧ Hid (∀ j < k, ∀ y, symList[j]? = some y → y.isPrefixOf s.data.toList = false) ∧
      wr = ((w.alloc (.cells #[.int .i64 0, .string ⟨#[]⟩, .int .u32 0, .int .i64 0] 43)).alloc (.cells symStr.toArray 9)).drewN n) (fun i _ => 34 - (intOf i).toNat)
  case atStart => exact ⟨0, 0, by omega, rfl, Lib.hid (fun j hj => absurd hj (Nat.not_lt_zero _)), rfl⟩
  case round =>
    obtain ⟨k, n, hk, rfl, HNO, rfl⟩ := hrel
    by_cases hlt : k < 34
    · obtain ⟨x, hx1, hx2, hx3⟩ := symStr_at k hlt
      have hcell : ((w.alloc (.cells #[.int .i64 0, .string ⟨#[]⟩, .int .u32 0, .int .i64 0] 43)).alloc (.cells symStr.toArray 9)).cell? ⟨w.heap.size + 1, k, none⟩ = some (.string x) := by
        have := (Blk.new (w.alloc (.cells #[.int .i64 0, .string ⟨#[]⟩, .int .u32 0, .int .i64 0] 43)) 9 symStr.toArray).cell k
        rw [hx1] at this
        simpa using this
      have HX2 := Lib.hid hx2
      clear hx1 hx2
      by_cases hge : x.size ≤ s.size
      · have hge' : decide (x.size ≤ s.size) = true := by simpa using hge
        rcases hq : ((s.extract 0 x.size).toList == x.toList) with _ | _
        · have HNP : Hid (x.data.toList.isPrefixOf s.data.toList = false) := by
            refine Lib.hid ?_
            rw [prefix_take, decide_eq_false_iff_not]
            rintro ⟨_, h⟩
            rw [beq_eq_false_iff_ne, toList_data, toList_data, take_data] at hq
            exact hq h
          go_wp2
          go_quiet (fail)
          go_wp2
          go_roundw
          case rel =>
            refine ⟨k + 1, _, by omega, by go_num, Lib.hid fun j hj y hy => ?_, rfl⟩
            rcases Nat.lt_or_ge j k with h | h
            · exact HNO.out j h y hy
            · have e : j = k := by omega
              subst e
              rw [HX2.out] at hy
              injection hy with hy
              rw [← hy]
              exact HNP.out
          case measure => simp [intOf]; omega
        · have HP : Hid (symList.find? (fun y => y.isPrefixOf s.data.toList) = some x.data.toList) := by
            refine Lib.hid (find_hit HX2.out HNO.out ?_)
            rw [prefix_take, decide_eq_true_iff]
            refine ⟨hge, ?_⟩
            rw [beq_iff_eq, toList_data, toList_data, take_data] at hq
            exact hq
          go_wp2
          go_quiet (fail)
          go_wp2
          refine bodyPost_ret (v := .agg #[.int .i64 3, .string x, .int .u32 0, .int .i64 0]) (by simp [results, Try.results18, go_sem]) rfl ⟨?_, ?_⟩
          · rw [firstEnd, HN.out, if_neg (by rw [HL.out]; decide), if_neg (by rw [HD.out]; decide), HP.out]
            rfl
          · exact below_set4 (below_drewN HB.out _) (Nat.le_refl _) _ _ _ _
      · have hge' : decide (x.size ≤ s.size) = false := by simpa using hge
        have HNP : Hid (x.data.toList.isPrefixOf s.data.toList = false) := by
          refine Lib.hid ?_
          rw [prefix_take, decide_eq_false_iff_not]
          rintro ⟨h, _⟩
          exact hge h
        · go_wp2
          go_quiet (fail)
          go_wp2
          go_roundw
          case rel =>
            refine ⟨k + 1, _, by omega, by go_num, Lib.hid fun j hj y hy => ?_, rfl⟩
            rcases Nat.lt_or_ge j k with h | h
            · exact HNO.out j h y hy
            · have e : j = k := by omega
              subst e
              rw [HX2.out] at hy
              injection hy with hy
              rw [← hy]
              exact HNP.out
          case measure => simp [intOf]; omega
    · have HP : Hid (symList.find? (fun y => y.isPrefixOf s.data.toList) = none) := by
        refine Lib.hid (find_miss fun j hj => HNO.out j (by omega))
      go_wp2
      refine bodyPost_ret (v := .agg #[.int .i64 0, .string ⟨#[]⟩, .int .u32 0, .int .i64 0]) (by simp [results, Try.results18, go_sem]) rfl ⟨?_, below_set4 (below_drewN HB.out _) (Nat.le_refl _) _ _ _ _⟩
      rw [firstEnd, HN.out, if_neg (by rw [HL.out]; decide), if_neg (by rw [HD.out]; decide), HP.out]
      rfl

theorem first_any (s : ByteArray) (w : World) (hs : s.size ≤ 1048576) (h0 : 0 < s.size) :
    Calls Try.prog 18 #[.string s] w fun e w' => e = firstEnd s.data.toList ∧ Below w.heap.size w w' := by
  rcases hl : isLet (s[0].toNat : Int) with _ | _
  · rcases hd : isDig (s[0].toNat : Int) with _ | _
    · exact first_sym s w hs h0 hl hd
    · exact first_dig s w hs h0 hl hd
  · exact first_let s w hs h0 hl

end Go.Proofs.Ytnddfmbgbgiljaa
