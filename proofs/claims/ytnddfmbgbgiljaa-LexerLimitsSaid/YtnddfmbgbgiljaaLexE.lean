/- The walk of the lexer's Tokenize. No condition. -/
import Derived.Test.YtnddfmbgbgiljaaLexD
namespace Go.Proofs.Ytnddfmbgbgiljaa
open Go.RowKit

theorem Try.infoTok : (Try.prog.info? 34).map (fun i => (i.zero, i.size, i.bytes)) = some (some (.agg #[.int .i64 0, .string ⟨#[]⟩, .int .u32 0, .int .i64 0]), 4, 40) := by kernel_rfl

set_option maxHeartbeats 400000 in
theorem nl_any (c : Int) (w : World) :
    Calls Try.prog 16 #[.int .u8 c] w fun e w' => e = .returned (.bool (notNl c)) ∧ w = w' := by
  go_enter Try.func16, Try.ntmps16
  go_wp2
  go_ret
  exact ⟨rfl, rfl⟩
theorem ext_nl (s : ByteArray) (w : World) (hs : s.size ≤ maxLen) :
    Calls Try.prog 15 #[.string s, .func (.func 16) #[] #[]] w fun e w' => e = .returned (.int .i64 (ext notNl s.data.toList)) ∧ w = w' :=
  extent_any _ notNl s w hs (fun _ _ => by kernel_rfl) (Lib.hid nl_any)

def TokRel (s : ByteArray) (w : World) (sv lv av : Value) (wr : World) : Prop :=
  ∃ (t : ByteArray) (at_ : Nat) (out : List Tk) (A : Option Addr) (c : Nat), sv = .string t ∧ t.size ≤ s.size ∧ av = .int .i64 at_ ∧ at_ + t.size ≤ s.size + 1 ∧ out.length + t.size ≤ s.size ∧
    lv = .slice A out.length c ∧ out.length ≤ c ∧ wr.ownsRow w.heap.size 34 4 (.slice A out.length c) out.length (tkCells out) ∧ Below w.heap.size w wr ∧
    tokM s.data.toList.length s.data.toList 1 [] = tokM s.data.toList.length t.data.toList at_ out
def TokEnd (s : ByteArray) (w : World) (e : Ending) (w' : World) : Prop :=
  ∃ (A : Option Addr) (c : Nat), e = .returned (.tuple #[.slice A (tokenize s.data.toList).1.length c, .int .i64 (tokenize s.data.toList).2.1, .int .i64 (tokenize s.data.toList).2.2]) ∧ (tokenize s.data.toList).1.length ≤ c ∧
    w'.ownsRow w.heap.size 34 4 (.slice A (tokenize s.data.toList).1.length c) (tokenize s.data.toList).1.length (tkCells (tokenize s.data.toList).1) ∧ Below w.heap.size w w'

def strSize : Value → Nat
  | .string t => t.size
  | _ => 0
theorem size_rest (t : ByteArray) (k : Nat) : (t.extract k t.size).size = t.size - k := by simp
theorem tok_step {s t : ByteArray} {at_ : Nat} {out : List Tk} (h : tokM s.data.toList.length s.data.toList 1 [] = tokM s.data.toList.length t.data.toList at_ out) (ht : t.size ≤ s.size) (h0 : 0 < t.size)
    {k : Nat} (hk : 0 < k) {b : Nat} {out' : List Tk} (hs : ∀ n, tokM (n + 1) t.data.toList at_ out = tokM n (t.data.toList.drop k) b out') :
    tokM s.data.toList.length s.data.toList 1 [] = tokM s.data.toList.length (t.extract k t.size).data.toList b out' := by
  rw [h, Lib.extract_to_end]
  obtain ⟨n, hn⟩ : ∃ n, s.data.toList.length = n + 1 := ⟨s.data.toList.length - 1, by have : s.data.toList.length = s.size := rfl; omega⟩
  rw [hn, hs n]
  have e : (t.data.toList.drop k).length = t.size - k := by rw [List.length_drop]; rfl
  have e2 : s.data.toList.length = s.size := rfl
  exact tokM_fuel _ _ _ _ _ (by omega) (by omega)

set_option maxRecDepth 100000 in
set_option maxHeartbeats 2000000 in
theorem tokenize_any (s : ByteArray) (w : World) (hs0 : s.size ≤ maxLen) :
    Calls Try.prog 9 #[.string s] w fun e w' => TokEnd s w e w' := by
  unfold maxLen at hs0
  by_cases hlong : 16384 < s.size
  · go_enter Try.func9, Try.ntmps9
    go_wp2
    go_step3
    go_wp2
    rw [Exit.noGoto_ret]
    go_ret3
    have e : tokenize s.data.toList = ([], 0, 4) := by rw [tokenize, if_pos (show 16384 < s.data.toList.length from hlong)]
    refine ⟨none, 0, ?_⟩
    rw [e]
    exact ⟨rfl, Nat.le_refl _, World.ownsRow_nil _ _ _ _, Below.refl _ _⟩
  · obtain ⟨i0, hi, hz0, hz1, hz2⟩ := info_parts Try.infoTok
    have hs : s.size ≤ 16384 := by omega
    have HT : Hid (tokenize s.data.toList = tokM s.data.toList.length s.data.toList 1 []) := by
      refine Lib.hid ?_
      rw [tokenize, if_neg (show ¬ 16384 < s.data.toList.length from hlong)]
    clear hs0
    go_enter Try.func9, Try.ntmps9
    go_wp2
    go_step3
    go_wp2
    go_step3
    go_wp2
    go_loopw [0, 2, 5] (fun sv lv av wr => TokRel s w sv lv av wr) (fun sv _ _ _ => strSize sv)
    case atStart => exact ⟨s, 1, [], none, 0, rfl, Nat.le_refl _, rfl, by omega, by simp, rfl, Nat.le_refl _, World.ownsRow_nil _ _ _ _, Below.refl _ _, rfl⟩
    case round =>
      obtain ⟨t, at_, out, A, c, rfl, htl, rfl, hat, hout, rfl, hc, hown, hbel, hrun⟩ := hrel
      have HR := Lib.hid hrun
      clear hrun
      by_cases h0 : 0 < t.size
      · have HL := Lib.hid (list_one t h0)
        have hin : ∀ k : UInt8, t[0] ≠ k → ((t[0].toNat : Int) == (k.toNat : Int)) = false := fun k h => byte_ne h
        have HIN := Lib.hid hin
        clear hin
        by_cases h1 : t[0] = 10
        · have h1' : ((t[0].toNat : Int) == 10) = true := by rw [h1]; rfl
          have H1 := Lib.hid h1
          clear h1
          go_wp2
          go_roundw
          case rel =>
            refine ⟨t.extract 1 t.size, at_ + 1, out, A, c, rfl, by rw [size_rest]; omega, by go_num, by rw [size_rest]; omega, by rw [size_rest]; omega, rfl, hc, hown, hbel, ?_⟩
            refine tok_step HR.out htl h0 (k := 1) (by omega) fun n => ?_
            rw [HL.out, tokM]
            simp only [H1.out, if_true, List.drop_succ_cons, List.drop_zero]
          case measure => show (t.extract 1 t.size).size < t.size; rw [size_rest]; omega
        · have h1' : ((t[0].toNat : Int) == 10) = false := HIN.out 10 h1
          have H1 := Lib.hid h1
          clear h1
          by_cases h2 : t[0] = 32 ∨ t[0] = 9
          · have H2 := Lib.hid h2
            have h2' : ((t[0].toNat : Int) == 32) = true ∨ (((t[0].toNat : Int) == 32) = false ∧ ((t[0].toNat : Int) == 9) = true) := by
              rcases h2 with h | h
              · left; rw [h]; rfl
              · right; rw [h]; exact ⟨rfl, rfl⟩
            clear h2
            rcases h2' with h2' | ⟨h2', h3'⟩
            all_goals
              go_wp2
              go_roundw
              case rel =>
                refine ⟨t.extract 1 t.size, at_, out, A, c, rfl, by rw [size_rest]; omega, rfl, by rw [size_rest]; omega, by rw [size_rest]; omega, rfl, hc, hown, hbel, ?_⟩
                refine tok_step HR.out htl h0 (k := 1) (by omega) fun n => ?_
                rw [HL.out, tokM]
                simp only [H1.out, H2.out, if_true, if_false, List.drop_succ_cons, List.drop_zero]
              case measure => show (t.extract 1 t.size).size < t.size; rw [size_rest]; omega
          · have h2' : ((t[0].toNat : Int) == 32) = false := HIN.out 32 (fun h => h2 (.inl h))
            have h3' : ((t[0].toNat : Int) == 9) = false := HIN.out 9 (fun h => h2 (.inr h))
            have H2 := Lib.hid h2
            clear h2
            by_cases h4 : t[0] = 35
            · have h4' : ((t[0].toNat : Int) == 35) = true := by rw [h4]; rfl
              have H4 := Lib.hid h4
              clear h4
              have hle : ext notNl t.data.toList ≤ t.size := ext_le _ _
              have hpos : 0 < ext notNl t.data.toList := by rw [HL.out, ext, if_pos (by rw [H4.out]; decide)]; omega
              go_wp2_with fail
              refine (ext_nl _ _ (by unfold maxLen; omega)).mono ?_
              rintro e w' ⟨rfl, rfl⟩
              go_wp2
              go_roundw
              case rel =>
                refine ⟨t.extract (ext notNl t.data.toList) t.size, at_, out, A, c, rfl, by rw [size_rest]; omega, rfl, by rw [size_rest]; omega, by rw [size_rest]; omega, rfl, hc, hown, hbel, ?_⟩
                refine tok_step HR.out htl h0 hpos fun n => ?_
                rw [HL.out, tokM, if_neg H1.out, if_neg H2.out, if_pos H4.out]
              case measure => show (t.extract _ t.size).size < t.size; rw [size_rest]; omega
            · have h4' : ((t[0].toNat : Int) == 35) = false := HIN.out 35 h4
              have H4 := Lib.hid h4
              clear h4
              by_cases h5 : 4096 ≤ out.length
              · go_wp2
                rw [Exit.noGoto_ret]
                go_ret3
                have e : tokenize s.data.toList = ([], at_, 12) := by
                  obtain ⟨n, hn⟩ : ∃ n, s.data.toList.length = n + 1 := ⟨s.data.toList.length - 1, by have : s.data.toList.length = s.size := rfl; omega⟩
                  rw [HT.out, HR.out, hn, HL.out, tokM, if_neg H1.out, if_neg H2.out, if_neg H4.out, if_pos h5]
                refine ⟨none, 0, ?_⟩
                rw [e]
                exact ⟨rfl, Nat.le_refl _, World.ownsRow_nil _ _ _ _, hbel⟩
              · go_wp2_with fail
                refine (next_any t _ (by omega) h0).mono ?_
                rintro e w1 ⟨rfl, hb⟩
                rcases hn : nextM t.data.toList with ⟨tk, f⟩
                rw [show nextEnd t.data.toList = .returned (.tuple #[.agg #[.int .i64 tk.kind, .string ⟨tk.text.toArray⟩, .int .u32 tk.value, .int .i64 tk.line], .int .i64 f]) from by rw [nextEnd, hn]; rfl]
                have HN := Lib.hid hn
                clear hn
                have hown1 := own_below hown hb
                have hbel1 := hbel.trans (hb.mono hbel.size)
                clear hown hbel hb
                by_cases h6 : f = 0
                · have H6 := Lib.hid h6
                  have h6' : ((f : Int) != 0) = false := by rw [h6]; rfl
                  have hpl := nextM_len t.data.toList (by rw [HN.out]; exact H6.out)
                  rw [HN.out] at hpl
                  simp only at hpl
                  obtain ⟨hpl0, hpl1⟩ := hpl
                  replace hpl1 : tk.text.length ≤ t.size := hpl1
                  clear h6
                  go_wp2_with (first
                    | (at_builtin; refine wpList_append_own _ rfl _ _ 23 rfl w.heap.size 34 i0 _ 4 40 Try.underlying23 hi hz0 hz1 hz2 rfl (by decide) _ _ _ rfl ((hown1.alloc _).alloc _) ⟨w1.heap.size + 1, 0, none⟩ 1 1 [.int .i64 tk.kind, .string ⟨tk.text.toArray⟩, .int .u32 tk.value, .int .i64 at_] rfl rfl ?c1 ?c2 ?c3 ?c4 ?c5 ?_))
                  case c1 =>
                    intro j u hj
                    match j, hj with
                    | 0, hj => simp at hj; subst hj; simp [Addr.add]
                    | 1, hj => simp at hj; subst hj; simp [Addr.add]
                    | 2, hj => simp at hj; subst hj; simp [Addr.add]
                    | 3, hj => simp at hj; subst hj; simp [Addr.add]
                  case c2 => intro u hu; simp at hu; rcases hu with rfl | rfl | rfl | rfl <;> rfl
                  case c3 => unfold maxLen; omega
                  case c4 => omega
                  case c5 => have := hbel1.size; simp; omega
                  intro v' w2 hown2 hgrow _
                  have hbel2 : Below w.heap.size w w2 := by
                    refine (below_alloc (below_alloc hbel1 _) _).grown hgrow (by have := hbel1.size; simp; omega) fun k hk => ?_
                    exact (hown1.lt k hk).1
                  have HB := Lib.hid hbel2
                  have HO := Lib.hid hown2
                  obtain ⟨A', c', hv, hc'⟩ := own_slice hown2
                  have HC := Lib.hid hc'
                  have HV := Lib.hid hv
                  clear hbel2 hown2 hgrow hc' hbel1 hown1 hv
                  go_wp2
                  go_roundw
                  case rel =>
                    have hl : (out ++ [({ tk with line := at_ } : Tk)]).length = out.length + 1 := by simp
                    refine ⟨t.extract tk.text.length t.size, at_, out ++ [{ tk with line := at_ }], A', c', rfl, by rw [size_rest]; omega, rfl, by rw [size_rest]; omega, by rw [size_rest, hl]; omega, by rw [hl]; exact HV.out, by rw [hl]; exact HC.out, ?_, HB.out, ?_⟩
                    · rw [hl, tkCells_snoc, ← HV.out]
                      exact HO.out
                    · refine tok_step HR.out htl h0 hpl0 fun n => ?_
                      rw [HL.out, tokM, if_neg H1.out, if_neg H2.out, if_neg H4.out, if_neg h5, ← HL.out, HN.out, if_pos H6.out]
                  case measure => show (t.extract _ t.size).size < t.size; rw [size_rest]; omega
                · have h6' : ((f : Int) != 0) = true := by rw [bne_iff_ne]; omega
                  go_wp2
                  rw [Exit.noGoto_ret]
                  go_ret3
                  have e : tokenize s.data.toList = ([], at_, f) := by
                    obtain ⟨n, hn⟩ : ∃ n, s.data.toList.length = n + 1 := ⟨s.data.toList.length - 1, by have : s.data.toList.length = s.size := rfl; omega⟩
                    rw [HT.out, HR.out, hn, HL.out, tokM, if_neg H1.out, if_neg H2.out, if_neg H4.out, if_neg h5, ← HL.out, HN.out, if_neg h6]
                  refine ⟨none, 0, ?_⟩
                  rw [e]
                  exact ⟨rfl, Nat.le_refl _, World.ownsRow_nil _ _ _ _, hbel1.alloc hbel1.size _⟩
      · have hz : t.data.toList = [] := List.eq_nil_of_length_eq_zero (show t.size = 0 by omega)
        have HZ := Lib.hid hz
        clear hz
        go_wp2
        try rw [Exit.noGoto_ret]
        go_ret3
        have e : tokenize s.data.toList = (out, 0, 0) := by
          rw [HT.out, HR.out, HZ.out]
          cases s.data.toList.length <;> rfl
        refine ⟨A, c, ?_⟩
        rw [e]
        exact ⟨rfl, hc, hown, hbel⟩

end Go.Proofs.Ytnddfmbgbgiljaa
