/- The walk of the reference lexer's Tokenize. No condition. -/
import Derived.Test.YtnddfmbgbgiljaaRefF
namespace Go.Proofs.Ytnddfmbgbgiljaa
open Go.RowKit

theorem Try.infoTok5 : (Try.prog.info? 43).map (fun i => (i.zero, i.size, i.bytes)) = some (some (.agg #[.int .i64 0, .string ⟨#[]⟩, .int .u32 0, .int .i64 0]), 4, 40) := by kernel_rfl

def rtokM : Nat → List UInt8 → Nat → Bool → List Tk → List Tk × Nat × Nat
  | 0, _, _, _, out => (out, 0, 0)
  | n + 1, l, at_, cm, out => match l with
    | [] => (out, 0, 0)
    | c :: r =>
      if c = 10 then rtokM n r (at_ + 1) false out
      else if cm = true ∨ c = 35 then rtokM n r at_ true out
      else if c = 32 ∨ c = 9 then rtokM n r at_ false out
      else if 4096 ≤ out.length then ([], at_, 12)
      else if checkM (firstM (c :: r)) = 0 then rtokM n ((c :: r).drop (firstM (c :: r)).text.length) at_ false (out ++ [{ firstM (c :: r) with line := at_ }])
      else ([], at_, checkM (firstM (c :: r)))
def rtokenize (l : List UInt8) : List Tk × Nat × Nat := if 16384 < l.length then ([], 0, 4) else rtokM l.length l 1 false []

theorem check_pos (l : List UInt8) (h : l ≠ []) (h0 : checkM (firstM l) = 0) : 0 < (firstM l).text.length := by
  match l, h with
  | c :: r, _ =>
    simp only [firstM] at h0 ⊢
    by_cases h1 : isLet c.toNat = true
    · rw [if_pos h1]
      have h3 : 0 < ext isWord (c :: r) := by rw [ext, if_pos (isWord_let h1)]; omega
      show 0 < (List.take _ _).length
      rw [List.length_take]; simp only [List.length_cons]; omega
    · rw [if_neg h1] at h0 ⊢
      by_cases h2 : isDig c.toNat = true
      · rw [if_pos h2]
        have h3 : 0 < ext isAlnum (c :: r) := by rw [ext, if_pos (by rw [isAlnum, h2, Bool.or_true])]; omega
        show 0 < (List.take _ _).length
        rw [List.length_take]; simp only [List.length_cons]; omega
      · rw [if_neg h2] at h0 ⊢
        rcases hf : symList.find? (fun x => x.isPrefixOf (c :: r)) with _ | x
        · simp only [hf] at h0
          simp [checkM, Tk.zero] at h0
        · simp only [hf]
          have hx : ∀ x ∈ symList, 0 < x.length := by decide +kernel
          exact hx x (List.mem_of_find?_eq_some hf)

theorem rtokM_fuel : ∀ (n m : Nat) (l : List UInt8) (at_ : Nat) (cm : Bool) (out : List Tk), l.length ≤ n → l.length ≤ m → rtokM n l at_ cm out = rtokM m l at_ cm out
  | 0, 0, _, _, _, _, _, _ => rfl
  | 0, m + 1, [], _, _, _, _, _ => rfl
  | n + 1, 0, [], _, _, _, _, _ => rfl
  | 0, m + 1, c :: r, _, _, _, h, _ => by simp at h
  | n + 1, 0, c :: r, _, _, _, _, h => by simp at h
  | n + 1, m + 1, [], _, _, _, _, _ => rfl
  | n + 1, m + 1, c :: r, at_, cm, out, hn, hm => by
    have hn' : r.length ≤ n := by simpa using hn
    have hm' : r.length ≤ m := by simpa using hm
    simp only [rtokM]
    split
    · exact rtokM_fuel n m r _ _ _ hn' hm'
    · split
      · exact rtokM_fuel n m r _ _ _ hn' hm'
      · split
        · exact rtokM_fuel n m r _ _ _ hn' hm'
        · split
          · rfl
          · split
            · rename_i h0
              have hx := check_pos (c :: r) (by simp) h0
              refine rtokM_fuel n m _ _ _ _ ?_ ?_ <;> (rw [List.length_drop]; simp only [List.length_cons]; omega)
            · rfl

theorem news_alloc (W : World) (g : Nat) (hg : g = W.heap.size) (cs : List Value) (t : TypeId) : ∀ j u, cs[j]? = some u → (W.alloc (.cells cs.toArray t)).cell? ((⟨g, 0, none⟩ : Addr).add j) = some u := by
  intro j u hj
  subst hg
  have h := (Blk.new W t cs.toArray).cell j
  have e : (⟨W.heap.size, 0, none⟩ : Addr).add j = ⟨W.heap.size, j, none⟩ := by unfold Addr.add; split <;> simp_all
  rw [e, h]
  simpa using hj
theorem own_set {w : World} {base : Nat} {e : TypeId} {size : Nat} {v : Value} {n : Nat} {xs : List Value} (h : w.ownsRow base e size v n xs) {p : Addr} (hp : v.ownBlock ≠ some p.block) (u : Value) : (w.setCell p u).ownsRow base e size v n xs := by
  refine h.kept (row := some p.block) ⟨rfl, rfl, rfl, by simp [World.setCell], fun k _ hk => Below.heap_setCell w p u k (fun e => hk (by rw [e]))⟩ (.inr hp)
def RTokRel (s : ByteArray) (w : World) (lv nv cv iv : Value) (wr : World) : Prop :=
  ∃ (k at_ : Nat) (cm : Bool) (out : List Tk) (A : Option Addr) (c : Nat), iv = .int .i64 k ∧ k ≤ s.size ∧ nv = .int .i64 at_ ∧ at_ ≤ k + 1 ∧ out.length ≤ k ∧ cv = .bool cm ∧
    lv = .slice A out.length c ∧ out.length ≤ c ∧ wr.ownsRow w.heap.size 43 4 (.slice A out.length c) out.length (tkCells out) ∧ Below w.heap.size w wr ∧
    rtokM s.data.toList.length s.data.toList 1 false [] = rtokM s.data.toList.length (s.data.toList.drop k) at_ cm out
def RTokEnd (s : ByteArray) (w : World) (e : Ending) (w' : World) : Prop :=
  ∃ (A : Option Addr) (c : Nat), e = .returned (.tuple #[.slice A (rtokenize s.data.toList).1.length c, .int .i64 (rtokenize s.data.toList).2.1, .int .i64 (rtokenize s.data.toList).2.2]) ∧ (rtokenize s.data.toList).1.length ≤ c ∧
    w'.ownsRow w.heap.size 43 4 (.slice A (rtokenize s.data.toList).1.length c) (rtokenize s.data.toList).1.length (tkCells (rtokenize s.data.toList).1) ∧ Below w.heap.size w w'

theorem rtok_step {s : ByteArray} {k at_ : Nat} {cm : Bool} {out : List Tk} (h : rtokM s.data.toList.length s.data.toList 1 false [] = rtokM s.data.toList.length (s.data.toList.drop k) at_ cm out) (h0 : k < s.size)
    {j : Nat} (hj : 0 < j) {b : Nat} {cm' : Bool} {out' : List Tk} (hs : ∀ n, rtokM (n + 1) (s.data.toList.drop k) at_ cm out = rtokM n (s.data.toList.drop (k + j)) b cm' out') :
    rtokM s.data.toList.length s.data.toList 1 false [] = rtokM s.data.toList.length (s.data.toList.drop (k + j)) b cm' out' := by
  rw [h]
  obtain ⟨n, hn⟩ : ∃ n, s.data.toList.length = n + 1 := ⟨s.data.toList.length - 1, by have : s.data.toList.length = s.size := rfl; omega⟩
  have e : (s.data.toList.drop (k + j)).length = s.size - (k + j) := by rw [List.length_drop]; rfl
  have e2 : s.data.toList.length = s.size := rfl
  have hs' := hs n
  rw [← hn] at hs'
  rw [hs']
  exact rtokM_fuel _ _ _ _ _ _ (by omega) (by omega)

set_option maxRecDepth 100000 in
set_option maxHeartbeats 4000000 in
theorem rtokenize_any (s : ByteArray) (w : World) (hs0 : s.size ≤ maxLen) :
    Calls Try.prog 10 #[.string s] w fun e w' => RTokEnd s w e w' := by
  unfold maxLen at hs0
  by_cases hlong : 16384 < s.size
  · go_enter Try.func10, Try.ntmps10
    go_wp2
    go_ret3
    have e : rtokenize s.data.toList = ([], 0, 4) := by rw [rtokenize, if_pos (show 16384 < s.data.toList.length from hlong)]
    refine ⟨none, 0, ?_⟩
    rw [e]
    exact ⟨rfl, Nat.le_refl _, World.ownsRow_nil _ _ _ _, Below.refl _ _⟩
  · obtain ⟨i0, hi, hz0, hz1, hz2'⟩ := info_parts Try.infoTok5
    have hs : s.size ≤ 16384 := by omega
    have HT : Hid (rtokenize s.data.toList = rtokM s.data.toList.length s.data.toList 1 false []) := by
      refine Lib.hid ?_
      rw [rtokenize, if_neg (show ¬ 16384 < s.data.toList.length from hlong)]
    clear hs0
    go_enter Try.func10, Try.ntmps10
    go_wp2
    go_loopw [5, 6, 7, 8] (fun lv nv cv iv wr => RTokRel s w lv nv cv iv wr) (fun _ _ _ iv _ => s.size - (intOf iv).toNat)
    case atStart => exact ⟨0, 1, false, [], none, 0, rfl, Nat.zero_le _, rfl, by omega, by simp, rfl, rfl, Nat.le_refl _, World.ownsRow_nil _ _ _ _, Below.refl _ _, rfl⟩
    case round =>
      obtain ⟨k, at_, cm, out, A, c, rfl, hk, rfl, hat, hout, rfl, rfl, hc, hown, hbel, hrun⟩ := hrel
      have HR := Lib.hid hrun
      clear hrun
      by_cases h0 : k < s.size
      · have HD := Lib.hid (drop_cons s k h0)
        by_cases h1 : s[k] = 10
        · have H1 := Lib.hid h1
          have h1' : ((s[k].toNat : Int) == 10) = true := by rw [h1]; rfl
          have h1a : ((s[k].toNat : Int) == 35) = false := by rw [h1]; rfl
          have h1b : ((s[k].toNat : Int) == 32) = false := by rw [h1]; rfl
          have h1c : ((s[k].toNat : Int) == 9) = false := by rw [h1]; rfl
          clear h1
          go_wp2
          go_roundw
          case rel =>
            refine ⟨k + 1, at_ + 1, false, out, A, c, by go_num, by omega, by go_num, by omega, by omega, rfl, rfl, hc, hown, hbel, ?_⟩
            refine rtok_step HR.out h0 (j := 1) (by omega) fun n => ?_
            rw [HD.out, rtokM, if_pos H1.out]
          case measure => simp [intOf]; omega
        · have H1 := Lib.hid h1
          have h1' : ((s[k].toNat : Int) == 10) = false := byte_ne h1
          clear h1
          by_cases h2 : cm = true ∨ s[k] = 35
          · have H2 := Lib.hid h2
            have h2' : cm = true ∨ (cm = false ∧ ((s[k].toNat : Int) == 35) = true) := by
              rcases h2 with h | h
              · exact .inl h
              · cases cm
                · exact .inr ⟨rfl, by rw [h]; rfl⟩
                · exact .inl rfl
            clear h2
            have HS : Hid (rtokM s.data.toList.length s.data.toList 1 false [] = rtokM s.data.toList.length (s.data.toList.drop (k + 1)) at_ true out) := by
              refine Lib.hid (rtok_step HR.out h0 (j := 1) (by omega) fun n => ?_)
              rw [HD.out, rtokM, if_neg H1.out, if_pos H2.out]
            rcases h2' with rfl | ⟨rfl, h2'⟩
            all_goals
              go_wp2
              go_roundw
              case rel => exact ⟨k + 1, at_, true, out, A, c, by go_num, by omega, rfl, by omega, by omega, rfl, rfl, hc, hown, hbel, HS.out⟩
              case measure => simp [intOf]; omega
          · have H2 := Lib.hid h2
            have hcm : cm = false := by cases cm; rfl; exact absurd (.inl rfl) h2
            subst hcm
            have h2' : ((s[k].toNat : Int) == 35) = false := byte_ne (fun h => h2 (.inr h))
            clear h2
            by_cases h3 : s[k] = 32 ∨ s[k] = 9
            · have H3 := Lib.hid h3
              have h3' : ((s[k].toNat : Int) == 32) = true ∨ (((s[k].toNat : Int) == 32) = false ∧ ((s[k].toNat : Int) == 9) = true) := by
                rcases h3 with h | h
                · left; rw [h]; rfl
                · right; rw [h]; exact ⟨rfl, rfl⟩
              clear h3
              have HS : Hid (rtokM s.data.toList.length s.data.toList 1 false [] = rtokM s.data.toList.length (s.data.toList.drop (k + 1)) at_ false out) := by
                refine Lib.hid (rtok_step HR.out h0 (j := 1) (by omega) fun n => ?_)
                rw [HD.out, rtokM, if_neg H1.out, if_neg H2.out, if_pos H3.out]
              rcases h3' with h3' | ⟨h3', h4'⟩
              all_goals
                go_wp2
                go_roundw
                case rel => exact ⟨k + 1, at_, false, out, A, c, by go_num, by omega, rfl, by omega, by omega, rfl, rfl, hc, hown, hbel, HS.out⟩
                case measure => simp [intOf]; omega
            · have h3a : ((s[k].toNat : Int) == 32) = false := byte_ne (fun h => h3 (.inl h))
              have h3b : ((s[k].toNat : Int) == 9) = false := byte_ne (fun h => h3 (.inr h))
              have H3 := Lib.hid h3
              clear h3
              by_cases h5 : 4096 ≤ out.length
              · go_wp2
                go_ret3
                have e : rtokenize s.data.toList = ([], at_, 12) := by
                  obtain ⟨n, hn⟩ : ∃ n, s.data.toList.length = n + 1 := ⟨s.data.toList.length - 1, by have : s.data.toList.length = s.size := rfl; omega⟩
                  rw [HT.out, HR.out, hn, HD.out, rtokM, if_neg H1.out, if_neg H2.out, if_neg H3.out, if_pos h5]
                refine ⟨none, 0, ?_⟩
                rw [e]
                exact ⟨rfl, Nat.le_refl _, World.ownsRow_nil _ _ _ _, hbel⟩
              · have hsz : (s.extract k s.size).size ≤ 1048576 := by rw [size_rest]; omega
                have hps : 0 < (s.extract k s.size).size := by rw [size_rest]; omega
                have HX := Lib.hid (show (s.extract k s.size).size ≤ 1048576 ∧ 0 < (s.extract k s.size).size from ⟨hsz, hps⟩)
                clear hsz hps
                go_wp2_with fail
                refine (first_any _ _ HX.out.1 HX.out.2).mono ?_
                rintro e w1 ⟨rfl, hb⟩
                rw [firstEnd, Lib.extract_to_end]
                have hne : s.data.toList.drop k ≠ [] := by rw [HD.out]; simp
                have hll : (s.data.toList.drop k).length ≤ 1048576 := by rw [List.length_drop]; show s.size - k ≤ _; omega
                have HP := Lib.hid (firstM_props _ hne)
                have HCH := Lib.hid (check_first _ hne hll)
                have HPOS := Lib.hid (check_pos _ hne)
                have HLL : Hid ((firstM (s.data.toList.drop k)).text.length ≤ s.size - k) := Lib.hid (Nat.le_trans (firstM_props _ hne).2.1 (by rw [List.length_drop]; exact Nat.le_refl _))
                clear hne hll
                have HSTEP : Hid (∀ n, rtokM (n + 1) (s.data.toList.drop k) at_ false out = if checkM (firstM (s.data.toList.drop k)) = 0 then rtokM n ((s.data.toList.drop k).drop (firstM (s.data.toList.drop k)).text.length) at_ false (out ++ [{ firstM (s.data.toList.drop k) with line := at_ }])
                    else ([], at_, checkM (firstM (s.data.toList.drop k)))) := by
                  refine Lib.hid fun n => ?_
                  conv => lhs; rw [HD.out, rtokM, if_neg H1.out, if_neg H2.out, if_neg H3.out, if_neg h5, ← HD.out]
                generalize hT : firstM (s.data.toList.drop k) = tk at *
                clear hT
                have hown1 := own_below hown hb
                have hbel1 := hbel.trans (hb.mono hbel.size)
                clear hown hbel hb
                rw [show tk.cells = #[.int .i64 tk.kind, .string ⟨tk.text.toArray⟩, .int .u32 tk.value, .int .i64 tk.line] from rfl]
                have hw1 := hbel1.size
                have hbk1 := Blk.new w1 43 #[.int .i64 tk.kind, .string ⟨tk.text.toArray⟩, .int .u32 tk.value, .int .i64 tk.line]
                have hbA := below_alloc hbel1 (.cells #[.int .i64 tk.kind, .string ⟨tk.text.toArray⟩, .int .u32 tk.value, .int .i64 tk.line] 43)
                have HA := Lib.hid (And.intro hbk1 hbA)
                clear hbk1 hbA
                go_wp2_with fail
                refine (HCH.out _ _).mono ?_
                rintro e w2 ⟨rfl, hb2⟩
                have hz2 : w1.heap.size < w2.heap.size := by have := hb2.size; simp at this; omega
                have hbk2 : Blk w2 w1.heap.size 43 #[.int .i64 tk.kind, .string ⟨tk.text.toArray⟩, .int .u32 tk.value, .int .i64 tk.line] := HA.out.1.below hb2 (by simp)
                have hown2 : w2.ownsRow w.heap.size 43 4 (.slice A out.length c) out.length (tkCells out) := own_below (hown1.alloc _) hb2
                have hbel2 : Below w.heap.size w w2 := HA.out.2.trans (hb2.mono HA.out.2.size)
                have HW := Lib.hid (And.intro hbk2 (And.intro hown2 (And.intro hbel2 hown1)))
                have k0 : w2.cell? ⟨w1.heap.size, 0, none⟩ = some (.int .i64 tk.kind) := hbk2.cell 0
                have k1 : w2.cell? ⟨w1.heap.size, 1, none⟩ = some (.string ⟨tk.text.toArray⟩) := hbk2.cell 1
                have k2 : w2.cell? ⟨w1.heap.size, 2, none⟩ = some (.int .u32 tk.value) := hbk2.cell 2
                have k3 : w2.cell? ⟨w1.heap.size, 3, none⟩ = some (.int .i64 tk.line) := hbk2.cell 3
                have kf : w2.frozen? ⟨w1.heap.size, 3, none⟩ = false := hbk2.frozen 3
                clear hbk2 hown2 hbel2 hown1 hb2 hbel1
                by_cases h6 : checkM tk = 0
                · have H6 := Lib.hid h6
                  have h6' : ((checkM tk : Int) != 0) = false := by rw [h6]; rfl
                  have hpl0 := HPOS.out h6
                  have hpl1 := HLL.out
                  clear h6
                  have hbk3 := HW.out.1.set_ 3 (.int .i64 at_)
                  have hob : (Value.slice A out.length c).ownBlock ≠ some w1.heap.size := by
                    intro e
                    have := (HW.out.2.2.2.lt _ e).2
                    omega
                  have hown3 := own_set HW.out.2.1 (p := ⟨w1.heap.size, 3, none⟩) hob (.int .i64 at_)
                  have H3W := Lib.hid (And.intro hbk3 hown3)
                  clear hbk3 hown3
                  go_wp2_with (first
                    | (at_builtin; refine wpList_append_own _ rfl _ _ 27 rfl w.heap.size 43 i0 _ 4 40 Try.underlying27 hi hz0 hz1 hz2' rfl (by decide) _ _ _ rfl (H3W.out.2.alloc _) ⟨w2.heap.size, 0, none⟩ 1 1 [.int .i64 tk.kind, .string ⟨tk.text.toArray⟩, .int .u32 tk.value, .int .i64 at_] rfl rfl ?c1 ?c2 ?c3 ?c4 ?c5 ?_))
                  case c1 => exact news_alloc _ _ (by simp [World.setCell]) [_, _, _, _] _
                  case c2 => intro u hu; simp at hu; rcases hu with rfl | rfl | rfl | rfl <;> rfl
                  case c3 => unfold maxLen; omega
                  case c4 => omega
                  case c5 => have := HW.out.2.2.1.size; simp [World.setCell]; omega
                  intro v' w3 hown3 hgrow _
                  have hbel3 : Below w.heap.size w w3 := by
                    have hA := below_alloc (Below.setCell (p := ⟨w1.heap.size, 3, none⟩) HW.out.2.2.1 hw1 (.int .i64 at_)) (.cells #[.int .i64 tk.kind, .string ⟨tk.text.toArray⟩, .int .u32 tk.value, .int .i64 at_] 43)
                    exact hA.grown hgrow hA.size fun k hk => (HW.out.2.2.2.lt k hk).1
                  have hbk3 := (H3W.out.1.alloc (.cells #[.int .i64 tk.kind, .string ⟨tk.text.toArray⟩, .int .u32 tk.value, .int .i64 at_] 43)).grown hgrow (fun e => hob e.symm)
                  have k1' : w3.cell? ⟨w1.heap.size, 1, none⟩ = some (.string ⟨tk.text.toArray⟩) := hbk3.cell 1
                  have HB := Lib.hid hbel3
                  have HO := Lib.hid hown3
                  obtain ⟨A', c', hv, hc'⟩ := own_slice hown3
                  have HC := Lib.hid hc'
                  have HV := Lib.hid hv
                  clear hbel3 hown3 hgrow hc' hbk3 hv
                  go_wp2
                  go_roundw
                  case rel =>
                    have hl : (out ++ [({ tk with line := at_ } : Tk)]).length = out.length + 1 := by simp
                    refine ⟨k + tk.text.length, at_, false, out ++ [{ tk with line := at_ }], A', c', by go_num, by omega, rfl, by omega, by rw [hl]; omega, rfl, by rw [hl]; exact HV.out, by rw [hl]; exact HC.out, ?_, HB.out, ?_⟩
                    · rw [hl, tkCells_snoc, ← HV.out]
                      exact HO.out
                    · refine rtok_step HR.out h0 hpl0 fun n => ?_
                      rw [HSTEP.out, if_pos H6.out, List.drop_drop]
                  case measure => simp [intOf]; omega
                · have h6' : ((checkM tk : Int) != 0) = true := by rw [bne_iff_ne]; omega
                  go_wp2_with fail
                  refine (HCH.out _ _).mono ?_
                  rintro e w3 ⟨rfl, hb3⟩
                  go_wp2
                  go_ret3
                  have e : rtokenize s.data.toList = ([], at_, checkM tk) := by
                    obtain ⟨n, hn⟩ : ∃ n, s.data.toList.length = n + 1 := ⟨s.data.toList.length - 1, by have : s.data.toList.length = s.size := rfl; omega⟩
                    rw [HT.out, HR.out, hn, HSTEP.out, if_neg h6]
                  refine ⟨none, 0, ?_⟩
                  rw [e]
                  exact ⟨rfl, Nat.le_refl _, World.ownsRow_nil _ _ _ _, HW.out.2.2.1.trans (hb3.mono HW.out.2.2.1.size)⟩
      · have hz : s.data.toList.drop k = [] := List.drop_of_length_le (by show s.size ≤ k; omega)
        have HZ := Lib.hid hz
        clear hz
        go_wp2
        go_ret3
        have e : rtokenize s.data.toList = (out, 0, 0) := by
          rw [HT.out, HR.out, HZ.out]
          cases s.data.toList.length <;> rfl
        refine ⟨A, c, ?_⟩
        rw [e]
        exact ⟨rfl, hc, hown, hbel⟩

end Go.Proofs.Ytnddfmbgbgiljaa
