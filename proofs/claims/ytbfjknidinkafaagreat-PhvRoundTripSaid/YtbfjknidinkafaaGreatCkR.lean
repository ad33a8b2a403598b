/- Walks of package parser's Check and package deparser's Check on any program. No condition but that the program lies in memory and its numbers are of their kinds. -/
import Derived.Test.YtbfjknidinkafaaGreatCkQ
namespace Go.Proofs.YtbfjknidinkafaaGreat
open Go.RowKit Go.Maps

def slit (s : ByteArray) : Lit := .string s.data.toList
theorem slit_key (l : List ByteArray) : ∀ a ∈ l.map slit, WideAt.IsKeyLit a := by
  intro a ha
  obtain ⟨b, _, rfl⟩ := List.mem_map.1 ha
  trivial
theorem slit_mem {l : List ByteArray} {a : ByteArray} : (slit a ∈ l.map slit) = (a ∈ l) := by
  rw [List.mem_map]
  apply propext
  constructor
  · rintro ⟨b, hb, e⟩
    injection e with e
    cases a; cases b
    simp only [Array.toList_inj] at e
    subst e; exact hb
  · exact fun h => ⟨a, h, rfl⟩
theorem look_str {w : World} {b n : Nat} {l : List ByteArray} (h : w.ownsMap Tryz.prog 9 (plainElem (H := Unit) Tryz.prog 4) b n (setL (l.map slit))) (a : ByteArray) (ha : a.size ≤ maxLen) :
    (Instr.lookup 221 (.map (some b)) (.string a) false).run Tryz.prog w = .ok (.bool (Lib.containsS l a)) w := by
  refine look_bool h (string_keyed Tryz.underlying9) Tryz.underlying221 Tryz.underlying4 (by kernel_rfl) (Go.WideMaps.keyOf_string_mk Tryz.underlying9 ha) _ ?_
  obtain ⟨h1, h2⟩ := setL_at (slit a) (l.map slit) (.map []) isMap_empty (slit_key l)
  rw [slit_mem] at h1 h2
  by_cases hm : a ∈ l
  · rw [(Lib.containsS_iff _ _).2 hm]; exact h1 hm
  · rw [show Lib.containsS l a = false by rw [Bool.eq_false_iff]; exact fun e => hm ((Lib.containsS_iff _ _).1 e)]; exact h2 hm

theorem stateAtM_at (p : ProgD) (k : Nat) (h : k < p.states.l.length) : stateAtM p k = if ident p.states.l[k].name = false then some ((k : Int), -1, 6) else if dupB (p.states.l.map StateD.name) k = true then some ((k : Int), -1, 7)
    else if (stateM p k p.states.l[k]).2 ≠ 0 then some ((k : Int), (stateM p k p.states.l[k]).1, (stateM p k p.states.l[k]).2) else none := by
  rw [stateAtM, List.getElem?_eq_getElem h]
theorem dup_of {l : List ByteArray} {i : Nat} (h : i < l.length) : Lib.containsS (l.take i) l[i] = dupB l i := by
  rw [dupB]; congr 1; simp [h]
theorem ret_3 {a b c : Int} {r : Int × Int × Int} (h : r = (a, b, c)) : Ending.returned (.tuple #[.int .i64 a, .int .i64 b, .int .i64 c]) = .returned (.tuple #[.int .i64 r.1, .int .i64 r.2.1, .int .i64 r.2.2]) := by rw [h]

set_option maxRecDepth 100000 in
set_option maxHeartbeats 8000000 in
theorem parserCheck_any (p : ProgD) (w : World) (o : ProgOk w p) (hc : ∀ s ∈ p.states.l, ∀ c ∈ s.cases.l, (Lit.int .u32 c.value).wf = true ∧ (Lit.int .u32 c.mask).wf = true) :
    Calls Tryz.prog 135 #[.agg (progCells p)] w fun e w' => e = .returned (.tuple #[.int .i64 (parserM p).1, .int .i64 (parserM p).2.1, .int .i64 (parserM p).2.2]) ∧ Below w.heap.size w w' := by
  have HO := Lib.hid o
  have HC := Lib.hid hc
  obtain ⟨W, hW, hw, HB, hp⟩ := box1 w (progCells p) 31
  have HW := Lib.hid hw
  have HOW := Lib.hid (o.below hw)
  have HR := Lib.hid (parserM.eq_1 p)
  have HS := Lib.hid (stateAtM_at p)
  have HT := Lib.hid (take_snoc (p.states.l.map StateD.name))
  have hmm := @run_makeMap Tryz.prog
  clear o hw hc
  by_cases h1 : p.states.l.length = 0
  · replace HR := Lib.hid (HR.out.trans (if_pos h1))
    have h1' : ((p.states.l.length : Int) == 0) = true := by rw [beq_iff_eq]; omega
    clear h1
    go_enter Tryz.func135, Tryz.ntmps135
    go_wp2
    go_ret3
    exact ⟨ret_3 HR.out, below1 _ _⟩
  replace HR := Lib.hid (HR.out.trans (if_neg h1))
  have h1' : ((p.states.l.length : Int) == 0) = false := by rw [beq_eq_false_iff_ne]; omega
  clear h1
  by_cases h2 : 12 < p.states.l.length
  · replace HR := Lib.hid (HR.out.trans (if_pos h2))
    go_enter Tryz.func135, Tryz.ntmps135
    go_wp2
    go_ret3
    exact ⟨ret_3 HR.out, below1 _ _⟩
  replace HR := Lib.hid (HR.out.trans (if_neg h2))
  have h3 : p.states.l.length ≤ 12 := by omega
  clear h2
  obtain ⟨g, of, hA, hall⟩ := StateD.allA HOW.out.states (show 0 < p.states.l.length by
    have := h1'
    rw [beq_eq_false_iff_ne] at this
    omega)
  have HAA := Lib.hid hA
  have HAL := Lib.hid hall
  simp only [progCells, hA] at hp hW ⊢
  clear hA hall
  obtain ⟨W1, hW1⟩ : ∃ W1, W1 = W.alloc (.map #[] 0) := ⟨_, rfl⟩
  have b1 : Below W.heap.size W W1 := by rw [hW1]; exact below1 _ _
  have hown : W1.ownsMap Tryz.prog 9 (plainElem (H := Unit) Tryz.prog 4) W.heap.size 0 (setL []) := by rw [hW1]; exact World.ownsMap_made _ _ _ _
  have HOM := Lib.hid hown
  have HB1 := Lib.hid b1
  clear hown b1
  go_enter Tryz.func135, Tryz.ntmps135
  go_upto_region 1 with fail
  rw [← hW]
  clear hW
  have hp1 := hp W HB
  have hca := @World.cell?_alloc_some
  go_wp2
  rw [← hW1]
  clear hW1 HB hmm hp1 hca
  go_loopw [6, 7, 8, 9, 24] (fun _ _ _ _ iv wr => ∃ k : Nat, k ≤ p.states.l.length ∧ iv = .int .i64 k ∧ (∀ j, j < k → stateAtM p j = none) ∧ Below W.heap.size W wr ∧ wr.ownsMap Tryz.prog 9 (plainElem (H := Unit) Tryz.prog 4) W.heap.size k (setL (((p.states.l.map StateD.name).take k).map slit)))
    (fun _ _ _ _ i _ => p.states.l.length - (intOf i).toNat)
  case atStart => exact ⟨0, Nat.zero_le _, rfl, fun j h => absurd h (Nat.not_lt_zero _), HB1.out, HOM.out⟩
  case round =>
    obtain ⟨k, hk, rfl, hpre, HB, hown⟩ := hrel
    have HPre := Lib.hid hpre
    have HOwn := Lib.hid hown
    clear hpre hown
    by_cases hlt : k < p.states.l.length
    · obtain ⟨d0, d1, d2, d3, d4, d5, d6⟩ := HAL.out wr HB k hlt
      have HE := Lib.hid (HS.out k hlt)
      have HN : Hid (p.states.l[k].name.size ≤ maxLen) := Lib.hid (HOW.out.state _ (List.getElem_mem hlt)).name
      have HD : Hid (Lib.containsS ((p.states.l.map StateD.name).take k) p.states.l[k].name = dupB (p.states.l.map StateD.name) k) := Lib.hid (by
        have := dup_of (l := p.states.l.map StateD.name) (i := k) (by simpa using hlt)
        rwa [List.getElem_map] at this)
      have HTk : Hid (((p.states.l.map StateD.name).take (k + 1)).map slit = ((p.states.l.map StateD.name).take k).map slit ++ [slit p.states.l[k].name]) := Lib.hid (by
        rw [HT.out k (by simpa using hlt), List.map_append, List.getElem_map]; rfl)
      have HCS := Lib.hid (fun w o => checkState_any p k hlt w o (HC.out _ (List.getElem_mem hlt)))
      generalize p.states.l[k] = s at *
      obtain ⟨sn, ⟨xl, xA, xc⟩, sel, oh, sf, ⟨cl, cA, cc⟩, df⟩ := s
      simp only at HE HN HD HTk d0 d1 d2 d3 d4 d5 d6
      have hp1 := hp wr HB
      have hca := @World.cell?_alloc_some
      have HOwn2 := Lib.hid (HOwn.out.alloc (.cells #[.string sn, .slice xA xl.length xc, .bool sel, .int .i64 oh, .int .i64 sf, .slice cA cl.length cc, .int .i64 df] 132))
      have hl := look_str HOwn2.out sn HN.out
      go_wp2_with fail
      refine (isIdent_any sn _ HN.out).mono ?_
      rintro e w' ⟨rfl, rfl⟩
      cases h1 : identM sn.data.toList
      · have HE2 := Lib.hid (HE.out.trans (if_pos (show ident sn = false from h1)))
        have HR2 := Lib.hid (HR.out.trans (show _ = ((k : Int), (-1 : Int), (6 : Int)) by rw [firstE_some hlt HPre.out HE2.out]))
        go_wp2
        go_ret3
        exact ⟨ret_3 HR2.out, below_step HW.out (by first | exact HB | exact below_alloc HB _ | exact below_alloc (below_alloc HB _) _ | exact below_alloc (below_alloc (below_alloc HB _) _) _)⟩
      have HE2 := Lib.hid (HE.out.trans (if_neg (show ¬ ident sn = false by rw [show ident sn = true from h1]; simp)))
      clear HE h1
      rw [HD.out] at hl
      cases h4 : dupB (p.states.l.map StateD.name) k
      case true =>
        have HE3 := Lib.hid (HE2.out.trans (if_pos h4))
        have HR2 := Lib.hid (HR.out.trans (show _ = ((k : Int), (-1 : Int), (7 : Int)) by rw [firstE_some hlt HPre.out HE3.out]))
        rw [h4] at hl
        go_wp2
        go_ret3
        exact ⟨ret_3 HR2.out, below_step HW.out (by first | exact HB | exact below_alloc HB _ | exact below_alloc (below_alloc HB _) _ | exact below_alloc (below_alloc (below_alloc HB _) _) _)⟩
      have HE3 := Lib.hid (HE2.out.trans (if_neg (by rw [h4]; simp)))
      rw [h4] at hl
      have hbA := below_alloc HB (.cells #[.string sn, .slice xA xl.length xc, .bool sel, .int .i64 oh, .int .i64 sf, .slice cA cl.length cc, .int .i64 df] 132)
      go_wp2_with (first
        | (at_mapUpdate; refine wpList_mapUpdate_own _ rfl _ _ _ 221 rfl 9 4 (string_keyed Tryz.underlying9) Tryz.underlying221 (plainElem (H := Unit) Tryz.prog 4) W.heap.size k (setL (((p.states.l.map StateD.name).take k).map slit)) rfl HOwn2.out ?m1 _ _ (slit sn) rfl rfl ?m2 (.lit (.bool true)) [] ?m3 ?_))
      case m1 => unfold maxLen; omega
      case m2 => exact Go.WideMaps.keyOf_string_mk Tryz.underlying9 HN.out
      case m3 => exact plainElem_bool Tryz.underlying4 true
      intro w2 hown2 hgrow2
      replace HB : Below W.heap.size W w2 := hbA.grown hgrow2 hbA.size fun j hj => by simp at hj; omega
      have HO2 : Hid (w2.ownsMap Tryz.prog 9 (plainElem (H := Unit) Tryz.prog 4) W.heap.size (k + 1) (setL (((p.states.l.map StateD.name).take (k + 1)).map slit))) := Lib.hid (by rw [HTk.out, setL_snoc, List.map_take, List.map_map]; exact hown2)
      clear hown2 hgrow2 hl hbA HOwn2 d0 d1 d2 d3 d4 d5 d6 hp1 hca
      go_wp2_with fail
      have hCN := HCS.out w2 (HO.out.below (below_step HW.out HB))
      simp only [progCells, HAA.out] at hCN
      refine hCN.mono ?_
      clear hCN
      rintro e w3 ⟨rfl, hbN⟩
      have HO3 := Lib.hid (HO2.out.kept (only_of_below hbN none) (by simp))
      replace HB := below_step HB hbN
      clear hbN
      generalize hsm : stateM p k ⟨sn, ⟨xl, xA, xc⟩, sel, oh, sf, ⟨cl, cA, cc⟩, df⟩ = sm at *
      obtain ⟨sub, ec⟩ := sm
      simp only at HE3
      by_cases k1 : ec = 0
      · subst k1
        have HE4 := Lib.hid (HE3.out.trans (if_neg (by simp)))
        go_wp2
        go_roundw
        case rel => exact ⟨k + 1, by omega, by go_num, firstE_step HPre.out HE4.out, HB, HO3.out⟩
        case measure => simp [intOf]; omega
      · have k1' : (ec == 0) = false := beq_eq_false_iff_ne.2 k1
        have HE4 := Lib.hid (HE3.out.trans (if_pos k1))
        have HR2 := Lib.hid (HR.out.trans (show _ = ((k : Int), sub, ec) by rw [firstE_some hlt HPre.out HE4.out]))
        go_wp2
        go_ret3
        exact ⟨ret_3 HR2.out, below_step HW.out HB⟩
    · have e : k = p.states.l.length := by omega
      have HR2 := Lib.hid (HR.out.trans (show _ = ((0 : Int), (0 : Int), (0 : Int)) by rw [firstE_none (by rw [← e]; exact HPre.out)]))
      go_wp2
      go_ret3
      exact ⟨ret_3 HR2.out, below_step HW.out HB⟩

theorem depAtM_at (p : ProgD) (l : List Int) (k : Nat) (h : k < l.length) : depAtM p l k = if l[k] < 0 ∨ (p.headers.l.length : Int) ≤ l[k] then some ((k : Int), 8) else if l[k] ∈ l.take k then some ((k : Int), 7) else none := by
  rw [depAtM, List.getElem?_eq_getElem h]

set_option maxRecDepth 100000 in
set_option maxHeartbeats 8000000 in
theorem deparserCheck_any (p : ProgD) (w : World) (o : ProgOk w p) (hc : p.deparser.l.length ≤ p.deparser.c) :
    Calls Tryz.prog 137 #[.agg (progCells p)] w fun e w' => e = .returned (.tuple #[.int .i64 (depM p).1, .int .i64 (depM p).2]) ∧ Below w.heap.size w w' := by
  obtain ⟨W, hW, hw, HB, hp⟩ := box1 w (progCells p) 31
  have HW := Lib.hid hw
  have HOW := Lib.hid (o.below hw)
  have HR := Lib.hid (depM.eq_1 p)
  have HS := Lib.hid (depAtM_at p p.deparser.l)
  clear o hw
  by_cases h2 : 8 < p.deparser.l.length
  · replace HR := Lib.hid (HR.out.trans (if_pos h2))
    go_enter Tryz.func137, Tryz.ntmps137
    go_wp2
    go_ret2
    exact ⟨ret_pp HR.out, below1 _ _⟩
  replace HR := Lib.hid (HR.out.trans (if_neg h2))
  have h3 : p.deparser.l.length ≤ 8 := by omega
  clear h2
  by_cases h1 : p.deparser.l.length = 0
  · have HR2 := Lib.hid (HR.out.trans (show _ = ((0 : Int), (0 : Int)) by rw [h1]; rfl))
    have h4 : (p.deparser.l.length : Int) ≤ 0 := by omega
    have h5 : ¬ (0 : Int) < (p.deparser.l.length : Int) := by omega
    clear h1
    go_enter Tryz.func137, Tryz.ntmps137
    go_wp2
    refine wp_loop_rounds 1 ?_
    rw [rounds_succ]
    go_wp2
    go_ret2
    exact ⟨ret_pp HR2.out, below1 _ _⟩
  obtain ⟨g, of, hA, hall⟩ := icell_allA HOW.out.deparser (show 0 < p.deparser.l.length by omega)
  have HAL := Lib.hid hall
  simp only [progCells, hA] at hp hW ⊢
  clear hA hall h1
  have HB0 := Lib.hid HB
  go_enter Tryz.func137, Tryz.ntmps137
  go_upto_region 1 with fail
  rw [← hW]
  clear hW
  go_wp2
  clear HB
  go_loopw [4, 5, 13] (fun _ _ iv wr => ∃ k : Nat, k ≤ p.deparser.l.length ∧ iv = .int .i64 k ∧ (∀ j, j < k → depAtM p p.deparser.l j = none) ∧ Below W.heap.size W wr) (fun _ _ i _ => p.deparser.l.length - (intOf i).toNat)
  case atStart => exact ⟨0, Nat.zero_le _, rfl, fun j h => absurd h (Nat.not_lt_zero _), HB0.out⟩
  case round =>
    obtain ⟨k, hk, rfl, hpre, HB⟩ := hrel
    have HPre := Lib.hid hpre
    clear hpre
    by_cases hlt : k < p.deparser.l.length
    · have d0 := HAL.out wr HB k hlt
      have HE := Lib.hid (HS.out k hlt)
      have HCn : Hid (Calls Tryz.prog 181 #[.slice (some ⟨g, of, none⟩) k p.deparser.c, .int .i64 p.deparser.l[k]] wr fun e w' => e = .returned (.bool ((p.deparser.l.take k).contains p.deparser.l[k])) ∧ w' = wr) :=
        Lib.hid (Tryz.slices_Contains_int g of k p.deparser.c p.deparser.l p.deparser.l[k] wr (by omega) (by omega) (fun j hj => by rw [HAL.out wr HB j hj]; simp [hj]))
      have hi1 : (k : Int) ≤ (p.deparser.l.length : Int) := by omega
      have hi2 : k ≤ p.deparser.c := by omega
      have HM : Hid ((p.deparser.l.take k).contains p.deparser.l[k] = decide (p.deparser.l[k] ∈ p.deparser.l.take k)) := Lib.hid (by rw [Bool.eq_iff_iff]; simp)
      generalize p.deparser.l[k] = h at *
      have hcase : h < 0 ∨ (0 ≤ h ∧ (p.headers.l.length : Int) ≤ h) ∨ (0 ≤ h ∧ h < (p.headers.l.length : Int)) := by omega
      rcases hcase with h1 | ⟨h1, h2⟩ | ⟨h1, h2⟩
      · have HE2 := Lib.hid (HE.out.trans (if_pos (Or.inl h1)))
        have HR2 := Lib.hid (HR.out.trans (show _ = ((k : Int), (8 : Int)) by rw [firstE_some hlt HPre.out HE2.out]))
        go_wp2
        go_ret2
        exact ⟨ret_pp HR2.out, below_step HW.out HB⟩
      · have HE2 := Lib.hid (HE.out.trans (if_pos (Or.inr h2)))
        have HR2 := Lib.hid (HR.out.trans (show _ = ((k : Int), (8 : Int)) by rw [firstE_some hlt HPre.out HE2.out]))
        go_wp2
        go_ret2
        exact ⟨ret_pp HR2.out, below_step HW.out HB⟩
      · have HE2 := Lib.hid (HE.out.trans (if_neg (show ¬ (h < 0 ∨ (p.headers.l.length : Int) ≤ h) by omega)))
        go_wp2_with fail
        refine HCn.out.mono ?_
        rintro e w' ⟨rfl, rfl⟩
        rw [HM.out]
        by_cases h4 : h ∈ p.deparser.l.take k
        · have HE3 := Lib.hid (HE2.out.trans (if_pos h4))
          have HR2 := Lib.hid (HR.out.trans (show _ = ((k : Int), (7 : Int)) by rw [firstE_some hlt HPre.out HE3.out]))
          rw [decide_eq_true h4]
          clear h4
          go_wp2
          go_ret2
          exact ⟨ret_pp HR2.out, below_step HW.out HB⟩
        · have HE3 := Lib.hid (HE2.out.trans (if_neg h4))
          rw [decide_eq_false h4]
          clear h4
          go_wp2
          go_roundw
          case rel => exact ⟨k + 1, by omega, by go_num, firstE_step HPre.out HE3.out, HB⟩
          case measure => simp [intOf]; omega
    · have e : k = p.deparser.l.length := by omega
      have HR2 := Lib.hid (HR.out.trans (show _ = ((0 : Int), (0 : Int)) by rw [firstE_none (by rw [← e]; exact HPre.out)]))
      go_wp2
      go_ret2
      exact ⟨ret_pp HR2.out, below_step HW.out HB⟩
end Go.Proofs.YtbfjknidinkafaaGreat

