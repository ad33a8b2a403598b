/- Walks of the reference's checks: register, params, sized. No condition but that the data lie in memory. The walks of the reference's scope, check and call check of an action. No condition but that the program lies in memory and its numbers are of their kinds. The walks of the reference's check of a table: index, keys, actions, Check. No condition but that the program lies in memory and its numbers are of their kinds. The walk of package program's check of headers on any program, with its errors. No condition but that the program lies in memory, with at most a hundred headers. Walks of small checks: register.Check. No condition but the lengths of texts. The walk of program.checkLimits with its errors. No condition but the length of the name. The walk of package program's check of registers, actions and tables on any program, with its errors. No condition but that the program lies in memory, within the limits of its lists. The cost of a table as plain functions, and what a valid program's tables are like: no code in sight; the walks of package table's valid, Kind, Widths, Bits at a valid program. The walks of package bitvec's PrefixMask and PrefixLen at a proper width. No condition. Walks of the lexer's Tokenize and IsIdentifier. No condition but the length of the text. What reading an expression from tokens computes, as plain functions, as the program has it and as the reference has it: the two agree. No code in sight. No condition. The program's way to read an expression and the reference's agree. No code in sight. No condition. Reading an expression: no more nodes than tokens are read; what the parsers return. No code in sight. No condition. Tokens of a text: their kinds and numbers are in bounds; how tokens and a reader of an expression lie in memory. No condition. The reader of operations as plain functions: tokens, arguments, keys: no code in sight. No condition. The walk of package program's check of parser, control flow and deparser on any program, with its errors. No condition but that the program lies in memory, with at most ninety thousand control nodes. The walk of package program's check of the metadata on any program, with its errors. No condition but that the program lies in memory. The walk of program.Check on any program: it returns the first error. No condition but that the program lies in memory, its numbers are of their kinds, and it has at most ninety thousand control nodes. The walk of program.Lookup on any program. No condition but that the program lies in memory, with at most a hundred elements in each list. Operations on tables: their checks, their texts, and the reader of their texts, as plain functions: no code in sight. No condition. The walks of both checks of a key's match, at a proper width. No condition but that the numbers are of their kinds. The walk of package table's Allows, at a valid table. No condition but that the program lies in memory and its numbers are of their kinds. The walks of the reference's Count, Nesting and Preorder of control nodes. No condition but that the nodes lie in memory, at most 90000 of them. The walks of package table's Widths and Bits at a valid program. No condition but that the program lies in memory and its numbers are of their kinds. The walk of entry.Check at a valid table. No condition but that the program and the entry lie in memory and the numbers are of their kinds. The walks of optext.checkCall and optext.check on a valid program. No condition but that the program and the operation lie in memory and the numbers are of their kinds. Walks of exprtext's reader: peek, called, found, token, number, symbol. No condition but that the tokens lie in memory. The reader of operations in memory: its two closures, and take. No condition but that the tokens and the program lie in memory. The walk of take of optext's reader. No condition but that the tokens and the program lie in memory. The walks of number and resolve of optext's reader. No condition but that the tokens and the program lie in memory. The walk of keys of optext's reader. No condition but that the tokens and the program lie in memory. -/
import Derived.RegionTactic
import Derived.StillTailTactics
import Derived.Defers
import Derived.Recover
import Derived.Lib.Join
import Derived.WalkLawsBesides
import Derived.Deep.CutRange
import Derived.BigQuiet
import Derived.Test.YtofjapcgbajmiaaGreatDoorHJb
namespace Go.Proofs.YtofjapcgbajmiaaGreatDoor
open Go.RowKit
def fldsM (l : List FieldD) : Int := match firstE l.length (fldM l) with
  | some e => e
  | none => 0
theorem pre_ne {α : Type} {f : Nat → α → Prop} {l : List α} {k : Nat} (h : ∀ j (hj : j < l.length), j < k → f j l[j]) {hk : k < l.length} (hn : f k l[k]) : ∀ j (hj : j < l.length), j < k + 1 → f j l[j] := fun j hj hjk => by
  rcases Nat.lt_succ_iff_lt_or_eq.1 hjk with h1 | rfl
  · exact h j hj h1
  · exact hn
end Go.Proofs.YtofjapcgbajmiaaGreatDoor
namespace Go.Proofs.YtofjapcgbajmiaaGreatDoor
open Go.RowKit
theorem declarM_eq (a : ActD) : declarM a = if ident a.name = false then 6 else if 4 < a.params.l.length ∨ 12 < a.body.l.length then 12 else fldsM a.params.l := rfl
end Go.Proofs.YtofjapcgbajmiaaGreatDoor
namespace Go.Proofs.YtofjapcgbajmiaaGreatDoor
open Go.RowKit
theorem firstE_ex {α : Type} {f : Nat → Option α} {r : α} : ∀ {n : Nat}, firstE n f = some r → ∃ i, i < n ∧ f i = some r ∧ ∀ j, j < i → f j = none
  | 0, h => by cases h
  | n + 1, h => by
    rw [firstE] at h
    rcases hf : firstE n f with _ | x
    · rw [hf] at h
      exact ⟨n, by omega, h, firstE_inv hf⟩
    · rw [hf] at h
      simp only [Option.some.injEq] at h
      subst h
      obtain ⟨i, h1, h2, h3⟩ := firstE_ex hf
      exact ⟨i, by omega, h2, h3⟩
end Go.Proofs.YtofjapcgbajmiaaGreatDoor
namespace Go.Proofs.YtofjapcgbajmiaaGreatDoor
open Go.RowKit
theorem rep_at (l : List ByteArray) (n g c i : Nat) (w0 w : World) (hn : l.length = n) (hi : i < n) (hm : n ≤ 1000)
    (hg : g < w0.heap.size ∧ l.length ≤ c ∧ ∀ j, j < l.length → w0.cell? ⟨g, 0 + j, none⟩ = some (.string (l.getD j ByteArray.empty))) (hb : Below w0.heap.size w0 w) :
    Calls Tryz.prog 86 #[.slice (some ⟨g, 0, none⟩) n c, .int .i64 i] w fun e w' => e = .returned (.bool (dupB l i)) ∧ Below w.heap.size w w' := by
  subst hn
  exact repeated_any l g c i w hi hm hg.2.1 (fun j hj => below_cell hb (hg.2.2 j hj))
theorem meta_list : metaName.toList = [109, 101, 116, 97] := by rw [toList_data]; rfl
theorem meta_true {s : ByteArray} (h : s = metaName) : (s.toList == [109, 101, 116, 97]) = true := by rw [h, meta_list]; rfl
theorem meta_false {s : ByteArray} (h : ¬ s = metaName) : (s.toList == [109, 101, 116, 97]) = false := beq_eq_false_iff_ne.2 fun e => h (toList_inj.1 (e.trans meta_list.symm))
theorem hdrAtM_at (l : List HeaderD) (k : Nat) (h : k < l.length) : hdrAtM l k = if hdrM l[k] ≠ 0 then some ⟨hdrM l[k], 1, k, 0⟩ else if l[k].name = metaName then some ⟨6, 1, k, 0⟩ else if dupB (l.map HeaderD.name) k = true then some ⟨7, 1, k, 0⟩ else none := by
  rw [hdrAtM, List.getElem?_eq_getElem h]
set_option maxRecDepth 100000 in
set_option maxHeartbeats 4000000 in
theorem checkHeaders_any (p : ProgD) (w : World) (o : ProgOk w p) (hl : p.headers.l.length ≤ 100) (hc : ∀ h ∈ p.headers.l, h.fields.l.length ≤ h.fields.c) :
    Calls Tryz.prog 40 #[.agg (progCells p)] w fun e w' => e = outE (hdrsM p) ∧ Below w.heap.size w w' := by
  obtain ⟨W, hW, hw, HB, hp⟩ := box1 w (progCells p) 31
  have HW := Lib.hid hw
  have HOW := Lib.hid (o.below hw)
  have HC := Lib.hid hc
  have HR := Lib.hid (hdrsM.eq_1 p)
  have HS := Lib.hid (hdrAtM_at p.headers.l)
  have HL := Lib.hid hl
  clear o hw hc
  have hn := names_header p.headers W HOW.out.headers hl
  simp only [L.v] at hn
  by_cases h0 : p.headers.l.length = 0
  · have HR2 := Lib.hid (HR.out.trans (show _ = (none : Option DiagD) by rw [h0]; rfl))
    have HNm := Lib.hid hn
    have h1 : ¬ ((0 : Int) < (p.headers.l.length : Int)) := by omega
    have h2 : (p.headers.l.length : Int) ≤ 0 := by omega
    clear h0 hn
    go_enter Tryz.func40, Tryz.ntmps40
    go_upto_region 1 with fail
    rw [← hW]
    clear hW
    go_wp2_with fail
    refine HNm.out.mono ?_
    rintro e w1 ⟨A, c, rfl, _, hb1⟩
    replace HB := below_step HB hb1
    clear hb1
    go_wp2
    refine wp_loop_rounds 1 ?_
    rw [rounds_succ]
    go_wp2
    go_end0
    exact ⟨by rw [HR2.out]; rfl, below_step HW.out HB⟩
  obtain ⟨g, of, hA, hall⟩ := HeaderD.allA HOW.out.headers (show 0 < p.headers.l.length by omega)
  have HAL := Lib.hid hall
  have HAA := Lib.hid hA
  rw [hA] at hn
  simp only [progCells, hA] at hp hW ⊢
  have HNm := Lib.hid hn
  clear hA hall hn
  go_enter Tryz.func40, Tryz.ntmps40
  go_upto_region 1 with fail
  rw [← hW]
  clear hW
  go_wp2_with fail
  refine HNm.out.mono ?_
  rintro e w1 ⟨A, c, rfl, hown, hb1⟩
  obtain ⟨gn, rfl, hg⟩ := OwnStrs.form hown (by rw [List.length_map]; omega)
  have HG := Lib.hid hg
  replace HB := below_step HB hb1
  have HB1 := Lib.hid HB
  clear hb1 hown hg HNm h0
  go_wp2
  clear HB
  go_loopw [3, 4, 11] (fun _ _ iv wr => ∃ k : Nat, k ≤ p.headers.l.length ∧ iv = .int .i64 k ∧ (∀ j, j < k → hdrAtM p.headers.l j = none) ∧ Below w1.heap.size w1 wr) (fun _ _ i _ => p.headers.l.length - (intOf i).toNat)
  case atStart => exact ⟨0, Nat.zero_le _, rfl, fun j h => absurd h (Nat.not_lt_zero _), Below.refl _ _⟩
  case round =>
    obtain ⟨k, hk, rfl, hpre, HB⟩ := hrel
    have HPre := Lib.hid hpre
    clear hpre
    by_cases hlt : k < p.headers.l.length
    · obtain ⟨d0, d1⟩ := HAL.out wr (below_step HB1.out HB) k hlt
      have HE := Lib.hid (HS.out k hlt)
      have HX : Hid (HeaderOk W p.headers.l[k]) := Lib.hid (HOW.out.hdr _ (List.getElem_mem hlt))
      have HCk := Lib.hid (HC.out _ (List.getElem_mem hlt))
      generalize p.headers.l[k] = y at *
      obtain ⟨yn, ⟨yl, yA, yc⟩⟩ := y
      simp only at HE HCk d0 d1
      have hca := @World.cell?_alloc_some
      go_wp2_with fail
      refine (headerCheck_any ⟨yn, ⟨yl, yA, yc⟩⟩ (wr.alloc (.cells #[.string yn, .slice yA yl.length yc] 98)) (HX.out.below (below_step HB1.out (by first | exact HB | exact below_alloc HB _ | exact below_alloc (below_alloc HB _) _ | exact below_alloc (below_alloc (below_alloc HB _) _) _))) HCk.out).mono ?_
      rintro e w2 ⟨rfl, hbN⟩
      have f0 : w2.cell? ⟨wr.heap.size, 0, none⟩ = some (.string yn) := below_cell hbN (by simp)
      replace HB := below_step (by first | exact HB | exact below_alloc HB _ | exact below_alloc (below_alloc HB _) _ | exact below_alloc (below_alloc (below_alloc HB _) _) _) hbN
      clear hbN d0 d1 hca
      generalize hdrM ⟨yn, ⟨yl, yA, yc⟩⟩ = hc at *
      by_cases k1 : hc = 0
      case neg =>
        have HE2 := Lib.hid (HE.out.trans (if_pos k1))
        have HR2 := Lib.hid (HR.out.trans (firstE_some hlt HPre.out HE2.out))
        go_wp2_with fail
        refine (require_bad hc 1 k 0 _ (beq_eq_false_iff_ne.2 k1)).mono ?_
        rintro e w' ⟨rfl, rfl⟩
        go_wp2
        exact ⟨rfl, by rw [HR2.out]; rfl, below_step HW.out (below_step HB1.out HB)⟩
      subst k1
      have HE2 := Lib.hid (HE.out.trans (if_neg (by simp)))
      go_wp2_with fail
      refine (require_ok _ _ _ _).mono ?_
      rintro e w' ⟨rfl, rfl⟩
      by_cases he : yn = metaName
      case pos =>
        have HE3 := Lib.hid (HE2.out.trans (if_pos he))
        have HR2 := Lib.hid (HR.out.trans (firstE_some hlt HPre.out HE3.out))
        have he' := meta_true he
        clear he
        go_wp2_with fail
        refine (when_true _ _ _ rfl).mono ?_
        rintro e w' ⟨rfl, rfl⟩
        go_wp2_with fail
        refine (require_bad 6 1 k 0 _ rfl).mono ?_
        rintro e w' ⟨rfl, rfl⟩
        go_wp2
        exact ⟨rfl, by rw [HR2.out]; rfl, below_step HW.out (below_step HB1.out HB)⟩
      have HE3 := Lib.hid (HE2.out.trans (if_neg he))
      have he' := meta_false he
      clear he
      go_wp2_with fail
      refine (when_false _ _ _ rfl).mono ?_
      rintro e w' ⟨rfl, rfl⟩
      go_wp2_with fail
      refine (require_ok _ _ _ _).mono ?_
      rintro e w' ⟨rfl, rfl⟩
      go_wp2_with fail
      refine (rep_at (p.headers.l.map HeaderD.name) p.headers.l.length gn c k w1 _ (by simp) hlt (by have := HL.out; omega) HG.out HB).mono ?_
      rintro e w3 ⟨rfl, hbN⟩
      replace HB := below_step (by first | exact HB | exact below_alloc HB _ | exact below_alloc (below_alloc HB _) _ | exact below_alloc (below_alloc (below_alloc HB _) _) _) hbN
      clear hbN
      cases hd : dupB (p.headers.l.map HeaderD.name) k
      case true =>
        have HE4 := Lib.hid (HE3.out.trans (if_pos hd))
        have HR2 := Lib.hid (HR.out.trans (firstE_some hlt HPre.out HE4.out))
        go_wp2_with fail
        refine (when_true _ _ _ rfl).mono ?_
        rintro e w' ⟨rfl, rfl⟩
        go_wp2_with fail
        refine (require_bad 7 1 k 0 _ rfl).mono ?_
        rintro e w' ⟨rfl, rfl⟩
        go_wp2
        exact ⟨rfl, by rw [HR2.out]; rfl, below_step HW.out (below_step HB1.out HB)⟩
      have HE4 := Lib.hid (HE3.out.trans (if_neg (by rw [hd]; simp)))
      go_wp2_with fail
      refine (when_false _ _ _ rfl).mono ?_
      rintro e w' ⟨rfl, rfl⟩
      go_wp2_with fail
      refine (require_ok _ _ _ _).mono ?_
      rintro e w' ⟨rfl, rfl⟩
      go_wp2
      go_roundw
      case rel => exact ⟨k + 1, by omega, by go_num, firstE_step HPre.out HE4.out, HB⟩
      case measure => simp [intOf]; omega
    · have e : k = p.headers.l.length := by omega
      have HR2 := Lib.hid (HR.out.trans (firstE_none (by rw [← e]; exact HPre.out)))
      go_wp2
      go_end0
      exact ⟨by rw [HR2.out]; rfl, below_step HW.out (below_step HB1.out HB)⟩
end Go.Proofs.YtofjapcgbajmiaaGreatDoor
namespace Go.Proofs.YtofjapcgbajmiaaGreatDoor
open Go.RowKit
theorem sized_any (nm : ByteArray) (wd sz : Int) (w : World) :
    Calls Tryz.prog 154 #[.agg #[.string nm, .int .i64 wd, .int .i64 sz]] w fun e w' => e = .returned (.bool (decide (1 ≤ sz) && decide (sz ≤ 64))) ∧ Below w.heap.size w w' := by
  go_enter Tryz.func154, Tryz.ntmps154
  go_wp2
  all_goals (go_ret; exact ⟨ret_bool (by rw [Bool.eq_iff_iff]; simp; omega), below1 _ _⟩)
set_option maxRecDepth 100000 in
set_option maxHeartbeats 1000000 in
theorem registerCheck_any (r : RegD) (w : World) (hs : r.name.size ≤ maxLen) :
    Calls Tryz.prog 92 #[.agg #[.string r.name, .int .i64 r.width, .int .i64 r.size]] w fun e w' => e = .returned (.int .i64 (regM r)) ∧ Below w.heap.size w w' := by
  obtain ⟨nm, wd, sz⟩ := r
  have HS := Lib.hid hs
  obtain ⟨W, hW, hw, HB, hp⟩ := box1 w #[.string nm, .int .i64 wd, .int .i64 sz] 100
  have HW := Lib.hid hw
  clear hs hw
  have HR : Hid (regM ⟨nm, wd, sz⟩ = if ident nm = false then 6 else if okW wd = false then 10 else if sz < 1 ∨ 64 < sz then 9 else 0) := Lib.hid rfl
  have hz := mask_zero wd
  go_enter Tryz.func92, Tryz.ntmps92
  go_wp2_with fail
  rw [← hW]
  clear hW
  refine (isIdent_any nm _ HS.out).mono ?_
  rintro e w' ⟨rfl, rfl⟩
  cases h1 : identM nm.data.toList
  · replace HR := Lib.hid (HR.out.trans (if_pos (show ident nm = false from h1)))
    go_wp2
    go_ret
    exact ⟨by rw [HR.out]; rfl, below_step HW.out HB⟩
  replace HR := Lib.hid (HR.out.trans (if_neg (show ¬ ident nm = false by rw [show ident nm = true from h1]; simp)))
  go_wp2_with fail
  refine (mask_any wd _).mono ?_
  rintro e w1 ⟨rfl, hbN⟩
  replace HB := below_step (by first | exact HB | exact below_alloc HB _ | exact below_alloc (below_alloc HB _) _ | exact below_alloc (below_alloc (below_alloc HB _) _) _) hbN
  clear hbN
  cases h2 : okW wd
  · replace HR := Lib.hid (HR.out.trans (if_pos h2))
    rw [h2] at hz
    go_wp2
    go_ret
    exact ⟨by rw [HR.out]; rfl, below_step HW.out HB⟩
  replace HR := Lib.hid (HR.out.trans (if_neg (show ¬ okW wd = false by rw [h2]; simp)))
  rw [h2] at hz
  go_wp2_with fail
  refine (sized_any nm wd sz _).mono ?_
  rintro e w2 ⟨rfl, hbN⟩
  replace HB := below_step (by first | exact HB | exact below_alloc HB _ | exact below_alloc (below_alloc HB _) _ | exact below_alloc (below_alloc (below_alloc HB _) _) _) hbN
  clear hbN
  cases h3 : (decide (1 ≤ sz) && decide (sz ≤ 64))
  · replace HR := Lib.hid (HR.out.trans (if_pos (by simp at h3; omega)))
    go_wp2
    go_ret
    exact ⟨by rw [HR.out]; rfl, below_step HW.out HB⟩
  · replace HR := Lib.hid (HR.out.trans (if_neg (by simp at h3; omega)))
    go_wp2
    go_ret
    exact ⟨by rw [HR.out]; rfl, below_step HW.out HB⟩
end Go.Proofs.YtofjapcgbajmiaaGreatDoor
namespace Go.Proofs.YtofjapcgbajmiaaGreatDoor
open Go.RowKit
set_option maxRecDepth 100000 in
set_option maxHeartbeats 4000000 in
theorem checkLimits_any (p : ProgD) (w : World) (hs : p.name.size ≤ maxLen) :
    Calls Tryz.prog 39 #[p.val] w fun e w' => e = outE (limM p) ∧ Below w.heap.size w w' := by
  have HS := Lib.hid hs
  clear hs
  obtain ⟨W, hW, hb, H0, hp⟩ := prog_box w p 31
  have HB := Lib.hid hb
  clear hb
  simp only [ProgD.val, L.v]
  go_enter Tryz.func39, Tryz.ntmps39
  go_wp2_with fail
  rw [← hW]
  clear hW
  refine (identifier_any p.name _ HS.out).mono ?_
  rintro e w' ⟨rfl, rfl⟩
  by_cases k1 : ident p.name = false
  · have HR := Lib.hid (show limM p = some ⟨6, 0, 0, 0⟩ by rw [limM, if_pos k1])
    rw [k1]
    go_wp2_with fail
    refine (when_true _ _ _ rfl).mono ?_
    rintro e w' ⟨rfl, rfl⟩
    go_wp2_with fail
    refine (require_bad 6 0 0 0 _ rfl).mono ?_
    rintro e w' ⟨rfl, rfl⟩
    go_wp2
    exact ⟨rfl, by rw [HR.out]; rfl, HB.out⟩
  have k1' : ident p.name = true := by simpa using k1
  rw [k1']
  go_wp2_with fail
  refine (when_false _ _ _ rfl).mono ?_
  rintro e w' ⟨rfl, rfl⟩
  go_wp2_with fail
  refine (require_ok _ _ _ _).mono ?_
  rintro e w' ⟨rfl, rfl⟩
  by_cases k2 : 8 < p.headers.l.length
  · have HR := Lib.hid (show limM p = some ⟨12, 0, 1, 0⟩ by rw [limM, if_neg k1, if_pos k2])
    go_wp2_with fail
    refine (when_true _ _ _ (by first | rfl | (simp; omega))).mono ?_
    rintro e w' ⟨rfl, rfl⟩
    go_wp2_with fail
    refine (require_bad 12 0 1 0 _ rfl).mono ?_
    rintro e w' ⟨rfl, rfl⟩
    go_wp2
    exact ⟨rfl, by rw [HR.out]; rfl, HB.out⟩
  go_wp2_with fail
  refine (when_false _ _ _ (by first | rfl | (simp; omega))).mono ?_
  rintro e w' ⟨rfl, rfl⟩
  go_wp2_with fail
  refine (require_ok _ _ _ _).mono ?_
  rintro e w' ⟨rfl, rfl⟩
  by_cases k3 : 4 < p.registers.l.length
  · have HR := Lib.hid (show limM p = some ⟨12, 0, 3, 0⟩ by rw [limM, if_neg k1, if_neg k2, if_pos k3])
    go_wp2_with fail
    refine (when_true _ _ _ (by first | rfl | (simp; omega))).mono ?_
    rintro e w' ⟨rfl, rfl⟩
    go_wp2_with fail
    refine (require_bad 12 0 3 0 _ rfl).mono ?_
    rintro e w' ⟨rfl, rfl⟩
    go_wp2
    exact ⟨rfl, by rw [HR.out]; rfl, HB.out⟩
  go_wp2_with fail
  refine (when_false _ _ _ (by first | rfl | (simp; omega))).mono ?_
  rintro e w' ⟨rfl, rfl⟩
  go_wp2_with fail
  refine (require_ok _ _ _ _).mono ?_
  rintro e w' ⟨rfl, rfl⟩
  by_cases k4 : 16 < p.actions.l.length
  · have HR := Lib.hid (show limM p = some ⟨12, 0, 4, 0⟩ by rw [limM, if_neg k1, if_neg k2, if_neg k3, if_pos k4])
    go_wp2_with fail
    refine (when_true _ _ _ (by first | rfl | (simp; omega))).mono ?_
    rintro e w' ⟨rfl, rfl⟩
    go_wp2_with fail
    refine (require_bad 12 0 4 0 _ rfl).mono ?_
    rintro e w' ⟨rfl, rfl⟩
    go_wp2
    exact ⟨rfl, by rw [HR.out]; rfl, HB.out⟩
  go_wp2_with fail
  refine (when_false _ _ _ (by first | rfl | (simp; omega))).mono ?_
  rintro e w' ⟨rfl, rfl⟩
  go_wp2_with fail
  refine (require_ok _ _ _ _).mono ?_
  rintro e w' ⟨rfl, rfl⟩
  by_cases k5 : 12 < p.tables.l.length
  · have HR := Lib.hid (show limM p = some ⟨12, 0, 5, 0⟩ by rw [limM, if_neg k1, if_neg k2, if_neg k3, if_neg k4, if_pos k5])
    go_wp2_with fail
    refine (when_true _ _ _ (by first | rfl | (simp; omega))).mono ?_
    rintro e w' ⟨rfl, rfl⟩
    go_wp2_with fail
    refine (require_bad 12 0 5 0 _ rfl).mono ?_
    rintro e w' ⟨rfl, rfl⟩
    go_wp2
    exact ⟨rfl, by rw [HR.out]; rfl, HB.out⟩
  have HR := Lib.hid (show limM p = none by rw [limM, if_neg k1, if_neg k2, if_neg k3, if_neg k4, if_neg k5])
  go_wp2_with fail
  refine (when_false _ _ _ (by first | rfl | (simp; omega))).mono ?_
  rintro e w' ⟨rfl, rfl⟩
  go_wp2_with fail
  refine (require_ok _ _ _ _).mono ?_
  rintro e w' ⟨rfl, rfl⟩
  go_wp2
  go_end0
  exact ⟨by rw [HR.out]; rfl, HB.out⟩
end Go.Proofs.YtofjapcgbajmiaaGreatDoor
namespace Go.Proofs.YtofjapcgbajmiaaGreatDoor
open Go.RowKit
theorem regAtM_at (l : List RegD) (k : Nat) (h : k < l.length) : regAtM l k = if regM l[k] ≠ 0 then some ⟨regM l[k], 3, k, 0⟩ else if dupB (l.map RegD.name) k = true then some ⟨7, 3, k, 0⟩ else none := by
  rw [regAtM, List.getElem?_eq_getElem h]
theorem actAtM_at (p : ProgD) (k : Nat) (h : k < p.actions.l.length) : actAtM p k = if (actM p p.actions.l[k]).2 ≠ 0 then some ⟨(actM p p.actions.l[k]).2, 4, k, (actM p p.actions.l[k]).1⟩ else if dupB (p.actions.l.map ActD.name) k = true then some ⟨7, 4, k, 0⟩ else none := by
  rw [actAtM, List.getElem?_eq_getElem h]
theorem tabAtM_at (p : ProgD) (k : Nat) (h : k < p.tables.l.length) : tabAtM p k = if (tabM p p.tables.l[k]).2 ≠ 0 then some ⟨(tabM p p.tables.l[k]).2, 5, k, (tabM p p.tables.l[k]).1⟩ else if dupB (p.tables.l.map TabD.name) k = true then some ⟨7, 5, k, 0⟩ else none := by
  rw [tabAtM, List.getElem?_eq_getElem h]
def objsM (p : ProgD) : Option DiagD := orE (regsM p) (orE (actsM p) (tabsM p))
theorem objs1 {p : ProgD} {d : DiagD} (h : regsM p = some d) : objsM p = some d := by rw [objsM, h]; rfl
theorem objs2 {p : ProgD} (h : regsM p = none) : objsM p = orE (actsM p) (tabsM p) := by rw [objsM, h]; rfl
theorem or1 {α : Type} {a b : Option α} {d : α} (h : a = some d) : orE a b = some d := by rw [h]; rfl
theorem or2 {α : Type} {a b : Option α} (h : a = none) : orE a b = b := by rw [h]; rfl
set_option maxRecDepth 100000 in
set_option maxHeartbeats 8000000 in
theorem checkObjects_any (p : ProgD) (w : World) (o : ProgOk w p) (hr : p.registers.l.length ≤ 100) (ha : p.actions.l.length ≤ 100) (ht : p.tables.l.length ≤ 100)
    (hc1 : ∀ a ∈ p.actions.l, a.params.l.length ≤ a.params.c) (hc2 : ∀ t ∈ p.tables.l, (Lit.int .i64 t.defA).wf = true) :
    Calls Tryz.prog 42 #[.agg (progCells p)] w fun e w' => e = outE (objsM p) ∧ Below w.heap.size w w' := by
  obtain ⟨W, hW, hw, HB, hp⟩ := box1 w (progCells p) 31
  have HW := Lib.hid hw
  have HOW := Lib.hid (o.below hw)
  have HRr := Lib.hid (regsM.eq_1 p)
  have HRa := Lib.hid (actsM.eq_1 p)
  have HRt := Lib.hid (tabsM.eq_1 p)
  have HSr := Lib.hid (regAtM_at p.registers.l)
  have HSa := Lib.hid (actAtM_at p)
  have HSt := Lib.hid (tabAtM_at p)
  have HL := Lib.hid (And.intro hr (And.intro ha ht))
  have HLK := Lib.hid HOW.out.registers
  have HNr := Lib.hid (fun w' (h : Below W.heap.size W w') => names_register p.registers w' (HOW.out.registers.below h (Nat.le_refl _)) hr)
  have HNa := Lib.hid (fun w' (h : Below W.heap.size W w') => names_action p.actions w' (HOW.out.actions.below h (Nat.le_refl _)) ha)
  have HNt := Lib.hid (fun w' (h : Below W.heap.size W w') => names_table p.tables w' (HOW.out.tables.below h (Nat.le_refl _)) ht)
  have HCa := Lib.hid (fun k hk w' (h : Below W.heap.size W w') => actionCheck_any p k hk w' (HOW.out.below h) hc1)
  have HCt := Lib.hid (fun k hk w' (h : Below W.heap.size W w') => tableCheck_any p k hk w' (HOW.out.below h) hc2)
  have HRN : Hid (∀ r ∈ p.registers.l, r.name.size ≤ maxLen) := Lib.hid HOW.out.rnames
  clear o hw hc1 hc2
  obtain ⟨⟨rl, rA, rc⟩, hreg⟩ : ∃ x, p.registers = x := ⟨_, rfl⟩
  simp only [progCells, hreg] at hp hW ⊢
  rw [hreg] at hr HLK HSr HRN
  have HREG := Lib.hid hreg
  simp only at hr HSr HRN
  clear hreg
  go_enter Tryz.func42, Tryz.ntmps42
  go_upto_region 1 with fail
  rw [← hW]
  clear hW
  go_wp2_with fail
  have hn := HNr.out W HB
  rw [HREG.out] at hn
  refine hn.mono ?_
  clear hn
  rintro e w1 ⟨A, c, rfl, hown, hb1⟩
  have HOwn := Lib.hid hown
  replace HB := below_step HB hb1
  have HB1 := Lib.hid HB
  clear hb1 hown
  simp only
  go_wp2
  clear HB
  go_loopw [3, 4, 17] (fun _ _ iv wr => ∃ k : Nat, k ≤ rl.length ∧ iv = .int .i64 k ∧ (∀ j, j < k → regAtM rl j = none) ∧ Below w1.heap.size w1 wr) (fun _ _ i _ => rl.length - (intOf i).toNat)
  case atStart => exact ⟨0, Nat.zero_le _, rfl, fun j h => absurd h (Nat.not_lt_zero _), Below.refl _ _⟩
  case round =>
    obtain ⟨k, hk, rfl, hpre, HB⟩ := hrel
    have HPre := Lib.hid hpre
    clear hpre
    by_cases hlt : k < rl.length
    · obtain ⟨g, of, hA, d0, d1, d2⟩ := RegD.at (HLK.out.below (below_step HB1.out HB) (Nat.le_refl _)) hlt
      have HE := Lib.hid (HSr.out k hlt)
      have HNk := Lib.hid (HRN.out _ (List.getElem_mem hlt))
      simp only at hA d0 d1 d2
      subst hA
      generalize rl[k] = y at *
      obtain ⟨yn, yw, ys⟩ := y
      simp only at HE HNk d0 d1 d2
      obtain ⟨gn, rfl, hg⟩ := OwnStrs.form HOwn.out (show 0 < (rl.map RegD.name).length by rw [List.length_map]; omega)
      have HG := Lib.hid hg
      clear hg
      have hca := @World.cell?_alloc_some
      go_wp2_with fail
      refine (registerCheck_any ⟨yn, yw, ys⟩ _ HNk.out).mono ?_
      rintro e w2 ⟨rfl, hbN⟩
      replace HB := below_step (by first | exact HB | exact below_alloc HB _ | exact below_alloc (below_alloc HB _) _ | exact below_alloc (below_alloc (below_alloc HB _) _) _) hbN
      clear hbN
      clear d0 d1 d2 hca
      generalize regM ⟨yn, yw, ys⟩ = rc at *
      by_cases k1 : rc = 0
      case neg =>
        have HE2 := Lib.hid (HE.out.trans (if_pos k1))
        have HR2 := Lib.hid (objs1 (HRr.out.trans (show _ = some (⟨rc, 3, k, 0⟩ : DiagD) by rw [HREG.out]; exact firstE_some hlt HPre.out HE2.out)))
        go_wp2_with fail
        refine (require_bad rc 3 k 0 _ (beq_eq_false_iff_ne.2 k1)).mono ?_
        rintro e w' ⟨rfl, rfl⟩
        go_wp2
        exact ⟨rfl, by rw [HR2.out]; rfl, below_step HW.out (below_step HB1.out HB)⟩
      subst k1
      have HE2 := Lib.hid (HE.out.trans (if_neg (by simp)))
      go_wp2_with fail
      refine (require_ok _ _ _ _).mono ?_
      rintro e w' ⟨rfl, rfl⟩
      go_wp2_with fail
      refine (rep_at (rl.map RegD.name) rl.length gn c k w1 _ (by simp) hlt (by omega) HG.out HB).mono ?_
      rintro e w3 ⟨rfl, hbN⟩
      replace HB := below_step (by first | exact HB | exact below_alloc HB _ | exact below_alloc (below_alloc HB _) _ | exact below_alloc (below_alloc (below_alloc HB _) _) _) hbN
      clear hbN
      cases hd : dupB (rl.map RegD.name) k
      case true =>
        have HE4 := Lib.hid (HE2.out.trans (if_pos hd))
        have HR2 := Lib.hid (objs1 (HRr.out.trans (show _ = some (⟨7, 3, k, 0⟩ : DiagD) by rw [HREG.out]; exact firstE_some hlt HPre.out HE4.out)))
        go_wp2_with fail
        refine (when_true _ _ _ rfl).mono ?_
        rintro e w' ⟨rfl, rfl⟩
        go_wp2_with fail
        refine (require_bad 7 3 k 0 _ rfl).mono ?_
        rintro e w' ⟨rfl, rfl⟩
        go_wp2
        exact ⟨rfl, by rw [HR2.out]; rfl, below_step HW.out (below_step HB1.out HB)⟩
      have HE4 := Lib.hid (HE2.out.trans (if_neg (by rw [hd]; simp)))
      go_wp2_with fail
      refine (when_false _ _ _ rfl).mono ?_
      rintro e w' ⟨rfl, rfl⟩
      go_wp2_with fail
      refine (require_ok _ _ _ _).mono ?_
      rintro e w' ⟨rfl, rfl⟩
      go_wp2
      go_roundw
      case rel => exact ⟨k + 1, by omega, by go_num, firstE_step HPre.out HE4.out, HB⟩
      case measure => simp [intOf]; omega
    have e : k = rl.length := by omega
    have HR2 := Lib.hid (objs2 (HRr.out.trans (show _ = (none : Option DiagD) by rw [HREG.out]; exact firstE_none (by rw [← e]; exact HPre.out))))
    have hkx : ¬ ((k : Int) < (rl.length : Int)) := by omega
    replace HB := below_step HB1.out HB
    clear HPre HB1 HOwn hlt e
    go_wp2_with fail
    refine (HNa.out _ HB).mono ?_
    rintro e w4 ⟨A2, c2, rfl, hown, hb1⟩
    have HOwn := Lib.hid hown
    replace HB := below_step HB hb1
    have HB4 := Lib.hid HB
    clear hb1 hown
    go_wp2
    have HBb := HB4
    clear HB4
    clear HB
    go_loopw [5, 6, 7, 39] (fun _ _ _ iv wr => ∃ k : Nat, k ≤ p.actions.l.length ∧ iv = .int .i64 k ∧ (∀ j, j < k → actAtM p j = none) ∧ Below w4.heap.size w4 wr) (fun _ _ _ i _ => p.actions.l.length - (intOf i).toNat)
    case atStart => exact ⟨0, Nat.zero_le _, rfl, fun j h => absurd h (Nat.not_lt_zero _), Below.refl _ _⟩
    case round =>
      obtain ⟨k, hk, rfl, hpre, HB⟩ := hrel
      have HPre := Lib.hid hpre
      clear hpre
      by_cases hlt : k < p.actions.l.length
      · have HE := Lib.hid (HSa.out k hlt)
        obtain ⟨gn, rfl, hg⟩ := OwnStrs.form HOwn.out (show 0 < (p.actions.l.map ActD.name).length by rw [List.length_map]; omega)
        have HG := Lib.hid hg
        clear hg
        have hp1 := hp wr (below_step HBb.out HB)
        go_wp2_with fail
        clear hp1
        have hCN := HCa.out k hlt wr (below_step HBb.out HB)
        simp only [progCells, HREG.out] at hCN
        refine hCN.mono ?_
        clear hCN
        rintro e w5 ⟨rfl, hbN⟩
        replace HB := below_step HB hbN
        clear hbN
        generalize actM p p.actions.l[k] = r at *
        obtain ⟨ra, rcd⟩ := r
        simp only at HE
        by_cases k1 : rcd = 0
        case neg =>
          have HE2 := Lib.hid (HE.out.trans (if_pos k1))
          have HR3 := Lib.hid (HR2.out.trans (or1 (HRa.out.trans (firstE_some hlt HPre.out HE2.out))))
          go_wp2_with fail
          refine (require_bad rcd 4 k ra _ (beq_eq_false_iff_ne.2 k1)).mono ?_
          rintro e w' ⟨rfl, rfl⟩
          go_wp2
          exact ⟨rfl, by rw [HR3.out]; rfl, below_step HW.out (below_step HBb.out HB)⟩
        subst k1
        have HE2 := Lib.hid (HE.out.trans (if_neg (by simp)))
        go_wp2_with fail
        refine (require_ok _ _ _ _).mono ?_
        rintro e w' ⟨rfl, rfl⟩
        go_wp2_with fail
        refine (rep_at (p.actions.l.map ActD.name) p.actions.l.length gn c2 k w4 _ (by simp) hlt (by have := HL.out; omega) HG.out HB).mono ?_
        rintro e w6 ⟨rfl, hbN⟩
        replace HB := below_step (by first | exact HB | exact below_alloc HB _ | exact below_alloc (below_alloc HB _) _ | exact below_alloc (below_alloc (below_alloc HB _) _) _) hbN
        clear hbN
        cases hd : dupB (p.actions.l.map ActD.name) k
        case true =>
          have HE4 := Lib.hid (HE2.out.trans (if_pos hd))
          have HR3 := Lib.hid (HR2.out.trans (or1 (HRa.out.trans (firstE_some hlt HPre.out HE4.out))))
          go_wp2_with fail
          refine (when_true _ _ _ rfl).mono ?_
          rintro e w' ⟨rfl, rfl⟩
          go_wp2_with fail
          refine (require_bad 7 4 k 0 _ rfl).mono ?_
          rintro e w' ⟨rfl, rfl⟩
          go_wp2
          exact ⟨rfl, by rw [HR3.out]; rfl, below_step HW.out (below_step HBb.out HB)⟩
        have HE4 := Lib.hid (HE2.out.trans (if_neg (by rw [hd]; simp)))
        go_wp2_with fail
        refine (when_false _ _ _ rfl).mono ?_
        rintro e w' ⟨rfl, rfl⟩
        go_wp2_with fail
        refine (require_ok _ _ _ _).mono ?_
        rintro e w' ⟨rfl, rfl⟩
        go_wp2
        go_roundw
        case rel => exact ⟨k + 1, by omega, by go_num, firstE_step HPre.out HE4.out, HB⟩
        case measure => simp [intOf]; omega
      have e : k = p.actions.l.length := by omega
      have HR3 := Lib.hid (HR2.out.trans (or2 (HRa.out.trans (firstE_none (by rw [← e]; exact HPre.out)))))
      have hkx : ¬ ((k : Int) < (p.actions.l.length : Int)) := by omega
      replace HB := below_step HBb.out HB
      clear HPre HBb HOwn hlt e HR2
      have HR2 := HR3
      clear HR3
      go_wp2_with fail
      refine (HNt.out _ HB).mono ?_
      rintro e w7 ⟨A2, c2, rfl, hown, hb1⟩
      have HOwn := Lib.hid hown
      replace HB := below_step HB hb1
      have HBb := Lib.hid HB
      clear hb1 hown
      go_wp2
      clear HB
      go_loopw [8, 9, 10, 65] (fun _ _ _ iv wr => ∃ k : Nat, k ≤ p.tables.l.length ∧ iv = .int .i64 k ∧ (∀ j, j < k → tabAtM p j = none) ∧ Below w7.heap.size w7 wr) (fun _ _ _ i _ => p.tables.l.length - (intOf i).toNat)
      case atStart => exact ⟨0, Nat.zero_le _, rfl, fun j h => absurd h (Nat.not_lt_zero _), Below.refl _ _⟩
      case round =>
        obtain ⟨k, hk, rfl, hpre, HB⟩ := hrel
        have HPre := Lib.hid hpre
        clear hpre
        by_cases hlt : k < p.tables.l.length
        · have HE := Lib.hid (HSt.out k hlt)
          obtain ⟨gn, rfl, hg⟩ := OwnStrs.form HOwn.out (show 0 < (p.tables.l.map TabD.name).length by rw [List.length_map]; omega)
          have HG := Lib.hid hg
          clear hg
          have hp1 := hp wr (below_step HBb.out HB)
          go_wp2_with fail
          clear hp1
          have hCN := HCt.out k hlt wr (below_step HBb.out HB)
          simp only [progCells, HREG.out] at hCN
          refine hCN.mono ?_
          clear hCN
          rintro e w5 ⟨rfl, hbN⟩
          replace HB := below_step HB hbN
          clear hbN
          generalize tabM p p.tables.l[k] = r at *
          obtain ⟨ra, rcd⟩ := r
          simp only at HE
          by_cases k1 : rcd = 0
          case neg =>
            have HE2 := Lib.hid (HE.out.trans (if_pos k1))
            have HR3 := Lib.hid (HR2.out.trans (HRt.out.trans (firstE_some hlt HPre.out HE2.out)))
            go_wp2_with fail
            refine (require_bad rcd 5 k ra _ (beq_eq_false_iff_ne.2 k1)).mono ?_
            rintro e w' ⟨rfl, rfl⟩
            go_wp2
            exact ⟨rfl, by rw [HR3.out]; rfl, below_step HW.out (below_step HBb.out HB)⟩
          subst k1
          have HE2 := Lib.hid (HE.out.trans (if_neg (by simp)))
          go_wp2_with fail
          refine (require_ok _ _ _ _).mono ?_
          rintro e w' ⟨rfl, rfl⟩
          go_wp2_with fail
          refine (rep_at (p.tables.l.map TabD.name) p.tables.l.length gn c2 k w7 _ (by simp) hlt (by have := HL.out; omega) HG.out HB).mono ?_
          rintro e w6 ⟨rfl, hbN⟩
          replace HB := below_step (by first | exact HB | exact below_alloc HB _ | exact below_alloc (below_alloc HB _) _ | exact below_alloc (below_alloc (below_alloc HB _) _) _) hbN
          clear hbN
          cases hd : dupB (p.tables.l.map TabD.name) k
          case true =>
            have HE4 := Lib.hid (HE2.out.trans (if_pos hd))
            have HR3 := Lib.hid (HR2.out.trans (HRt.out.trans (firstE_some hlt HPre.out HE4.out)))
            go_wp2_with fail
            refine (when_true _ _ _ rfl).mono ?_
            rintro e w' ⟨rfl, rfl⟩
            go_wp2_with fail
            refine (require_bad 7 5 k 0 _ rfl).mono ?_
            rintro e w' ⟨rfl, rfl⟩
            go_wp2
            exact ⟨rfl, by rw [HR3.out]; rfl, below_step HW.out (below_step HBb.out HB)⟩
          have HE4 := Lib.hid (HE2.out.trans (if_neg (by rw [hd]; simp)))
          go_wp2_with fail
          refine (when_false _ _ _ rfl).mono ?_
          rintro e w' ⟨rfl, rfl⟩
          go_wp2_with fail
          refine (require_ok _ _ _ _).mono ?_
          rintro e w' ⟨rfl, rfl⟩
          go_wp2
          go_roundw
          case rel => exact ⟨k + 1, by omega, by go_num, firstE_step HPre.out HE4.out, HB⟩
          case measure => simp [intOf]; omega
        have e : k = p.tables.l.length := by omega
        have HR3 := Lib.hid (HR2.out.trans (HRt.out.trans (firstE_none (by rw [← e]; exact HPre.out))))
        go_wp2
        go_end0
        exact ⟨by rw [HR3.out]; rfl, below_step HW.out (below_step HBb.out HB)⟩
end Go.Proofs.YtofjapcgbajmiaaGreatDoor
namespace Go.Proofs.YtofjapcgbajmiaaGreatDoor
open Go.RowKit
def kindT (l : List KeyD) : Int := if l.any (fun k => decide (k.kind = 3)) = true then 3 else if l.any (fun k => decide (k.kind = 2)) = true then 2 else 1
structure TabFine (p : ProgD) (t : TabD) : Prop where
  ok : (tabM p t).2 = 0
  size : 1 ≤ t.size ∧ t.size ≤ 256
  keys : t.keys.l.length ≤ 6
  acts : t.acts.l.length ≤ 16
  kinds : ∀ k ∈ t.keys.l, k.kind = 1 ∨ k.kind = 2 ∨ k.kind = 3
  bits : 0 ≤ bitsM p t.keys.l ∧ bitsM p t.keys.l ≤ 64
  mem : ∀ a ∈ t.acts.l, 0 ≤ a ∧ a < (p.actions.l.length : Int)
def ParFine (p : ProgD) : Prop := ∀ a ∈ p.actions.l, a.params.l.length ≤ 4 ∧ ∀ f ∈ a.params.l, 1 ≤ f.width ∧ f.width ≤ 32
theorem orE_none {α : Type} {a b : Option α} (h : orE a b = none) : a = none ∧ b = none := by
  cases a
  · exact ⟨rfl, h⟩
  · cases h
theorem check_parts {p : ProgD} (h : checkM p = none) : actsM p = none ∧ tabsM p = none := by
  unfold checkM at h
  have h1 := (orE_none h).2
  have h2 := (orE_none h1).2
  have h3 := (orE_none h2).2
  have h4 := (orE_none h3).2
  have h5 := orE_none h4
  exact ⟨h5.1, (orE_none h5.2).1⟩
theorem par_fine {p : ProgD} (h : checkM p = none) : ParFine p := by
  intro a ha
  obtain ⟨k, hk, rfl⟩ := List.mem_iff_getElem.1 ha
  have h1 := firstE_inv (check_parts h).1 k hk
  rw [actAtM_at p k hk] at h1
  by_cases h2 : (actM p p.actions.l[k]).2 ≠ 0
  · rw [if_pos h2] at h1; cases h1
  · generalize p.actions.l[k] = a at *
    rw [actM_eq] at h2
    by_cases h3 : declarM a ≠ 0
    · rw [if_pos h3] at h2; exact absurd h3 h2
    · have h4 : declarM a = 0 := Classical.byContradiction h3
      rw [declarM_eq] at h4
      split at h4
      · cases h4
      split at h4
      · cases h4
      rename_i _ h5
      refine ⟨by omega, fun f hf => ?_⟩
      obtain ⟨j, hj, rfl⟩ := List.mem_iff_getElem.1 hf
      have h6 : firstE a.params.l.length (fldM a.params.l) = none := by
        rcases hfe : firstE a.params.l.length (fldM a.params.l) with _ | e
        · rfl
        · exfalso
          have h7 : fldsM a.params.l = e := by rw [fldsM, hfe]
          rw [h7] at h4
          subst h4
          obtain ⟨i, hi, h8, _⟩ := firstE_ex hfe
          rw [fldM_at _ i hi] at h8
          split at h8
          · cases h8
          split at h8
          · cases h8
          split at h8
          · cases h8
          · cases h8
      have h7 := firstE_inv h6 j hj
      rw [fldM_at _ j hj] at h7
      split at h7
      · cases h7
      split at h7
      · cases h7
      rename_i _ h8
      have h9 : okW a.params.l[j].width = true := by
        cases ho : okW a.params.l[j].width
        · exact absurd ho h8
        · rfl
      have := okW_iff.1 h9
      omega
theorem tab_fine {p : ProgD} (h : checkM p = none) {k : Nat} (hk : k < p.tables.l.length) : TabFine p p.tables.l[k] := by
  have h1 := firstE_inv (check_parts h).2 k hk
  rw [tabAtM_at p k hk] at h1
  by_cases h2 : (tabM p p.tables.l[k]).2 ≠ 0
  · rw [if_pos h2] at h1; cases h1
  · have h3 : (tabM p p.tables.l[k]).2 = 0 := Classical.byContradiction h2
    generalize p.tables.l[k] = t at *
    have hb := bitsM_le p t.keys.l
    have h4 := h3
    unfold tabM at h4
    split at h4
    · cases h4
    split at h4
    · cases h4
    rename_i _ h5
    split at h4
    · cases h4
    rename_i h6
    split at h4
    · rename_i h7
      exact absurd h4 h7
    rename_i h7
    split at h4
    · rename_i h8
      exact absurd h4 h8
    rename_i h8
    have h7' : (keysM p t.keys.l).2 = 0 := Classical.byContradiction h7
    have h8' : tactsM p t = 0 := Classical.byContradiction h8
    refine ⟨h3, by omega, by omega, by omega, fun x hx => ?_, ⟨hb.1, ?_⟩, fun a ha => ?_⟩
    · obtain ⟨j, hj, rfl⟩ := List.mem_iff_getElem.1 hx
      unfold keysM at h7'
      rcases hfe : firstE t.keys.l.length (keyAtM p t.keys.l) with _ | r
      · have h9 := firstE_inv hfe j hj
        rw [keyAtM_at p _ j hj] at h9
        split at h9
        · cases h9
        split at h9
        · cases h9
        rename_i _ h10
        exact Classical.byContradiction fun hn => h10 hn
      · exfalso
        rw [hfe] at h7'
        obtain ⟨i, hi, h9, _⟩ := firstE_ex hfe
        rw [keyAtM_at p _ i hi] at h9
        split at h9
        · cases h9; cases h7'
        split at h9
        · cases h9; cases h7'
        cases h9
    · unfold keysM at h7'
      rcases hfe : firstE t.keys.l.length (keyAtM p t.keys.l) with _ | r
      · rw [hfe] at h7'
        simp only at h7'
        split at h7'
        · cases h7'
        split at h7'
        · cases h7'
        omega
      · exfalso
        rw [hfe] at h7'
        obtain ⟨i, hi, h9, _⟩ := firstE_ex hfe
        rw [keyAtM_at p _ i hi] at h9
        split at h9
        · cases h9; cases h7'
        split at h9
        · cases h9; cases h7'
        cases h9
    · obtain ⟨j, hj, rfl⟩ := List.mem_iff_getElem.1 ha
      rw [tactsM_eq] at h8'
      rcases hfe : firstE t.acts.l.length (tactAtM p t.acts.l) with _ | e
      · have h9 := firstE_inv hfe j hj
        rw [tactAtM_at p _ j hj] at h9
        split at h9
        · cases h9
        rename_i h10
        omega
      · exfalso
        rw [hfe] at h8'
        simp only at h8'
        subst h8'
        obtain ⟨i, hi, h9, _⟩ := firstE_ex hfe
        rw [tactAtM_at p _ i hi] at h9
        split at h9
        · cases h9
        split at h9
        · cases h9
        cases h9
set_option maxRecDepth 100000 in
set_option maxHeartbeats 4000000 in
theorem tvalid_any (p : ProgD) (i : Nat) (hi : i < p.tables.l.length) (w : World) (o : ProgOk w p) (hc : ∀ t ∈ p.tables.l, (Lit.int .i64 t.defA).wf = true) (hv : (tabM p p.tables.l[i]).2 = 0) :
    Calls Tryz.prog 223 #[.agg (progCells p), .int .i64 i] w fun e w' => e = .returned (.bool true) ∧ Below w.heap.size w w' := by
  have HO := Lib.hid o
  have HC := Lib.hid hc
  obtain ⟨W, hW, hw, HB, hp⟩ := box1 w (progCells p) 31
  have HW := Lib.hid hw
  have HT := Lib.hid (fun u (hb : Below W.heap.size W u) => tableCheck_any p i hi u (HO.out.below (below_step HW.out hb)) HC.out)
  clear o hw hc
  rw [hv] at HT
  clear hv
  go_enter Tryz.func223, Tryz.ntmps223
  go_upto_region 1 with fail
  rw [← hW]
  clear hW
  have hp3 := hp W HB
  go_wp2_with fail
  refine (HT.out _ (by first | exact HB | exact below_alloc HB _ | exact below_alloc (below_alloc HB _) _ | exact below_alloc (below_alloc (below_alloc HB _) _) _)).mono ?_
  rintro e w1 ⟨rfl, hbN⟩
  replace HB := below_step (by first | exact HB | exact below_alloc HB _ | exact below_alloc (below_alloc HB _) _ | exact below_alloc (below_alloc (below_alloc HB _) _) _) hbN
  clear hbN
  go_wp2
  go_ret
  exact ⟨rfl, below_step HW.out HB⟩
set_option maxRecDepth 100000 in
set_option maxHeartbeats 8000000 in
theorem tkind_any (p : ProgD) (i : Nat) (hi : i < p.tables.l.length) (w : World) (o : ProgOk w p) (hc : ∀ t ∈ p.tables.l, (Lit.int .i64 t.defA).wf = true) (hf : TabFine p p.tables.l[i]) :
    Calls Tryz.prog 169 #[.agg (progCells p), .int .i64 i] w fun e w' => e = .returned (.int .i64 (kindT p.tables.l[i].keys.l)) ∧ Below w.heap.size w w' := by
  have HO := Lib.hid o
  obtain ⟨W, hW, hw, HB, hp⟩ := box1 w (progCells p) 31
  have HW := Lib.hid hw
  have hvl := fun u (hb : Below W.heap.size W u) => tvalid_any p i hi u (o.below (below_step hw hb)) hc hf.ok
  have HK := Lib.hid ((o.tab _ (List.getElem_mem hi)).below hw).keys
  have HKd := Lib.hid hf.kinds
  obtain ⟨g, of, hA, hq⟩ := TabD.atA (o.tables.below hw (Nat.le_refl _)) hi
  have hn1 : (i : Int) < (p.tables.l.length : Int) := by omega
  clear o hw hc hf
  generalize p.tables.l[i] = t at *
  obtain ⟨tn, ⟨kl, kA, kc⟩, ta, td, tg, tz⟩ := t
  simp only at hq HK HKd ⊢
  have HR := Lib.hid (kindT.eq_1 kl)
  simp only [progCells, hA] at hp hW hvl ⊢
  have HVl := Lib.hid hvl
  have hmk : kl.length ≤ 9223372036854775807 := HK.out.1
  clear hA hvl
  go_enter Tryz.func169, Tryz.ntmps169
  go_upto_region 1 with fail
  rw [← hW]
  clear hW
  have hp3 := hp W HB
  go_wp2_with fail
  refine (HVl.out _ (by first | exact HB | exact below_alloc HB _ | exact below_alloc (below_alloc HB _) _ | exact below_alloc (below_alloc (below_alloc HB _) _) _)).mono ?_
  rintro e w1 ⟨rfl, hbN⟩
  replace HB := below_step (by first | exact HB | exact below_alloc HB _ | exact below_alloc (below_alloc HB _) _ | exact below_alloc (below_alloc (below_alloc HB _) _) _) hbN
  clear hbN
  clear hp3
  have hp3 := hp _ HB
  have hq3 := hq _ HB
  have HB1 := Lib.hid HB
  go_wp2
  clear HB hp3 hq3
  go_loopw [5, 7, 19] (fun bv _ iv wr => ∃ (k : Nat) (z : Int), k ≤ kl.length ∧ iv = .int .i64 k ∧ Hid (∀ j (hj : j < kl.length), j < k → kl[j].kind ≠ 3) ∧ bv = .int .i64 z ∧ Hid (z = if (kl.take k).any (fun k => decide (k.kind = 2)) = true then 2 else 1) ∧ Below W.heap.size W wr) (fun _ _ i _ => kl.length - (intOf i).toNat)
  case atStart => exact ⟨0, 1, Nat.zero_le _, rfl, Lib.hid (fun j _ h => absurd h (Nat.not_lt_zero _)), rfl, Lib.hid rfl, HB1.out⟩
  case round =>
    obtain ⟨k, z, hk, rfl, HN, rfl, HZv, HB⟩ := hrel
    by_cases hlt : k < kl.length
    · obtain ⟨g2, of2, hA2, d0, d1, d2⟩ := KeyD.at (HK.out.below HB (Nat.le_refl _)) hlt
      have HKk := Lib.hid (HKd.out _ (List.getElem_mem hlt))
      have HY : Hid (kl[k].kind = 3 → kindT kl = 3) := Lib.hid (fun e => HR.out.trans (if_pos (any_yes hlt (decide_eq_true e))))
      have HZ : Hid (kl[k].kind ≠ 3 → ∀ j (hj : j < kl.length), j < k + 1 → kl[j].kind ≠ 3) := Lib.hid (fun hne => pre_ne (f := fun _ (a : KeyD) => a.kind ≠ 3) HN.out hne)
      have HT : Hid ((kl.take (k + 1)).any (fun k => decide (k.kind = 2)) = ((kl.take k).any (fun k => decide (k.kind = 2)) || decide (kl[k].kind = 2))) := Lib.hid (by
        rw [take_snoc kl k hlt, List.any_append]; simp)
      simp only at hA2 d0 d1 d2
      subst hA2
      generalize kl[k] = y at *
      obtain ⟨yh, yf, yk⟩ := y
      simp only at d0 d1 d2 HKk HY HZ HT
      generalize (kl.take k).any (fun k => decide (k.kind = 2)) = bk at *
      rcases HKk.out with rfl | rfl | rfl
      · have HZ2 := Lib.hid (HZ.out (by decide))
        have HZ3 : Hid (z = if (kl.take (k + 1)).any (fun k => decide (k.kind = 2)) = true then 2 else 1) := Lib.hid (by rw [HZv.out, HT.out]; simp)
        clear HT HZv
        go_wp2
        go_roundw
        case rel => exact ⟨k + 1, z, by omega, by go_num, HZ2, rfl, HZ3, below_alloc HB _⟩
        case measure => simp [intOf]; omega
      · have HZ2 := Lib.hid (HZ.out (by decide))
        have HZ3 : Hid ((2 : Int) = if (kl.take (k + 1)).any (fun k => decide (k.kind = 2)) = true then 2 else 1) := Lib.hid (by rw [HT.out]; simp)
        clear HT HZv
        go_wp2
        go_roundw
        case rel => exact ⟨k + 1, 2, by omega, by go_num, HZ2, rfl, HZ3, below_alloc HB _⟩
        case measure => simp [intOf]; omega
      · have HY2 := Lib.hid (HY.out rfl)
        go_wp2
        go_ret
        exact ⟨by rw [HY2.out]; rfl, below_step HW.out (below_alloc HB _)⟩
    · have e : k = kl.length := by omega
      have HR2 : Hid (kindT kl = z) := Lib.hid (by
        have h := HZv.out
        rw [e, List.take_length] at h
        rw [h]
        exact HR.out.trans (if_neg (by rw [any_no (f := fun k : KeyD => decide (k.kind = 3)) (fun j hj => decide_eq_false (HN.out j hj (by omega)))]; simp)))
      go_wp2
      go_ret
      exact ⟨by rw [HR2.out]; rfl, below_step HW.out HB⟩
end Go.Proofs.YtofjapcgbajmiaaGreatDoor
namespace Go.Proofs.YtofjapcgbajmiaaGreatDoor
open Go.RowKit
def pmaskM (n w : Nat) : Nat := 2 ^ w - 2 ^ (w - n)
def prefixM (m w : Int) : Bool := okW w && (List.range (w.toNat + 1)).any fun n => decide ((pmaskM n w.toNat : Int) = m)
theorem pmask_bits (n w : Nat) (h : n ≤ w) (hw : w ≤ 32) (h1 : 1 ≤ w) : bits .andNot .u32 (maskM w : Int) ((maskM w : Int) / 2 ^ n) = (pmaskM n w : Int) := by
  have h : ∀ a b : Fin 33, b.1 ≤ a.1 → 1 ≤ a.1 → bits .andNot .u32 (maskM a.1 : Int) ((maskM a.1 : Int) / 2 ^ b.1) = (pmaskM b.1 a.1 : Int) := by decide +kernel
  exact h ⟨w, by omega⟩ ⟨n, by omega⟩ (by assumption) h1
set_option maxRecDepth 100000 in
set_option maxHeartbeats 1000000 in
theorem pmask_any (n w : Nat) (hn : n ≤ w) (hw : w ≤ 32) (h1 : 1 ≤ w) (u : World) :
    Calls Tryz.prog 256 #[.int .i64 n, .int .i64 w] u fun e w' => e = .returned (.int .u32 (pmaskM n w)) ∧ Below u.heap.size u w' := by
  have hb : Below u.heap.size u (u.alloc (.cells #[.int .i64 w] 3)) := (Below.refl _ _).alloc (Nat.le_refl _) _
  have HV := Lib.hid (show okW (w : Int) = true by rw [okW]; simp; omega)
  have HE := Lib.hid (pmask_bits n w hn hw h1)
  have m1 : max (n : Int) 0 = n := by omega
  have m2 : min (n : Int) w = n := by omega
  have hM := fun u => mask_any (w : Int) u
  generalize hm : (maskM w : Int) = m at *
  have n0 : (n : Int) < 32 + 1 := by omega
  go_enter Tryz.func256, Tryz.ntmps256
  go_wp2_with fail
  refine (valid1_any u.heap.size 1 w _ (by simp)).mono ?_
  rintro e w1 ⟨rfl, rfl⟩
  rw [HV.out]
  go_wp2_with fail
  refine (hM _).mono ?_
  rintro e w1 ⟨rfl, hb1⟩
  go_wp2_with fail
  refine (hM _).mono ?_
  rintro e w2 ⟨rfl, hb2⟩
  go_wp2
  go_ret
  exact ⟨by rw [← HE.out]; rfl, below_step (below_step hb hb1) hb2⟩
theorem prefix_yes {m : Int} {w k : Nat} (hw : okW w = true) (hk : k ≤ w) (h : (pmaskM k w : Int) = m) : prefixM m w = true := by
  rw [prefixM, hw, Int.toNat_natCast, Bool.true_and, List.any_eq_true]
  exact ⟨k, List.mem_range.2 (by omega), decide_eq_true h⟩
theorem prefix_no {m : Int} {w : Nat} (h : ∀ k, k ≤ w → (pmaskM k w : Int) ≠ m) : prefixM m w = false := by
  rw [prefixM, Int.toNat_natCast]
  have : ((List.range (w + 1)).any fun n => decide ((pmaskM n w : Int) = m)) = false := by
    rw [List.any_eq_false]
    intro x hx
    have := h x (by have := List.mem_range.1 hx; omega)
    simpa using this
  rw [this, Bool.and_false]
set_option maxRecDepth 100000 in
set_option maxHeartbeats 2000000 in
theorem plen_any (m : Int) (w : Nat) (hw : w ≤ 32) (h1 : 1 ≤ w) (u : World) :
    Calls Tryz.prog 225 #[.int .u32 m, .int .i64 w] u fun e w' => (∃ n : Int, e = .returned (.tuple #[.int .i64 n, .bool (prefixM m w)])) ∧ Below u.heap.size u w' := by
  have hb : Below u.heap.size u (u.alloc (.cells #[.int .i64 w] 3)) := (Below.refl _ _).alloc (Nat.le_refl _) _
  have hv : okW (w : Int) = true := by rw [okW]; simp; omega
  have HV := Lib.hid hv
  have HY := Lib.hid (fun (k : Nat) (hk : k ≤ w) => prefix_yes (m := m) hv hk)
  have HN := Lib.hid (@prefix_no m w)
  have HP := Lib.hid (fun (k : Nat) (hk : k ≤ w) u => pmask_any k w hk hw h1 u)
  generalize prefixM m w = pr at *
  clear hv
  go_enter Tryz.func225, Tryz.ntmps225
  go_wp2_with fail
  refine (valid1_any u.heap.size 1 w _ (by simp)).mono ?_
  rintro e w1 ⟨rfl, rfl⟩
  rw [HV.out]
  go_wp2
  have HB := Lib.hid hb
  clear hb
  go_loopw [6, 13] (fun _ iv wr => ∃ k : Nat, k ≤ w + 1 ∧ iv = .int .i64 k ∧ Hid (∀ j, j < k → (pmaskM j w : Int) ≠ m) ∧ Hid (Below u.heap.size u wr)) (fun _ i _ => w + 1 - (intOf i).toNat)
  case atStart => exact ⟨0, by omega, rfl, Lib.hid (fun j h => absurd h (Nat.not_lt_zero _)), HB⟩
  case round =>
    obtain ⟨k, hk, rfl, HK, HB1⟩ := hrel
    by_cases hlt : k ≤ w
    · by_cases he : (pmaskM k w : Int) = m
      · have HE := Lib.hid (HY.out k hlt he)
        have hp := HP.out k hlt wr
        generalize hx : (pmaskM k w : Int) = x at *
        subst he
        go_wp2_with fail
        refine hp.mono ?_
        rintro e w1 ⟨rfl, hb1⟩
        go_wp2
        go_ret2
        exact ⟨⟨k, by rw [HE.out]; rfl⟩, below_step HB1.out hb1⟩
      · have HK2 : Hid (∀ j, j < k + 1 → (pmaskM j w : Int) ≠ m) := Lib.hid (fun j hj => by
          rcases Nat.lt_or_ge j k with h | h
          · exact HK.out j h
          · rw [show j = k by omega]; exact he)
        have hp := HP.out k hlt wr
        generalize hx : (pmaskM k w : Int) = x at *
        have hb' : (x == m) = false := by simpa using he
        clear he hx
        go_wp2_with fail
        refine hp.mono ?_
        rintro e w1 ⟨rfl, hb1⟩
        have HB2 := Lib.hid (below_step HB1.out hb1)
        clear hb1 hp
        go_wp2
        go_roundw
        case rel => exact ⟨k + 1, by omega, by go_num, HK2, HB2⟩
        case measure => simp [intOf]; omega
    · have HE := Lib.hid (HN.out (fun j hj => HK.out j (by omega)))
      go_wp2
      go_ret2
      exact ⟨⟨0, by rw [HE.out]; rfl⟩, HB1.out⟩
end Go.Proofs.YtofjapcgbajmiaaGreatDoor
namespace Go.Proofs.YtofjapcgbajmiaaGreatDoor
open Go.RowKit
def notNl (c : Int) : Bool := c != 10
def tokM : Nat → List UInt8 → Nat → List Tk → List Tk × Nat × Nat
  | 0, _, _, out => (out, 0, 0)
  | n + 1, l, at_, out => match l with
    | [] => (out, 0, 0)
    | c :: r =>
      if c = 10 then tokM n r (at_ + 1) out
      else if c = 32 ∨ c = 9 then tokM n r at_ out
      else if c = 35 then tokM n ((c :: r).drop (ext notNl (c :: r))) at_ out
      else if 4096 ≤ out.length then ([], at_, 12)
      else if (nextM (c :: r)).2 = 0 then tokM n ((c :: r).drop (nextM (c :: r)).1.text.length) at_ (out ++ [{ (nextM (c :: r)).1 with line := at_ }])
      else ([], at_, (nextM (c :: r)).2)
def tokenize (l : List UInt8) : List Tk × Nat × Nat := if 16384 < l.length then ([], 0, 4) else tokM l.length l 1 []
theorem sym_le (l : List UInt8) : sym l ≤ l.length := by
  unfold sym
  split
  · rename_i h
    match l, h with
    | [], h => simp [twos] at h
    | [a], h => simp [twos] at h
    | _ :: _ :: _, _ => simp
  · split
    · exact Nat.zero_le _
    · split <;> simp
theorem isWord_let {c : Int} (h : isLet c = true) : isWord c = true := by rw [isWord, h]; rfl
theorem nextM_len (l : List UInt8) (h : (nextM l).2 = 0) : 0 < (nextM l).1.text.length ∧ (nextM l).1.text.length ≤ l.length := by
  match l, h with
  | [], h => cases h
  | c :: r, h =>
    simp only [nextM] at h ⊢
    by_cases h1 : isLet c.toNat = true
    · rw [if_pos h1] at h ⊢
      by_cases h2 : 16 < ext isWord (c :: r)
      · rw [if_pos h2] at h; cases h
      · rw [if_neg h2]
        have h3 : 0 < ext isWord (c :: r) := by rw [ext, if_pos (isWord_let h1)]; omega
        have h4 := ext_le isWord (c :: r)
        show 0 < (List.take _ _).length ∧ (List.take _ _).length ≤ _
        rw [List.length_take]; omega
    · rw [if_neg h1] at h ⊢
      by_cases h2 : isDig c.toNat = true
      · rw [if_pos h2] at h ⊢
        have h3 : 0 < ext isAlnum (c :: r) := by rw [ext, if_pos (by rw [isAlnum, h2, Bool.or_true])]; omega
        have h4 := ext_le isAlnum (c :: r)
        rcases hv : pu32 ((c :: r).take (ext isAlnum (c :: r))) with _ | v
        · rw [hv] at h
          simp only at h
          exfalso
          unfold numErr at h
          split at h
          · cases h
          · split at h <;> cases h
        · simp only
          rw [List.length_take]; omega
      · rw [if_neg h2] at h ⊢
        by_cases h5 : sym (c :: r) = 0
        · rw [if_pos h5] at h; cases h
        · rw [if_neg h5]
          have h4 := sym_le (c :: r)
          show 0 < (List.take _ _).length ∧ (List.take _ _).length ≤ _
          rw [List.length_take]; omega
theorem tokM_fuel : ∀ (n m : Nat) (l : List UInt8) (at_ : Nat) (out : List Tk), l.length ≤ n → l.length ≤ m → tokM n l at_ out = tokM m l at_ out
  | 0, 0, _, _, _, _, _ => rfl
  | 0, m + 1, [], _, _, _, _ => rfl
  | n + 1, 0, [], _, _, _, _ => rfl
  | 0, m + 1, c :: r, _, _, h, _ => by simp at h
  | n + 1, 0, c :: r, _, _, _, h => by simp at h
  | n + 1, m + 1, [], _, _, _, _ => rfl
  | n + 1, m + 1, c :: r, at_, out, hn, hm => by
    have hn' : r.length ≤ n := by simpa using hn
    have hm' : r.length ≤ m := by simpa using hm
    simp only [tokM]
    split
    · exact tokM_fuel n m r _ _ hn' hm'
    · split
      · exact tokM_fuel n m r _ _ hn' hm'
      · split
        · rename_i h1 _ h3
          have hx : 0 < ext notNl (c :: r) := by rw [ext, if_pos (by subst h3; decide)]; omega
          refine tokM_fuel n m _ _ _ ?_ ?_ <;> (rw [List.length_drop]; simp only [List.length_cons]; omega)
        · split
          · rfl
          · split
            · rename_i h0
              have hx := (nextM_len (c :: r) h0).1
              refine tokM_fuel n m _ _ _ ?_ ?_ <;> (rw [List.length_drop]; simp only [List.length_cons]; omega)
            · rfl
def tkCells (l : List Tk) : List Value := l.flatMap fun t => t.cells.toList
theorem tkCells_snoc (l : List Tk) (t : Tk) : tkCells (l ++ [t]) = tkCells l ++ t.cells.toList := by simp [tkCells]
end Go.Proofs.YtofjapcgbajmiaaGreatDoor
namespace Go.Proofs.YtofjapcgbajmiaaGreatDoor
open Go.RowKit
structure Pd where
  n : List NodeD
  at_ : Nat
  e : Int
end Go.Proofs.YtofjapcgbajmiaaGreatDoor
namespace Go.Proofs.YtofjapcgbajmiaaGreatDoor
open Go.RowKit
structure Agree (r q : Pd) : Prop where
  e : r.e = q.e
  ok : r.e = 0 → r.n = q.n ∧ r.at_ = q.at_
theorem Agree.same (r : Pd) : Agree r r := ⟨rfl, fun _ => ⟨rfl, rfl⟩⟩
theorem Agree.bad {r q : Pd} (h : r.e = q.e) (h0 : r.e ≠ 0) : Agree r q := ⟨h, fun h1 => absurd h1 h0⟩
def KindsOk (ts : List Tk) : Prop := ∀ t ∈ ts, t.kind = 1 ∨ t.kind = 2 ∨ t.kind = 3
end Go.Proofs.YtofjapcgbajmiaaGreatDoor
namespace Go.Proofs.YtofjapcgbajmiaaGreatDoor
open Go.RowKit
structure Bd (ts : List Tk) (i : Nat) (r : Pd) : Prop where
  ge : i ≤ r.at_
  le : r.at_ ≤ ts.length
  ok : r.e = 0 → r.n.length + i ≤ r.at_
  er : r.n.length + i ≤ r.at_ + 1
theorem Bd.err {ts : List Tk} {i : Nat} {e : Int} (hi : i ≤ ts.length) (he : e ≠ 0) : Bd ts i ⟨[], i, e⟩ := ⟨Nat.le_refl _, hi, fun h => absurd h he, by simp⟩
end Go.Proofs.YtofjapcgbajmiaaGreatDoor
namespace Go.Proofs.YtofjapcgbajmiaaGreatDoor
open Go.RowKit
structure TkOk (t : Tk) : Prop where
  kind : t.kind = 1 ∨ t.kind = 2 ∨ t.kind = 3
  value : t.value ≤ 4294967295
theorem pu32_le {l : List UInt8} {v : Nat} (h : pu32 l = some v) : v ≤ 4294967295 := by
  unfold pu32 at h
  split at h
  · split at h
    · cases h
    · exact horner_le 16 _ 0 v (by omega) h
  · split at h
    · exact horner_le 10 _ 0 v (by omega) h
    · cases h
theorem nextM_ok (l : List UInt8) (h : (nextM l).2 = 0) : TkOk (nextM l).1 := by
  match l, h with
  | [], h => cases h
  | c :: r, h =>
    simp only [nextM] at h ⊢
    by_cases h1 : isLet c.toNat = true
    · rw [if_pos h1] at h ⊢
      by_cases h2 : 16 < ext isWord (c :: r)
      · rw [if_pos h2] at h; cases h
      · rw [if_neg h2]; exact ⟨.inl rfl, Nat.zero_le _⟩
    · rw [if_neg h1] at h ⊢
      by_cases h2 : isDig c.toNat = true
      · rw [if_pos h2] at h ⊢
        rcases hv : pu32 ((c :: r).take (ext isAlnum (c :: r))) with _ | v
        · rw [hv] at h
          simp only at h
          exfalso
          unfold numErr at h
          split at h
          · cases h
          · split at h <;> cases h
        · exact ⟨.inr (.inl rfl), pu32_le hv⟩
      · rw [if_neg h2] at h ⊢
        by_cases h5 : sym (c :: r) = 0
        · rw [if_pos h5] at h; cases h
        · rw [if_neg h5]; exact ⟨.inr (.inr rfl), Nat.zero_le _⟩
theorem tokM_ok : ∀ (n : Nat) (l : List UInt8) (at_ : Nat) (out : List Tk), (∀ t ∈ out, TkOk t) → out.length ≤ 4096 → (∀ t ∈ (tokM n l at_ out).1, TkOk t) ∧ (tokM n l at_ out).1.length ≤ 4096
  | 0, _, _, out, h, hl => ⟨h, hl⟩
  | n + 1, [], _, out, h, hl => ⟨h, hl⟩
  | n + 1, c :: r, at_, out, h, hl => by
    rw [tokM]
    split
    · exact tokM_ok n r (at_ + 1) out h hl
    · split
      · exact tokM_ok n r at_ out h hl
      · split
        · exact tokM_ok n _ at_ out h hl
        · split
          · exact ⟨fun t h => by simp at h, Nat.zero_le _⟩
          · split
            · rename_i h4 h5
              refine tokM_ok n _ at_ _ (fun t ht => ?_) (by simp; omega)
              rcases List.mem_append.1 ht with ht | ht
              · exact h t ht
              · simp only [List.mem_singleton] at ht
                subst ht
                have := nextM_ok _ h5
                exact ⟨this.kind, this.value⟩
            · exact ⟨fun t h => by simp at h, Nat.zero_le _⟩
theorem tokenize_ok (l : List UInt8) : (∀ t ∈ (tokenize l).1, TkOk t) ∧ (tokenize l).1.length ≤ 4096 := by
  unfold tokenize
  split
  · exact ⟨fun t h => by simp at h, Nat.zero_le _⟩
  · exact tokM_ok l.length l 1 [] (fun t h => by simp at h) (Nat.zero_le _)
theorem TkOk.kinds {ts : List Tk} (h : ∀ t ∈ ts, TkOk t) : KindsOk ts := fun t ht => (h t ht).kind
def tkL (t : Tk) : List Value := [.int .i64 t.kind, .string ⟨t.text.toArray⟩, .int .u32 t.value, .int .i64 t.line]
theorem tk_cells_at (l : List Tk) (i : Nat) (h : i < l.length) (j : Nat) (hj : j < 4) : (tkCells l)[i * 4 + j]? = (tkL (l[i]'h))[j]? := by
  induction l generalizing i with
  | nil => simp at h
  | cons t l ih =>
    have e : tkCells (t :: l) = t.cells.toList ++ tkCells l := rfl
    have hl : t.cells.toList.length = 4 := rfl
    cases i with
    | zero => rw [e, List.getElem?_append_left (by omega), Nat.zero_mul, Nat.zero_add]; rfl
    | succ i =>
      rw [e, List.getElem?_append_right (by omega), hl, show (i + 1) * 4 + j - 4 = i * 4 + j from by omega, ih i (by simpa using h)]
      rfl
theorem own_tk {w : World} {base : Nat} {A : Option Addr} {c : Nat} {l : List Tk} {ty : TypeId} (h : w.ownsRow base ty 4 (.slice A l.length c) l.length (tkCells l)) (hm : l.length ≤ maxLen) : LOk w 4 tkL ⟨l, A, c⟩ := by
  refine ⟨hm, ?_⟩
  by_cases h0 : l = []
  · exact .inl h0
  · have hpos : 0 < l.length := List.length_pos_iff.2 h0
    have h' := h
    rcases h'.2 with ⟨e, _⟩ | ⟨g, cap, cur, hv, _, hblk, hle, _, _, _⟩
    · exact absurd e (by intro e; injection e with _ e _; omega)
    · have hA : A = some ⟨g, 0, none⟩ := by injection hv
      have hc : c = cap := by injection hv
      subst hA hc
      refine .inr ⟨g, 0, rfl, Blk.lt hblk, fun i hi j hj => ?_⟩
      simp only at hi
      have := h.cellAt (i * 4 + j) (by omega)
      rw [tk_cells_at l i hi j hj] at this
      rw [Nat.zero_add]
      exact this
theorem TkD.atA {w : World} {x : L Tk} (h : LOk w 4 tkL x) {i : Nat} (hi : i < x.l.length) :
    ∃ g o, x.A = some ⟨g, o, none⟩ ∧ ∀ w', Below w.heap.size w w' → w'.cell? ⟨g, o + i * 4, none⟩ = some (.int .i64 x.l[i].kind) ∧ w'.cell? ⟨g, o + i * 4 + 1, none⟩ = some (.string ⟨x.l[i].text.toArray⟩) ∧
      w'.cell? ⟨g, o + i * 4 + 2, none⟩ = some (.int .u32 x.l[i].value) ∧ w'.cell? ⟨g, o + i * 4 + 3, none⟩ = some (.int .i64 x.l[i].line) := by
  obtain ⟨g, o, e, _, hc⟩ := h.at hi
  exact ⟨g, o, e, fun w' hb => ⟨below_cell hb (hc 0 (by omega)), below_cell hb (hc 1 (by omega)), below_cell hb (hc 2 (by omega)), below_cell hb (hc 3 (by omega))⟩⟩
structure NLies (w : World) (ga : Nat) (x : L NodeD) : Prop where
  lok : LOk w 3 NodeD.cells x
  nil : x.A = none → x.c = 0
  far : ∀ a, x.A = some a → ga < a.block
theorem NLies.gr {w w' : World} {ga : Nat} {x : L NodeD} (h : NLies w ga x) (hg : w.grownBy w' (some ga)) : NLies w' ga x := by
  refine ⟨⟨h.lok.1, ?_⟩, h.nil, h.far⟩
  rcases h.lok.2 with h0 | ⟨g, o, e, hx, hc⟩
  · exact .inl h0
  · have hne : ga < g := h.far _ e
    refine .inr ⟨g, o, e, Nat.lt_of_lt_of_le hx hg.size, fun i hi j hj => ?_⟩
    rw [← hc i hi j hj]
    unfold World.cell?
    rw [hg.block g hx (fun e => by injection e with e; omega)]
end Go.Proofs.YtofjapcgbajmiaaGreatDoor
namespace Go.Proofs.YtofjapcgbajmiaaGreatDoor
open Go.RowKit
structure KmD where
  v : Int
  m : Int
  deriving DecidableEq
def KmD.cells (k : KmD) : List Value := [.int .u32 k.v, .int .u32 k.m]
def wIns : List UInt8 := [105, 110, 115, 101, 114, 116]
def wMod : List UInt8 := [109, 111, 100, 105, 102, 121]
def wDel : List UInt8 := [100, 101, 108, 101, 116, 101]
def wDef : List UInt8 := [100, 101, 102, 97, 117, 108, 116]
def wPrio : List UInt8 := [112, 114, 105, 111, 114, 105, 116, 121]
def wArrow : List UInt8 := [45, 62]
inductive PS where
  | ok (i : Nat)
  | bad (e : Nat)
  deriving DecidableEq
def nxt (ts : List Tk) (i : Nat) : Tk := ts.getD i Tk.zero
def takeA (ts : List Tk) (k : Nat) (txt : List UInt8) : PS → Tk × PS
  | .bad e => (Tk.zero, .bad e)
  | .ok i => if (nxt ts i).kind ≠ k ∨ (txt ≠ [] ∧ (nxt ts i).text ≠ txt) then (Tk.zero, .bad 5) else (nxt ts i, .ok (i + 1))
def stepA (ts : List Tk) (k : Nat) (txt : List UInt8) (s : PS) : PS := (takeA ts k txt s).2
def numA (ts : List Tk) (s : PS) : Nat × PS := ((takeA ts 2 [] s).1.value, (takeA ts 2 [] s).2)
def argsA (ts : List Tk) : Nat → Bool → List Int → PS → List Int × PS
  | 0, _, acc, s => (acc, s)
  | _ + 1, _, acc, .bad e => (acc, .bad e)
  | n + 1, first, acc, .ok i =>
    if (nxt ts i).text = [41] then (acc, .ok i)
    else
      let v := numA ts (if first then .ok i else stepA ts 3 [44] (.ok i))
      argsA ts n false (acc ++ [(v.1 : Int)]) v.2
def keysA (ts : List Tk) : Nat → List KmD → PS → List KmD × PS
  | 0, acc, s => (acc, s)
  | _ + 1, acc, .bad e => (acc, .bad e)
  | n + 1, acc, .ok i =>
    if (nxt ts i).kind = 2 then
      let v := numA ts (.ok i)
      let m := numA ts (stepA ts 3 [47] v.2)
      keysA ts n (acc ++ [⟨v.1, m.1⟩]) m.2
    else (acc, .ok i)
def kindW (l : List UInt8) : Nat := if l = wIns then 1 else if l = wMod then 2 else if l = wDel then 3 else if l = wDef then 4 else 0
end Go.Proofs.YtofjapcgbajmiaaGreatDoor
namespace Go.Proofs.YtofjapcgbajmiaaGreatDoor
open Go.RowKit
set_option maxRecDepth 100000 in
set_option maxHeartbeats 4000000 in
theorem checkFlow_any (p : ProgD) (w : World) (o : ProgOk w p) (hc : ProgCap p) (hN : (presM p.control.l).length ≤ 90000) :
    Calls Tryz.prog 43 #[.agg (progCells p)] w fun e w' => e = outE (flowM p) ∧ Below w.heap.size w w' := by
  have HO := Lib.hid o
  have HC := Lib.hid hc
  have HN := Lib.hid hN
  have HR := Lib.hid (flowM.eq_1 p)
  obtain ⟨W, hW, hw, HB, hp⟩ := box1 w (progCells p) 31
  have HW := Lib.hid hw
  clear o hc hN hw
  go_enter Tryz.func43, Tryz.ntmps43
  go_upto_region 1 with fail
  rw [← hW]
  clear hW
  go_wp2_with fail
  refine (parserCheck_any p _ (HO.out.below (below_step HW.out (by first | exact HB | exact below_alloc HB _ | exact below_alloc (below_alloc HB _) _ | exact below_alloc (below_alloc (below_alloc HB _) _) _))) HC.out.cases).mono ?_
  rintro e w1 ⟨rfl, hbN⟩
  replace HB := below_step (by first | exact HB | exact below_alloc HB _ | exact below_alloc (below_alloc HB _) _ | exact below_alloc (below_alloc (below_alloc HB _) _) _) hbN
  clear hbN
  generalize parserM p = r at *
  obtain ⟨ri, rs, rc⟩ := r
  simp only at HR
  by_cases k1 : rc = 0
  case neg =>
    replace HR := Lib.hid (HR.out.trans (if_pos k1))
    go_wp2_with fail
    refine (require_bad rc 6 ri rs _ (beq_eq_false_iff_ne.2 k1)).mono ?_
    rintro e w' ⟨rfl, rfl⟩
    go_wp2
    exact ⟨rfl, by rw [HR.out]; rfl, below_step HW.out HB⟩
  subst k1
  replace HR := Lib.hid (HR.out.trans (if_neg (by simp)))
  go_wp2_with fail
  refine (require_ok _ _ _ _).mono ?_
  rintro e w' ⟨rfl, rfl⟩
  go_wp2_with fail
  refine (controlCheck_any p _ (HO.out.below (below_step HW.out (by first | exact HB | exact below_alloc HB _ | exact below_alloc (below_alloc HB _) _ | exact below_alloc (below_alloc (below_alloc HB _) _) _))) HN.out).mono ?_
  rintro e w2 ⟨rfl, hbN⟩
  replace HB := below_step (by first | exact HB | exact below_alloc HB _ | exact below_alloc (below_alloc HB _) _ | exact below_alloc (below_alloc (below_alloc HB _) _) _) hbN
  clear hbN
  generalize ctlM p = r at *
  obtain ⟨ri, rc⟩ := r
  simp only at HR
  by_cases k1 : rc = 0
  case neg =>
    replace HR := Lib.hid (HR.out.trans (if_pos k1))
    go_wp2_with fail
    refine (require_bad rc 7 ri 0 _ (beq_eq_false_iff_ne.2 k1)).mono ?_
    rintro e w' ⟨rfl, rfl⟩
    go_wp2
    exact ⟨rfl, by rw [HR.out]; rfl, below_step HW.out HB⟩
  subst k1
  replace HR := Lib.hid (HR.out.trans (if_neg (by simp)))
  go_wp2_with fail
  refine (require_ok _ _ _ _).mono ?_
  rintro e w' ⟨rfl, rfl⟩
  go_wp2_with fail
  refine (deparserCheck_any p _ (HO.out.below (below_step HW.out (by first | exact HB | exact below_alloc HB _ | exact below_alloc (below_alloc HB _) _ | exact below_alloc (below_alloc (below_alloc HB _) _) _))) HC.out.dep).mono ?_
  rintro e w3 ⟨rfl, hbN⟩
  replace HB := below_step (by first | exact HB | exact below_alloc HB _ | exact below_alloc (below_alloc HB _) _ | exact below_alloc (below_alloc (below_alloc HB _) _) _) hbN
  clear hbN
  generalize depM p = r at *
  obtain ⟨ri, rc⟩ := r
  simp only at HR
  by_cases k1 : rc = 0
  case neg =>
    replace HR := Lib.hid (HR.out.trans (if_pos k1))
    go_wp2_with fail
    refine (require_bad rc 8 ri 0 _ (beq_eq_false_iff_ne.2 k1)).mono ?_
    rintro e w' ⟨rfl, rfl⟩
    go_wp2
    exact ⟨rfl, by rw [HR.out]; rfl, below_step HW.out HB⟩
  subst k1
  replace HR := Lib.hid (HR.out.trans (if_neg (by simp)))
  go_wp2_with fail
  refine (require_ok _ _ _ _).mono ?_
  rintro e w' ⟨rfl, rfl⟩
  go_wp2
  go_end0
  exact ⟨by rw [HR.out]; rfl, below_step HW.out HB⟩
end Go.Proofs.YtofjapcgbajmiaaGreatDoor
namespace Go.Proofs.YtofjapcgbajmiaaGreatDoor
open Go.RowKit
theorem mixed : Tryz.prog.follows .mixedOrders = true := by kernel_rfl
theorem when_flip (b : Bool) (c : Int) (w : World) : Calls Tryz.prog 81 #[.bool b, .int .i64 c] w fun e w' => e = .returned (.int .i64 (if b = true then c else 0)) ∧ w' = w := (when_any b c w).mono fun _ _ h => ⟨h.1, h.2.symm⟩
def mAt (l : List FieldD) (i : Nat) : Option DiagD := (fldM l i).map fun e => (⟨e, 2, i, 0⟩ : DiagD)
def wAt (l : List FieldD) (i : Nat) : Option DiagD := if isWant l i = false then some ⟨5, 2, i, 0⟩ else none
theorem metaM_eq (p : ProgD) : metaM p = if 12 < p.metadata.l.length then some ⟨12, 2, 0, 0⟩
  else match firstE p.metadata.l.length (mAt p.metadata.l) with
    | some d => some d
    | none => firstE 3 (wAt p.metadata.l) := rfl
theorem mAt_some {l : List FieldD} {i : Nat} {e : Int} (h : fldM l i = some e) : mAt l i = some ⟨e, 2, i, 0⟩ := by rw [mAt, h]; rfl
theorem mAt_none {l : List FieldD} {i : Nat} (h : fldM l i = none) : mAt l i = none := by rw [mAt, h]; rfl
theorem wAt_none {l : List FieldD} {i : Nat} (h : isWant l i = true) : wAt l i = none := by rw [wAt, h]; rfl
theorem wAt_some {l : List FieldD} {i : Nat} (h : isWant l i = false) : wAt l i = some ⟨5, 2, i, 0⟩ := by rw [wAt, h]; rfl
theorem want_out {l : List FieldD} {i : Nat} (h : l.length ≤ i) : isWant l i = false := by rw [isWant, List.getElem?_eq_none h]
theorem lit_in : (⟨#[105, 110]⟩ : ByteArray).toList = [105, 110] := by rw [toList_data]
theorem nm_in_yes {s : ByteArray} (h : s = (⟨#[105, 110]⟩ : ByteArray)) : (s.toList == [105, 110]) = true := by rw [h, lit_in]; rfl
theorem nm_in_no {s : ByteArray} (h : ¬ s = (⟨#[105, 110]⟩ : ByteArray)) : (s.toList == [105, 110]) = false := beq_eq_false_iff_ne.2 fun e => h (toList_inj.1 (e.trans lit_in.symm))
theorem want_in (l : List FieldD) (h : 0 < l.length) : isWant l 0 = (decide (l[0].name = (⟨#[105, 110]⟩ : ByteArray)) && decide (l[0].width = 8)) := by
  rw [isWant, List.getElem?_eq_getElem h]
  rfl
theorem lit_out : (⟨#[111, 117, 116]⟩ : ByteArray).toList = [111, 117, 116] := by rw [toList_data]
theorem nm_out_yes {s : ByteArray} (h : s = (⟨#[111, 117, 116]⟩ : ByteArray)) : (s.toList == [111, 117, 116]) = true := by rw [h, lit_out]; rfl
theorem nm_out_no {s : ByteArray} (h : ¬ s = (⟨#[111, 117, 116]⟩ : ByteArray)) : (s.toList == [111, 117, 116]) = false := beq_eq_false_iff_ne.2 fun e => h (toList_inj.1 (e.trans lit_out.symm))
theorem want_out_ (l : List FieldD) (h : 1 < l.length) : isWant l 1 = (decide (l[1].name = (⟨#[111, 117, 116]⟩ : ByteArray)) && decide (l[1].width = 8)) := by
  rw [isWant, List.getElem?_eq_getElem h]
  rfl
theorem lit_drop : (⟨#[100, 114, 111, 112]⟩ : ByteArray).toList = [100, 114, 111, 112] := by rw [toList_data]
theorem nm_drop_yes {s : ByteArray} (h : s = (⟨#[100, 114, 111, 112]⟩ : ByteArray)) : (s.toList == [100, 114, 111, 112]) = true := by rw [h, lit_drop]; rfl
theorem nm_drop_no {s : ByteArray} (h : ¬ s = (⟨#[100, 114, 111, 112]⟩ : ByteArray)) : (s.toList == [100, 114, 111, 112]) = false := beq_eq_false_iff_ne.2 fun e => h (toList_inj.1 (e.trans lit_drop.symm))
theorem want_drop (l : List FieldD) (h : 2 < l.length) : isWant l 2 = (decide (l[2].name = (⟨#[100, 114, 111, 112]⟩ : ByteArray)) && decide (l[2].width = 1)) := by
  rw [isWant, List.getElem?_eq_getElem h]
  rfl
set_option maxRecDepth 100000 in
set_option maxHeartbeats 8000000 in
theorem checkMetadata_any (p : ProgD) (w : World) (o : ProgOk w p) :
    Calls Tryz.prog 41 #[.agg (progCells p)] w fun e w' => e = outE (metaM p) ∧ Below w.heap.size w w' := by
  obtain ⟨W, hW, hw, HB, hp⟩ := box1 w (progCells p) 31
  have HW := Lib.hid hw
  have HOW := Lib.hid (o.below hw)
  have HR := Lib.hid (metaM_eq p)
  have HS := Lib.hid (fldM_at p.metadata.l)
  have HN : Hid (∀ f ∈ p.metadata.l, f.name.size ≤ maxLen) := Lib.hid HOW.out.mnames
  have HX := Lib.hid HOW.out.metadata
  have HNm := Lib.hid (fun w' (h : Below W.heap.size W w') (hl : p.metadata.l.length ≤ 100) => names_field p.metadata w' (HOW.out.metadata.below h (Nat.le_refl _)) hl)
  have HW0 := Lib.hid (want_in p.metadata.l)
  have HW1 := Lib.hid (want_out_ p.metadata.l)
  have HW2 := Lib.hid (want_drop p.metadata.l)
  clear o hw
  obtain ⟨⟨ml, mA, mc⟩, hmd⟩ : ∃ x, p.metadata = x := ⟨_, rfl⟩
  simp only [progCells, hmd] at hp hW ⊢
  rw [hmd] at HR HS HN HX HNm HW0 HW1 HW2
  simp only at HR HS HN HNm HW0 HW1 HW2
  clear hmd HOW
  have HB0 := Lib.hid HB
  go_enter Tryz.func41, Tryz.ntmps41
  go_upto_region 1 with fail
  rw [← hW]
  clear hW
  by_cases h12 : 12 < ml.length
  · replace HR := Lib.hid (HR.out.trans (if_pos h12))
    go_wp2_with fail
    refine (when_true _ _ _ (by first | rfl | (simp; omega))).mono ?_
    rintro e w' ⟨rfl, rfl⟩
    go_wp2_with fail
    refine (require_bad 12 2 0 0 _ rfl).mono ?_
    rintro e w' ⟨rfl, rfl⟩
    go_wp2
    exact ⟨rfl, by rw [HR.out]; rfl, below_step HW.out HB⟩
  replace HR := Lib.hid (HR.out.trans (if_neg h12))
  have hle : ml.length ≤ 12 := by omega
  clear h12
  go_wp2_with fail
  refine (when_false _ _ _ (by first | rfl | (simp; omega))).mono ?_
  rintro e w' ⟨rfl, rfl⟩
  go_wp2_with fail
  refine (require_ok _ _ _ _).mono ?_
  rintro e w' ⟨rfl, rfl⟩
  go_wp2_with fail
  refine (HNm.out _ HB (by omega)).mono ?_
  rintro e w1 ⟨A, c, rfl, hown, hb1⟩
  have HOwn := Lib.hid hown
  replace HB := below_step HB hb1
  have HB1 := Lib.hid HB
  clear hb1 hown HNm
  go_wp2
  clear HB
  go_loopw [3, 4, 19] (fun _ _ iv wr => ∃ k : Nat, k ≤ ml.length ∧ iv = .int .i64 k ∧ (∀ j, j < k → mAt ml j = none) ∧ Below w1.heap.size w1 wr) (fun _ _ i _ => ml.length - (intOf i).toNat)
  case atStart => exact ⟨0, Nat.zero_le _, rfl, fun j h => absurd h (Nat.not_lt_zero _), Below.refl _ _⟩
  case round =>
    obtain ⟨k, hk, rfl, hpre, HB⟩ := hrel
    have HPre := Lib.hid hpre
    clear hpre
    by_cases hlt : k < ml.length
    · obtain ⟨g, of, hA, d0, d1⟩ := FieldD.at (HX.out.below (below_step HB1.out HB) (Nat.le_refl _)) hlt
      have HE := Lib.hid (HS.out k hlt)
      have HNk := Lib.hid (HN.out _ (List.getElem_mem hlt))
      simp only at hA d0 d1
      subst hA
      clear HW0 HW1 HW2
      generalize ml[k] = y at *
      obtain ⟨yn, yw⟩ := y
      simp only at HE HNk d0 d1
      obtain ⟨gn, rfl, hg⟩ := OwnStrs.form HOwn.out (show 0 < (ml.map FieldD.name).length by rw [List.length_map]; omega)
      have HG := Lib.hid hg
      clear hg
      have hca := @World.cell?_alloc_some
      go_wp2_with fail
      refine (identifier_any yn _ HNk.out).mono ?_
      rintro e w' ⟨rfl, rfl⟩
      cases h1 : ident yn
      · have HE2 := Lib.hid (mAt_some (HE.out.trans (if_pos h1)))
        have HR2 := Lib.hid (HR.out.trans (show _ = some (⟨6, 2, k, 0⟩ : DiagD) by rw [firstE_some hlt HPre.out HE2.out]))
        go_wp2_with fail
        refine (when_true _ _ _ rfl).mono ?_
        rintro e w' ⟨rfl, rfl⟩
        go_wp2_with fail
        refine (require_bad 6 2 k 0 _ rfl).mono ?_
        rintro e w' ⟨rfl, rfl⟩
        go_wp2
        exact ⟨rfl, by rw [HR2.out]; rfl, below_step HW.out (below_step HB1.out (by first | exact HB | exact below_alloc HB _ | exact below_alloc (below_alloc HB _) _ | exact below_alloc (below_alloc (below_alloc HB _) _) _))⟩
      have HF1 := Lib.hid (HE.out.trans (if_neg (by rw [h1]; simp)))
      clear h1 HE
      go_wp2_with fail
      refine (when_false _ _ _ rfl).mono ?_
      rintro e w' ⟨rfl, rfl⟩
      go_wp2_with fail
      refine (require_ok _ _ _ _).mono ?_
      rintro e w' ⟨rfl, rfl⟩
      go_wp2_with fail
      refine (widthInvalid_any _ _).mono ?_
      rintro e w' ⟨rfl, rfl⟩
      cases h2 : okW yw
      · have HE2 := Lib.hid (mAt_some (HF1.out.trans (if_pos h2)))
        have HR2 := Lib.hid (HR.out.trans (show _ = some (⟨10, 2, k, 0⟩ : DiagD) by rw [firstE_some hlt HPre.out HE2.out]))
        have h3 := okW_not.1 h2
        go_wp2_with fail
        refine (when_true _ _ _ (by simp; omega)).mono ?_
        rintro e w' ⟨rfl, rfl⟩
        go_wp2_with fail
        refine (require_bad 10 2 k 0 _ rfl).mono ?_
        rintro e w' ⟨rfl, rfl⟩
        go_wp2
        exact ⟨rfl, by rw [HR2.out]; rfl, below_step HW.out (below_step HB1.out (by first | exact HB | exact below_alloc HB _ | exact below_alloc (below_alloc HB _) _ | exact below_alloc (below_alloc (below_alloc HB _) _) _))⟩
      have HF2 := Lib.hid (HF1.out.trans (if_neg (by rw [h2]; simp)))
      have h3 := okW_iff.1 h2
      clear HF1
      go_wp2_with fail
      refine (when_false _ _ _ (by simp; omega)).mono ?_
      rintro e w' ⟨rfl, rfl⟩
      go_wp2_with fail
      refine (require_ok _ _ _ _).mono ?_
      rintro e w' ⟨rfl, rfl⟩
      clear d0 d1 hca
      go_wp2_with fail
      refine (rep_at (ml.map FieldD.name) ml.length gn c k w1 _ (by simp) hlt (by omega) HG.out (by first | exact HB | exact below_alloc HB _ | exact below_alloc (below_alloc HB _) _ | exact below_alloc (below_alloc (below_alloc HB _) _) _)).mono ?_
      rintro e w3 ⟨rfl, hbN⟩
      replace HB := below_step (by first | exact HB | exact below_alloc HB _ | exact below_alloc (below_alloc HB _) _ | exact below_alloc (below_alloc (below_alloc HB _) _) _) hbN
      clear hbN
      cases hd : dupB (ml.map FieldD.name) k
      case true =>
        have HE2 := Lib.hid (mAt_some (HF2.out.trans (if_pos hd)))
        have HR2 := Lib.hid (HR.out.trans (show _ = some (⟨7, 2, k, 0⟩ : DiagD) by rw [firstE_some hlt HPre.out HE2.out]))
        go_wp2_with fail
        refine (when_true _ _ _ rfl).mono ?_
        rintro e w' ⟨rfl, rfl⟩
        go_wp2_with fail
        refine (require_bad 7 2 k 0 _ rfl).mono ?_
        rintro e w' ⟨rfl, rfl⟩
        go_wp2
        exact ⟨rfl, by rw [HR2.out]; rfl, below_step HW.out (below_step HB1.out HB)⟩
      have HE4 := Lib.hid (mAt_none (HF2.out.trans (if_neg (by rw [hd]; simp))))
      go_wp2_with fail
      refine (when_false _ _ _ rfl).mono ?_
      rintro e w' ⟨rfl, rfl⟩
      go_wp2_with fail
      refine (require_ok _ _ _ _).mono ?_
      rintro e w' ⟨rfl, rfl⟩
      go_wp2
      go_roundw
      case rel => exact ⟨k + 1, by omega, by go_num, firstE_step HPre.out HE4.out, HB⟩
      case measure => simp [intOf]; omega
    have e : k = ml.length := by omega
    have HR2 := Lib.hid (HR.out.trans (show _ = firstE 3 (wAt ml) by rw [firstE_none (by rw [← e]; exact HPre.out)]))
    have hkx : ¬ ((k : Int) < (ml.length : Int)) := by omega
    have HBb := Lib.hid (below_step HB1.out HB)
    clear HPre HB1 HOwn hlt e HB HR HS HN
    go_wp2
    go_loopw [5, 6, 47] (fun _ _ iv wr => ∃ k : Nat, k ≤ 3 ∧ iv = .int .i64 k ∧ (∀ j, j < k → wAt ml j = none) ∧ Below W.heap.size W wr) (fun _ _ i _ => 3 - (intOf i).toNat)
    case atStart => exact ⟨0, Nat.zero_le _, rfl, fun j h => absurd h (Nat.not_lt_zero _), HBb.out⟩
    case round =>
      clear hk hkx HBb
      obtain ⟨k, hk, rfl, hpre, HB⟩ := hrel
      have HPre := Lib.hid hpre
      clear hpre
      rcases (show k = 0 ∨ k = 1 ∨ k = 2 ∨ k = 3 by omega) with rfl | rfl | rfl | rfl
      case inr.inr.inr =>
        have HR3 := Lib.hid (HR2.out.trans (firstE_none HPre.out))
        go_wp2
        go_end0
        exact ⟨by rw [HR3.out]; rfl, below_step HW.out HB⟩
      case inl =>
        have hix := i95_0
        refine Exists.elim (box1 wr #[.string ⟨#[105, 110]⟩, .int .i64 8] 104) ?_
        rintro V ⟨hV, hv, hVV, hbx⟩
        have HBV := Lib.hid (below_step HB hv)
        have hp1 := hp V.drew (below_step HB hv).drew
        have b0 : V.drew.cell? ⟨wr.heap.size, 0, none⟩ = some (.string ⟨#[105, 110]⟩) := hbx V.drew hVV.drew 0 (show 0 < 2 by decide)
        have b1 : V.drew.cell? ⟨wr.heap.size, 1, none⟩ = some (.int .i64 8) := hbx V.drew hVV.drew 1 (show 1 < 2 by decide)
        by_cases hlt : 0 < ml.length
        case neg =>
          have HE2 := Lib.hid (wAt_some (want_out (l := ml) (i := 0) (by omega)))
          have HR3 := Lib.hid (HR2.out.trans (firstE_some (show 0 < 3 by decide) HPre.out HE2.out))
          have E1 : Hid ((ml.length : Int) ≤ 0) := Lib.hid (by omega)
          have E2 : Hid (ml.length ≤ 0) := Lib.hid (by omega)
          have E0 : Hid (ml = []) := Lib.hid (List.eq_nil_of_length_eq_zero (by omega))
          clear hlt
          clear hv hVV hbx HB
          go_wp2
          rw [← hV]
          clear hV hix
          refine wp_region_still_tail 16 mixed (by kernel_rfl) ?_
          simp only [List.take_succ_cons, List.take_zero, List.drop_succ_cons, List.drop_zero]
          change wpStill _ _ V.drew _ _ _
          iterate 6 still_step
          iterate 7 (refine wpStill_step (fun K hK => ?_); go_simp; (first | rw [if_pos E0.out] | rw [if_neg (show ¬ (0 : Int) < (ml.length : Int) by have := E2.out; omega)]); refine hK _ ?_; clear hK K)
          have e0 := E0.out
          have e1 := E1.out
          have e2 := E2.out
          still_step
          clear e0 e1 e2
          still_call (when_flip _ _ _)
          still_step
          refine wpStill_nil ?_
          change wpList _ _ _ _ _ V.drew
          go_wp2_with fail
          refine (require_bad 5 2 0 0 _ rfl).mono ?_
          rintro e w' ⟨rfl, rfl⟩
          go_wp2
          exact ⟨rfl, by rw [HR3.out]; rfl, below_step HW.out HBV.out.drew⟩
        obtain ⟨g, of, hA, d0, d1⟩ := FieldD.at (HX.out.below HBV.out.drew (Nat.le_refl _)) hlt
        have HE := Lib.hid (HW0.out hlt)
        have N2 : Hid (0 < ml.length) := Lib.hid hlt
        have N3 : Hid ((0 : Int) < (ml.length : Int)) := Lib.hid (by omega)
        have N0 : Hid (¬ ml = []) := Lib.hid (fun e => by rw [e] at hlt; exact absurd hlt (Nat.lt_irrefl _))
        simp only at hA
        simp only [Nat.zero_mul, Nat.add_zero] at d0 d1
        subst hA
        generalize ml[0]'hlt = y at *
        obtain ⟨yn, yw⟩ := y
        simp only at HE d0 d1
        clear HW0 HW1 HW2 hv hVV hbx HB hlt
        go_wp2
        rw [← hV]
        clear hV hix
        by_cases he : yn = (⟨#[105, 110]⟩ : ByteArray)
        · by_cases he2 : yw = 8
          · have HE2 := Lib.hid (wAt_none (HE.out.trans (by rw [decide_eq_true he, decide_eq_true he2]; rfl)))
            have he' := nm_in_yes he
            have he2' : (yw == 8) = true := beq_iff_eq.2 he2
            clear he he2
            refine wp_region_still_tail 16 mixed (by kernel_rfl) ?_
            simp only [List.take_succ_cons, List.take_zero, List.drop_succ_cons, List.drop_zero]
            change wpStill _ _ V.drew _ _ _
            iterate 6 still_step
            iterate 3 (refine wpStill_step (fun K hK => ?_); go_simp; (first | rw [if_neg N0.out] | rw [if_pos (show (0 : Int) < (ml.length : Int) by have := N2.out; omega)]); refine hK _ ?_; clear hK K)
            iterate 1 (refine wpStill_step (fun K hK => ?_); go_simp; (first | rw [if_neg N0.out] | rw [if_pos (show (0 : Int) < (ml.length : Int) by have := N2.out; omega)]); (first | rw [if_pos N2.out] | rw [if_pos N3.out]); go_simp; refine hK _ ?_; clear hK K)
            iterate 3 (refine wpStill_step (fun K hK => ?_); go_simp; (first | rw [if_neg N0.out] | rw [if_pos (show (0 : Int) < (ml.length : Int) by have := N2.out; omega)]); refine hK _ ?_; clear hK K)
            have n0 := N0.out
            have n2 := N2.out
            have n3 := N3.out
            have n4 : decide ((ml.length : Int) ≤ 0) = false := decide_eq_false (by have := N2.out; omega)
            still_step
            clear n0 n2 n3 n4
            still_call (when_flip _ _ _)
            still_step
            refine wpStill_nil ?_
            change wpList _ _ _ _ _ V.drew
            go_wp2_with fail
            refine (require_ok _ _ _ _).mono ?_
            rintro e w' ⟨rfl, rfl⟩
            go_wp2
            go_roundw
            case rel => exact ⟨1, by omega, by go_num, firstE_step HPre.out HE2.out, HBV.out.drew⟩
            case measure => simp [intOf]
          · have HE2 := Lib.hid (wAt_some (HE.out.trans (by rw [decide_eq_false he2]; simp)))
            have HR3 := Lib.hid (HR2.out.trans (firstE_some (show 0 < 3 by decide) HPre.out HE2.out))
            have he' := nm_in_yes he
            have he2' : (yw == 8) = false := beq_eq_false_iff_ne.2 he2
            clear he he2
            refine wp_region_still_tail 16 mixed (by kernel_rfl) ?_
            simp only [List.take_succ_cons, List.take_zero, List.drop_succ_cons, List.drop_zero]
            change wpStill _ _ V.drew _ _ _
            iterate 6 still_step
            iterate 3 (refine wpStill_step (fun K hK => ?_); go_simp; (first | rw [if_neg N0.out] | rw [if_pos (show (0 : Int) < (ml.length : Int) by have := N2.out; omega)]); refine hK _ ?_; clear hK K)
            iterate 1 (refine wpStill_step (fun K hK => ?_); go_simp; (first | rw [if_neg N0.out] | rw [if_pos (show (0 : Int) < (ml.length : Int) by have := N2.out; omega)]); (first | rw [if_pos N2.out] | rw [if_pos N3.out]); go_simp; refine hK _ ?_; clear hK K)
            iterate 3 (refine wpStill_step (fun K hK => ?_); go_simp; (first | rw [if_neg N0.out] | rw [if_pos (show (0 : Int) < (ml.length : Int) by have := N2.out; omega)]); refine hK _ ?_; clear hK K)
            have n0 := N0.out
            have n2 := N2.out
            have n3 := N3.out
            have n4 : decide ((ml.length : Int) ≤ 0) = false := decide_eq_false (by have := N2.out; omega)
            still_step
            clear n0 n2 n3 n4
            still_call (when_flip _ _ _)
            still_step
            refine wpStill_nil ?_
            change wpList _ _ _ _ _ V.drew
            go_wp2_with fail
            refine (require_bad 5 2 0 0 _ rfl).mono ?_
            rintro e w' ⟨rfl, rfl⟩
            go_wp2
            exact ⟨rfl, by rw [HR3.out]; rfl, below_step HW.out HBV.out.drew⟩
        · have HE2 := Lib.hid (wAt_some (HE.out.trans (by rw [decide_eq_false he]; simp)))
          have HR3 := Lib.hid (HR2.out.trans (firstE_some (show 0 < 3 by decide) HPre.out HE2.out))
          have he' := nm_in_no he
          clear he
          refine wp_region_still_tail 16 mixed (by kernel_rfl) ?_
          simp only [List.take_succ_cons, List.take_zero, List.drop_succ_cons, List.drop_zero]
          change wpStill _ _ V.drew _ _ _
          iterate 6 still_step
          iterate 3 (refine wpStill_step (fun K hK => ?_); go_simp; (first | rw [if_neg N0.out] | rw [if_pos (show (0 : Int) < (ml.length : Int) by have := N2.out; omega)]); refine hK _ ?_; clear hK K)
          iterate 1 (refine wpStill_step (fun K hK => ?_); go_simp; (first | rw [if_neg N0.out] | rw [if_pos (show (0 : Int) < (ml.length : Int) by have := N2.out; omega)]); (first | rw [if_pos N2.out] | rw [if_pos N3.out]); go_simp; refine hK _ ?_; clear hK K)
          iterate 3 (refine wpStill_step (fun K hK => ?_); go_simp; (first | rw [if_neg N0.out] | rw [if_pos (show (0 : Int) < (ml.length : Int) by have := N2.out; omega)]); refine hK _ ?_; clear hK K)
          have n0 := N0.out
          have n2 := N2.out
          have n3 := N3.out
          have n4 : decide ((ml.length : Int) ≤ 0) = false := decide_eq_false (by have := N2.out; omega)
          still_step
          clear n0 n2 n3 n4
          still_call (when_flip _ _ _)
          still_step
          refine wpStill_nil ?_
          change wpList _ _ _ _ _ V.drew
          go_wp2_with fail
          refine (require_bad 5 2 0 0 _ rfl).mono ?_
          rintro e w' ⟨rfl, rfl⟩
          go_wp2
          exact ⟨rfl, by rw [HR3.out]; rfl, below_step HW.out HBV.out.drew⟩
      case inr.inl =>
        have hix := i95_1
        refine Exists.elim (box1 wr #[.string ⟨#[111, 117, 116]⟩, .int .i64 8] 104) ?_
        rintro V ⟨hV, hv, hVV, hbx⟩
        have HBV := Lib.hid (below_step HB hv)
        have hp1 := hp V.drew (below_step HB hv).drew
        have b0 : V.drew.cell? ⟨wr.heap.size, 0, none⟩ = some (.string ⟨#[111, 117, 116]⟩) := hbx V.drew hVV.drew 0 (show 0 < 2 by decide)
        have b1 : V.drew.cell? ⟨wr.heap.size, 1, none⟩ = some (.int .i64 8) := hbx V.drew hVV.drew 1 (show 1 < 2 by decide)
        by_cases hlt : 1 < ml.length
        case neg =>
          have HE2 := Lib.hid (wAt_some (want_out (l := ml) (i := 1) (by omega)))
          have HR3 := Lib.hid (HR2.out.trans (firstE_some (show 1 < 3 by decide) HPre.out HE2.out))
          have E1 : Hid ((ml.length : Int) ≤ 1) := Lib.hid (by omega)
          have E2 : Hid (ml.length ≤ 1) := Lib.hid (by omega)
          have E0 : Hid (ml.length ≤ 1) := E2
          clear hlt
          clear hv hVV hbx HB
          go_wp2
          rw [← hV]
          clear hV hix
          refine wp_region_still_tail 16 mixed (by kernel_rfl) ?_
          simp only [List.take_succ_cons, List.take_zero, List.drop_succ_cons, List.drop_zero]
          change wpStill _ _ V.drew _ _ _
          iterate 6 still_step
          iterate 7 (refine wpStill_step (fun K hK => ?_); go_simp; (first | rw [if_pos E0.out] | rw [if_neg (show ¬ (1 : Int) < (ml.length : Int) by have := E2.out; omega)]); refine hK _ ?_; clear hK K)
          have e0 := E0.out
          have e1 := E1.out
          have e2 := E2.out
          still_step
          clear e0 e1 e2
          still_call (when_flip _ _ _)
          still_step
          refine wpStill_nil ?_
          change wpList _ _ _ _ _ V.drew
          go_wp2_with fail
          refine (require_bad 5 2 1 0 _ rfl).mono ?_
          rintro e w' ⟨rfl, rfl⟩
          go_wp2
          exact ⟨rfl, by rw [HR3.out]; rfl, below_step HW.out HBV.out.drew⟩
        obtain ⟨g, of, hA, d0, d1⟩ := FieldD.at (HX.out.below HBV.out.drew (Nat.le_refl _)) hlt
        have HE := Lib.hid (HW1.out hlt)
        have N2 : Hid (1 < ml.length) := Lib.hid hlt
        have N3 : Hid ((1 : Int) < (ml.length : Int)) := Lib.hid (by omega)
        have N0 : Hid (¬ ml.length ≤ 1) := Lib.hid (by omega)
        simp only at hA
        simp only [Nat.one_mul] at d0 d1
        subst hA
        generalize ml[1]'hlt = y at *
        obtain ⟨yn, yw⟩ := y
        simp only at HE d0 d1
        clear HW0 HW1 HW2 hv hVV hbx HB hlt
        go_wp2
        rw [← hV]
        clear hV hix
        by_cases he : yn = (⟨#[111, 117, 116]⟩ : ByteArray)
        · by_cases he2 : yw = 8
          · have HE2 := Lib.hid (wAt_none (HE.out.trans (by rw [decide_eq_true he, decide_eq_true he2]; rfl)))
            have he' := nm_out_yes he
            have he2' : (yw == 8) = true := beq_iff_eq.2 he2
            clear he he2
            refine wp_region_still_tail 16 mixed (by kernel_rfl) ?_
            simp only [List.take_succ_cons, List.take_zero, List.drop_succ_cons, List.drop_zero]
            change wpStill _ _ V.drew _ _ _
            iterate 6 still_step
            iterate 3 (refine wpStill_step (fun K hK => ?_); go_simp; (first | rw [if_neg N0.out] | rw [if_pos (show (1 : Int) < (ml.length : Int) by have := N2.out; omega)]); refine hK _ ?_; clear hK K)
            iterate 1 (refine wpStill_step (fun K hK => ?_); go_simp; (first | rw [if_neg N0.out] | rw [if_pos (show (1 : Int) < (ml.length : Int) by have := N2.out; omega)]); (first | rw [if_pos N2.out] | rw [if_pos N3.out]); go_simp; refine hK _ ?_; clear hK K)
            iterate 3 (refine wpStill_step (fun K hK => ?_); go_simp; (first | rw [if_neg N0.out] | rw [if_pos (show (1 : Int) < (ml.length : Int) by have := N2.out; omega)]); refine hK _ ?_; clear hK K)
            have n0 := N0.out
            have n2 := N2.out
            have n3 := N3.out
            have n4 : decide ((ml.length : Int) ≤ 1) = false := decide_eq_false (by have := N2.out; omega)
            still_step
            clear n0 n2 n3 n4
            still_call (when_flip _ _ _)
            still_step
            refine wpStill_nil ?_
            change wpList _ _ _ _ _ V.drew
            go_wp2_with fail
            refine (require_ok _ _ _ _).mono ?_
            rintro e w' ⟨rfl, rfl⟩
            go_wp2
            go_roundw
            case rel => exact ⟨2, by omega, by go_num, firstE_step HPre.out HE2.out, HBV.out.drew⟩
            case measure => simp [intOf]
          · have HE2 := Lib.hid (wAt_some (HE.out.trans (by rw [decide_eq_false he2]; simp)))
            have HR3 := Lib.hid (HR2.out.trans (firstE_some (show 1 < 3 by decide) HPre.out HE2.out))
            have he' := nm_out_yes he
            have he2' : (yw == 8) = false := beq_eq_false_iff_ne.2 he2
            clear he he2
            refine wp_region_still_tail 16 mixed (by kernel_rfl) ?_
            simp only [List.take_succ_cons, List.take_zero, List.drop_succ_cons, List.drop_zero]
            change wpStill _ _ V.drew _ _ _
            iterate 6 still_step
            iterate 3 (refine wpStill_step (fun K hK => ?_); go_simp; (first | rw [if_neg N0.out] | rw [if_pos (show (1 : Int) < (ml.length : Int) by have := N2.out; omega)]); refine hK _ ?_; clear hK K)
            iterate 1 (refine wpStill_step (fun K hK => ?_); go_simp; (first | rw [if_neg N0.out] | rw [if_pos (show (1 : Int) < (ml.length : Int) by have := N2.out; omega)]); (first | rw [if_pos N2.out] | rw [if_pos N3.out]); go_simp; refine hK _ ?_; clear hK K)
            iterate 3 (refine wpStill_step (fun K hK => ?_); go_simp; (first | rw [if_neg N0.out] | rw [if_pos (show (1 : Int) < (ml.length : Int) by have := N2.out; omega)]); refine hK _ ?_; clear hK K)
            have n0 := N0.out
            have n2 := N2.out
            have n3 := N3.out
            have n4 : decide ((ml.length : Int) ≤ 1) = false := decide_eq_false (by have := N2.out; omega)
            still_step
            clear n0 n2 n3 n4
            still_call (when_flip _ _ _)
            still_step
            refine wpStill_nil ?_
            change wpList _ _ _ _ _ V.drew
            go_wp2_with fail
            refine (require_bad 5 2 1 0 _ rfl).mono ?_
            rintro e w' ⟨rfl, rfl⟩
            go_wp2
            exact ⟨rfl, by rw [HR3.out]; rfl, below_step HW.out HBV.out.drew⟩
        · have HE2 := Lib.hid (wAt_some (HE.out.trans (by rw [decide_eq_false he]; simp)))
          have HR3 := Lib.hid (HR2.out.trans (firstE_some (show 1 < 3 by decide) HPre.out HE2.out))
          have he' := nm_out_no he
          clear he
          refine wp_region_still_tail 16 mixed (by kernel_rfl) ?_
          simp only [List.take_succ_cons, List.take_zero, List.drop_succ_cons, List.drop_zero]
          change wpStill _ _ V.drew _ _ _
          iterate 6 still_step
          iterate 3 (refine wpStill_step (fun K hK => ?_); go_simp; (first | rw [if_neg N0.out] | rw [if_pos (show (1 : Int) < (ml.length : Int) by have := N2.out; omega)]); refine hK _ ?_; clear hK K)
          iterate 1 (refine wpStill_step (fun K hK => ?_); go_simp; (first | rw [if_neg N0.out] | rw [if_pos (show (1 : Int) < (ml.length : Int) by have := N2.out; omega)]); (first | rw [if_pos N2.out] | rw [if_pos N3.out]); go_simp; refine hK _ ?_; clear hK K)
          iterate 3 (refine wpStill_step (fun K hK => ?_); go_simp; (first | rw [if_neg N0.out] | rw [if_pos (show (1 : Int) < (ml.length : Int) by have := N2.out; omega)]); refine hK _ ?_; clear hK K)
          have n0 := N0.out
          have n2 := N2.out
          have n3 := N3.out
          have n4 : decide ((ml.length : Int) ≤ 1) = false := decide_eq_false (by have := N2.out; omega)
          still_step
          clear n0 n2 n3 n4
          still_call (when_flip _ _ _)
          still_step
          refine wpStill_nil ?_
          change wpList _ _ _ _ _ V.drew
          go_wp2_with fail
          refine (require_bad 5 2 1 0 _ rfl).mono ?_
          rintro e w' ⟨rfl, rfl⟩
          go_wp2
          exact ⟨rfl, by rw [HR3.out]; rfl, below_step HW.out HBV.out.drew⟩
      case inr.inr.inl =>
        have hix := i95_2
        refine Exists.elim (box1 wr #[.string ⟨#[100, 114, 111, 112]⟩, .int .i64 1] 104) ?_
        rintro V ⟨hV, hv, hVV, hbx⟩
        have HBV := Lib.hid (below_step HB hv)
        have hp1 := hp V.drew (below_step HB hv).drew
        have b0 : V.drew.cell? ⟨wr.heap.size, 0, none⟩ = some (.string ⟨#[100, 114, 111, 112]⟩) := hbx V.drew hVV.drew 0 (show 0 < 2 by decide)
        have b1 : V.drew.cell? ⟨wr.heap.size, 1, none⟩ = some (.int .i64 1) := hbx V.drew hVV.drew 1 (show 1 < 2 by decide)
        by_cases hlt : 2 < ml.length
        case neg =>
          have HE2 := Lib.hid (wAt_some (want_out (l := ml) (i := 2) (by omega)))
          have HR3 := Lib.hid (HR2.out.trans (firstE_some (show 2 < 3 by decide) HPre.out HE2.out))
          have E1 : Hid ((ml.length : Int) ≤ 2) := Lib.hid (by omega)
          have E2 : Hid (ml.length ≤ 2) := Lib.hid (by omega)
          have E0 : Hid (ml.length ≤ 2) := E2
          clear hlt
          clear hv hVV hbx HB
          go_wp2
          rw [← hV]
          clear hV hix
          refine wp_region_still_tail 16 mixed (by kernel_rfl) ?_
          simp only [List.take_succ_cons, List.take_zero, List.drop_succ_cons, List.drop_zero]
          change wpStill _ _ V.drew _ _ _
          iterate 6 still_step
          iterate 7 (refine wpStill_step (fun K hK => ?_); go_simp; (first | rw [if_pos E0.out] | rw [if_neg (show ¬ (2 : Int) < (ml.length : Int) by have := E2.out; omega)]); refine hK _ ?_; clear hK K)
          have e0 := E0.out
          have e1 := E1.out
          have e2 := E2.out
          still_step
          clear e0 e1 e2
          still_call (when_flip _ _ _)
          still_step
          refine wpStill_nil ?_
          change wpList _ _ _ _ _ V.drew
          go_wp2_with fail
          refine (require_bad 5 2 2 0 _ rfl).mono ?_
          rintro e w' ⟨rfl, rfl⟩
          go_wp2
          exact ⟨rfl, by rw [HR3.out]; rfl, below_step HW.out HBV.out.drew⟩
        obtain ⟨g, of, hA, d0, d1⟩ := FieldD.at (HX.out.below HBV.out.drew (Nat.le_refl _)) hlt
        have HE := Lib.hid (HW2.out hlt)
        have N2 : Hid (2 < ml.length) := Lib.hid hlt
        have N3 : Hid ((2 : Int) < (ml.length : Int)) := Lib.hid (by omega)
        have N0 : Hid (¬ ml.length ≤ 2) := Lib.hid (by omega)
        simp only at hA
        simp only [Nat.reduceMul] at d0 d1
        subst hA
        generalize ml[2]'hlt = y at *
        obtain ⟨yn, yw⟩ := y
        simp only at HE d0 d1
        clear HW0 HW1 HW2 hv hVV hbx HB hlt
        go_wp2
        rw [← hV]
        clear hV hix
        by_cases he : yn = (⟨#[100, 114, 111, 112]⟩ : ByteArray)
        · by_cases he2 : yw = 1
          · have HE2 := Lib.hid (wAt_none (HE.out.trans (by rw [decide_eq_true he, decide_eq_true he2]; rfl)))
            have he' := nm_drop_yes he
            have he2' : (yw == 1) = true := beq_iff_eq.2 he2
            clear he he2
            refine wp_region_still_tail 16 mixed (by kernel_rfl) ?_
            simp only [List.take_succ_cons, List.take_zero, List.drop_succ_cons, List.drop_zero]
            change wpStill _ _ V.drew _ _ _
            iterate 6 still_step
            iterate 3 (refine wpStill_step (fun K hK => ?_); go_simp; (first | rw [if_neg N0.out] | rw [if_pos (show (2 : Int) < (ml.length : Int) by have := N2.out; omega)]); refine hK _ ?_; clear hK K)
            iterate 1 (refine wpStill_step (fun K hK => ?_); go_simp; (first | rw [if_neg N0.out] | rw [if_pos (show (2 : Int) < (ml.length : Int) by have := N2.out; omega)]); (first | rw [if_pos N2.out] | rw [if_pos N3.out]); go_simp; refine hK _ ?_; clear hK K)
            iterate 3 (refine wpStill_step (fun K hK => ?_); go_simp; (first | rw [if_neg N0.out] | rw [if_pos (show (2 : Int) < (ml.length : Int) by have := N2.out; omega)]); refine hK _ ?_; clear hK K)
            have n0 := N0.out
            have n2 := N2.out
            have n3 := N3.out
            have n4 : decide ((ml.length : Int) ≤ 2) = false := decide_eq_false (by have := N2.out; omega)
            still_step
            clear n0 n2 n3 n4
            still_call (when_flip _ _ _)
            still_step
            refine wpStill_nil ?_
            change wpList _ _ _ _ _ V.drew
            go_wp2_with fail
            refine (require_ok _ _ _ _).mono ?_
            rintro e w' ⟨rfl, rfl⟩
            go_wp2
            go_roundw
            case rel => exact ⟨3, by omega, by go_num, firstE_step HPre.out HE2.out, HBV.out.drew⟩
            case measure => simp [intOf]
          · have HE2 := Lib.hid (wAt_some (HE.out.trans (by rw [decide_eq_false he2]; simp)))
            have HR3 := Lib.hid (HR2.out.trans (firstE_some (show 2 < 3 by decide) HPre.out HE2.out))
            have he' := nm_drop_yes he
            have he2' : (yw == 1) = false := beq_eq_false_iff_ne.2 he2
            clear he he2
            refine wp_region_still_tail 16 mixed (by kernel_rfl) ?_
            simp only [List.take_succ_cons, List.take_zero, List.drop_succ_cons, List.drop_zero]
            change wpStill _ _ V.drew _ _ _
            iterate 6 still_step
            iterate 3 (refine wpStill_step (fun K hK => ?_); go_simp; (first | rw [if_neg N0.out] | rw [if_pos (show (2 : Int) < (ml.length : Int) by have := N2.out; omega)]); refine hK _ ?_; clear hK K)
            iterate 1 (refine wpStill_step (fun K hK => ?_); go_simp; (first | rw [if_neg N0.out] | rw [if_pos (show (2 : Int) < (ml.length : Int) by have := N2.out; omega)]); (first | rw [if_pos N2.out] | rw [if_pos N3.out]); go_simp; refine hK _ ?_; clear hK K)
            iterate 3 (refine wpStill_step (fun K hK => ?_); go_simp; (first | rw [if_neg N0.out] | rw [if_pos (show (2 : Int) < (ml.length : Int) by have := N2.out; omega)]); refine hK _ ?_; clear hK K)
            have n0 := N0.out
            have n2 := N2.out
            have n3 := N3.out
            have n4 : decide ((ml.length : Int) ≤ 2) = false := decide_eq_false (by have := N2.out; omega)
            still_step
            clear n0 n2 n3 n4
            still_call (when_flip _ _ _)
            still_step
            refine wpStill_nil ?_
            change wpList _ _ _ _ _ V.drew
            go_wp2_with fail
            refine (require_bad 5 2 2 0 _ rfl).mono ?_
            rintro e w' ⟨rfl, rfl⟩
            go_wp2
            exact ⟨rfl, by rw [HR3.out]; rfl, below_step HW.out HBV.out.drew⟩
        · have HE2 := Lib.hid (wAt_some (HE.out.trans (by rw [decide_eq_false he]; simp)))
          have HR3 := Lib.hid (HR2.out.trans (firstE_some (show 2 < 3 by decide) HPre.out HE2.out))
          have he' := nm_drop_no he
          clear he
          refine wp_region_still_tail 16 mixed (by kernel_rfl) ?_
          simp only [List.take_succ_cons, List.take_zero, List.drop_succ_cons, List.drop_zero]
          change wpStill _ _ V.drew _ _ _
          iterate 6 still_step
          iterate 3 (refine wpStill_step (fun K hK => ?_); go_simp; (first | rw [if_neg N0.out] | rw [if_pos (show (2 : Int) < (ml.length : Int) by have := N2.out; omega)]); refine hK _ ?_; clear hK K)
          iterate 1 (refine wpStill_step (fun K hK => ?_); go_simp; (first | rw [if_neg N0.out] | rw [if_pos (show (2 : Int) < (ml.length : Int) by have := N2.out; omega)]); (first | rw [if_pos N2.out] | rw [if_pos N3.out]); go_simp; refine hK _ ?_; clear hK K)
          iterate 3 (refine wpStill_step (fun K hK => ?_); go_simp; (first | rw [if_neg N0.out] | rw [if_pos (show (2 : Int) < (ml.length : Int) by have := N2.out; omega)]); refine hK _ ?_; clear hK K)
          have n0 := N0.out
          have n2 := N2.out
          have n3 := N3.out
          have n4 : decide ((ml.length : Int) ≤ 2) = false := decide_eq_false (by have := N2.out; omega)
          still_step
          clear n0 n2 n3 n4
          still_call (when_flip _ _ _)
          still_step
          refine wpStill_nil ?_
          change wpList _ _ _ _ _ V.drew
          go_wp2_with fail
          refine (require_bad 5 2 2 0 _ rfl).mono ?_
          rintro e w' ⟨rfl, rfl⟩
          go_wp2
          exact ⟨rfl, by rw [HR3.out]; rfl, below_step HW.out HBV.out.drew⟩
end Go.Proofs.YtofjapcgbajmiaaGreatDoor
namespace Go.Proofs.YtofjapcgbajmiaaGreatDoor
open Go.RowKit
theorem catch_none (v : Value) (w : World) :
    CallsD Tryz.prog 38 #[v] .returning w fun e u' w' => e = .returned (.tuple #[]) ∧ u' = .returning ∧ w' = w := by
  refine callsD_of_wpS Tryz.func38 rfl fun c₀ cs hu => ?_
  apply wpS_seq
  apply wpS_region
  simp [wpOpsS, go_sem, recoverD, hu, Tryz.ntmps38, Exit.thenS]
  apply wpS_seq
  apply wpS_seq
  apply wpS_region
  simp [wpOpsS, go_sem, Exit.thenS]
  refine wpS_cond (t := true) (by simp [Act.eval]) ?_
  simp only [if_true]
  refine wpS_of_wp (wp_ret ?_)
  cases c₀
  simp_all [Exit.thenS, bodyPostS, results, Tryz.results38]
theorem fail_is (c pt it sb : Int) (w : World) : (Instr.typeAssert (.iface 108 (.agg #[.int .i64 c, .int .i64 pt, .int .i64 it, .int .i64 sb])) 20 108 true).run Tryz.prog w = .ok (.tuple #[.agg #[.int .i64 c, .int .i64 pt, .int .i64 it, .int .i64 sb], .bool true]) w := by kernel_rfl
set_option maxRecDepth 100000 in
set_option maxHeartbeats 1000000 in
theorem catch_some (c pt it sb : Int) (g : Nat) (t : TypeId) (x0 x1 x2 x3 : Int) (w : World) (hb : Blk w g t #[.int .i64 x0, .int .i64 x1, .int .i64 x2, .int .i64 x3]) :
    CallsD Tryz.prog 38 #[.pointer (some ⟨g, 0, none⟩)] (.panicking ({ v := .iface 108 (.agg #[.int .i64 c, .int .i64 pt, .int .i64 it, .int .i64 sb]), recovered := false } :: [])) w fun e u' w' =>
      e = .returned (.tuple #[]) ∧ u' = .panicking ({ v := .iface 108 (.agg #[.int .i64 c, .int .i64 pt, .int .i64 it, .int .i64 sb]), recovered := true } :: []) ∧ w' = ((((w.setCell ⟨g, 0, none⟩ (.int .i64 c)).setCell ⟨g, 1, none⟩ (.int .i64 pt)).setCell ⟨g, 2, none⟩ (.int .i64 it)).setCell ⟨g, 3, none⟩ (.int .i64 sb)).alloc (.cells #[.int .i64 c, .int .i64 pt, .int .i64 it, .int .i64 sb] 108) := by
  have h0 : w.cell? ⟨g, 0, none⟩ = some (.int .i64 x0) := hb.cell 0
  have h1 : w.cell? ⟨g, 1, none⟩ = some (.int .i64 x1) := hb.cell 1
  have h2 : w.cell? ⟨g, 2, none⟩ = some (.int .i64 x2) := hb.cell 2
  have h3 : w.cell? ⟨g, 3, none⟩ = some (.int .i64 x3) := hb.cell 3
  have f0 : w.frozen? ⟨g, 0, none⟩ = false := hb.frozen 0
  have f1 : w.frozen? ⟨g, 1, none⟩ = false := hb.frozen 1
  have f2 : w.frozen? ⟨g, 2, none⟩ = false := hb.frozen 2
  have f3 : w.frozen? ⟨g, 3, none⟩ = false := hb.frozen 3
  have hl := hb.lt
  have hta := fail_is
  have hca := @World.cell?_alloc_some
  have hfl := @World.frozen?_alloc_old
  refine callsD_of_wpS Tryz.func38 rfl fun c₀ cs hu => ?_
  apply wpS_seq
  apply wpS_region
  simp [wpOpsS, go_sem, recoverD, hu, Tryz.ntmps38, Exit.thenS]
  refine wpS_of_wp ?_
  change Code.wp _ _ _ (⟨#[.pointer (some ⟨g, 0, none⟩), .iface 108 (.agg #[.int .i64 c, .int .i64 pt, .int .i64 it, .int .i64 sb]), undef, undef, .iface 108 (.agg #[.int .i64 c, .int .i64 pt, .int .i64 it, .int .i64 sb]), undef, undef, undef, undef, undef, undef, undef, undef, undef, undef, undef], []⟩ : Act) w
  go_wp2
  clear h0 h1 h2 h3 f0 f1 f2 f3 hl hta hca hfl hb
  cases c₀
  simp_all [bodyPostS, results, Tryz.results38]
theorem diag_val (d : DiagD) : d.val = .agg #[.int .i64 d.code, .int .i64 d.part, .int .i64 d.item, .int .i64 d.sub] := rfl
def diagM (p : ProgD) : DiagD := (checkM p).getD noDiag
theorem checkM_eq (p : ProgD) : checkM p = orE (limM p) (orE (hdrsM p) (orE (metaM p) (orE (objsM p) (flowM p)))) := by
  unfold checkM objsM
  cases limM p <;> cases hdrsM p <;> cases metaM p <;> cases regsM p <;> cases actsM p <;> cases tabsM p <;> rfl
theorem check_leaves (g : Nat) (w0 w : World) (tmps : Array Value) (o : Option DiagD) (m : FrameMode) (hg : w0.heap.size ≤ g) (hb : Below w0.heap.size w0 w) (hB : Blk w g 70 #[.int .i64 0, .int .i64 0, .int .i64 0, .int .i64 0])
    (ht : (tmps[2]?).getD undef = .pointer (some ⟨g, 0, none⟩)) (hm : (o = none ∧ m = .returning) ∨ ∃ d, o = some d ∧ m = .panicking [{ v := .iface 108 d.val, recovered := false }]) :
    Leaves Tryz.prog Tryz.f21 tmps (fun e w' => e = .returned (o.getD noDiag).val ∧ Below w0.heap.size w0 w') [{ target := .fn (.func 38) #[.pointer (some ⟨g, 0, none⟩)], args := #[] }] m w := by
  rcases hm with ⟨rfl, rfl⟩ | ⟨d, rfl, rfl⟩
  · have h0 : w.cell? ⟨g, 0, none⟩ = some (.int .i64 0) := hB.cell 0
    have h1 : w.cell? ⟨g, 1, none⟩ = some (.int .i64 0) := hB.cell 1
    have h2 : w.cell? ⟨g, 2, none⟩ = some (.int .i64 0) := hB.cell 2
    have h3 : w.cell? ⟨g, 3, none⟩ = some (.int .i64 0) := hB.cell 3
    refine leaves_cons (f := 38) (args := #[.pointer (some ⟨g, 0, none⟩)]) (by simp) (by simp [go_sem]) ?_
    refine (catch_none _ _).mono ?_
    rintro e u' w'' ⟨rfl, rfl, rfl⟩
    simp [Leaves, settle, results, Tryz.results21, go_sem, ht, h0, h1, h2, h3, noDiag, DiagD.val]
    exact hb
  · obtain ⟨dc, dp, di, ds⟩ := d
    refine leaves_cons (f := 38) (args := #[.pointer (some ⟨g, 0, none⟩)]) (by simp) (by simp [go_sem]) ?_
    refine (catch_some dc dp di ds g _ 0 0 0 0 w hB).mono ?_
    rintro e u' w'' ⟨rfl, rfl, rfl⟩
    have hB' := (((((hB.set_ 0 (.int .i64 dc)).set_ 1 (.int .i64 dp)).set_ 2 (.int .i64 di)).set_ 3 (.int .i64 ds)).alloc (.cells #[.int .i64 dc, .int .i64 dp, .int .i64 di, .int .i64 ds] 108))
    have e0 : Below w0.heap.size w0 (w.setCell ⟨g, 0, none⟩ (.int .i64 dc)) := hb.setCell hg _
    have e1 : Below w0.heap.size w0 ((w.setCell ⟨g, 0, none⟩ (.int .i64 dc)).setCell ⟨g, 1, none⟩ (.int .i64 dp)) := e0.setCell hg _
    have e2 : Below w0.heap.size w0 (((w.setCell ⟨g, 0, none⟩ (.int .i64 dc)).setCell ⟨g, 1, none⟩ (.int .i64 dp)).setCell ⟨g, 2, none⟩ (.int .i64 di)) := e1.setCell hg _
    have e3 : Below w0.heap.size w0 ((((w.setCell ⟨g, 0, none⟩ (.int .i64 dc)).setCell ⟨g, 1, none⟩ (.int .i64 dp)).setCell ⟨g, 2, none⟩ (.int .i64 di)).setCell ⟨g, 3, none⟩ (.int .i64 ds)) := e2.setCell hg _
    have hb' := below_alloc e3 (.cells #[.int .i64 dc, .int .i64 dp, .int .i64 di, .int .i64 ds] 108)
    generalize ((((w.setCell ⟨g, 0, none⟩ (.int .i64 dc)).setCell ⟨g, 1, none⟩ (.int .i64 dp)).setCell ⟨g, 2, none⟩ (.int .i64 di)).setCell ⟨g, 3, none⟩ (.int .i64 ds)).alloc (.cells #[.int .i64 dc, .int .i64 dp, .int .i64 di, .int .i64 ds] 108) = w9 at *
    have h0 : w9.cell? ⟨g, 0, none⟩ = some (.int .i64 dc) := hB'.cell 0
    have h1 : w9.cell? ⟨g, 1, none⟩ = some (.int .i64 dp) := hB'.cell 1
    have h2 : w9.cell? ⟨g, 2, none⟩ = some (.int .i64 di) := hB'.cell 2
    have h3 : w9.cell? ⟨g, 3, none⟩ = some (.int .i64 ds) := hB'.cell 3
    simp [Leaves, settle, results, Tryz.results21, go_sem, ht, h0, h1, h2, h3, DiagD.val]
    exact hb'
theorem lim_bounds {p : ProgD} (h : limM p = none) : p.headers.l.length ≤ 8 ∧ p.registers.l.length ≤ 4 ∧ p.actions.l.length ≤ 16 ∧ p.tables.l.length ≤ 12 := by
  unfold limM at h
  split at h
  · cases h
  split at h
  · cases h
  split at h
  · cases h
  split at h
  · cases h
  split at h
  · cases h
  exact ⟨by omega, by omega, by omega, by omega⟩
set_option maxRecDepth 100000 in
set_option maxHeartbeats 4000000 in
theorem check_any (p : ProgD) (w : World) (o : ProgOk w p) (hc : ProgCap p) (hN : (presM p.control.l).length ≤ 90000) :
    Calls Tryz.prog 21 #[.agg (progCells p)] w fun e w' => e = .returned (diagM p).val ∧ Below w.heap.size w w' := by
  have hmf : ∀ (fn : Fn) (first cap : Array Value) (w : World), (Instr.makeFunc fn first cap).run Tryz.prog w = .ok (.func fn first cap) w := fun _ _ _ _ => rfl
  have HO := Lib.hid o
  have HC := Lib.hid hc
  have HN := Lib.hid hN
  have HR := Lib.hid (checkM_eq p)
  obtain ⟨W, hW, hw, HB, hp⟩ := box2 w (progCells p) 31 #[.int .i64 0, .int .i64 0, .int .i64 0, .int .i64 0] 70
  have HW := Lib.hid hw
  have hbD : Blk W (w.heap.size + 1) 70 #[.int .i64 0, .int .i64 0, .int .i64 0, .int .i64 0] := by rw [hW]; exact (by simpa using Blk.new (w.alloc (.cells (progCells p) 31)) 70 #[.int .i64 0, .int .i64 0, .int .i64 0, .int .i64 0])
  have HD := Lib.hid hbD
  clear o hc hN hw hbD
  go_enter_defers Tryz.func21, Tryz.ntmps21
  go_upto_region 1 with fail
  rw [← hW]
  clear hW
  go_wp2_with fail
  refine (checkLimits_any p _ HO.out.name).mono ?_
  rintro e w1 ⟨rfl, hbN⟩
  replace HB := below_step (by first | exact HB | exact below_alloc HB _ | exact below_alloc (below_alloc HB _) _ | exact below_alloc (below_alloc (below_alloc HB _) _) _) hbN
  clear hbN
  rcases h1 : limM p with _ | d
  case some =>
    have HM : Hid (checkM p = some d) := Lib.hid (by rw [HR.out, h1]; rfl)
    simp only [outE]
    go_wp2
    rw [diagM, HM.out]
    exact check_leaves (w.heap.size + 1) w _ _ (some d) _ (Nat.le_succ _) (below_step HW.out HB) (HD.out.below HB HD.out.lt) rfl (.inr ⟨d, rfl, rfl⟩)
  replace HR := Lib.hid (HR.out.trans (or2 h1))
  have HLm := Lib.hid (lim_bounds h1)
  simp only [outE]
  go_wp2_with fail
  refine (checkHeaders_any p _ (HO.out.below (below_step HW.out (by first | exact HB | exact below_alloc HB _ | exact below_alloc (below_alloc HB _) _ | exact below_alloc (below_alloc (below_alloc HB _) _) _))) (by have := HLm.out.1; omega) HC.out.fields).mono ?_
  rintro e w2 ⟨rfl, hbN⟩
  replace HB := below_step (by first | exact HB | exact below_alloc HB _ | exact below_alloc (below_alloc HB _) _ | exact below_alloc (below_alloc (below_alloc HB _) _) _) hbN
  clear hbN
  rcases h2 : hdrsM p with _ | d
  case some =>
    have HM : Hid (checkM p = some d) := Lib.hid (by rw [HR.out, h2]; rfl)
    simp only [outE]
    go_wp2
    rw [diagM, HM.out]
    exact check_leaves (w.heap.size + 1) w _ _ (some d) _ (Nat.le_succ _) (below_step HW.out HB) (HD.out.below HB HD.out.lt) rfl (.inr ⟨d, rfl, rfl⟩)
  replace HR := Lib.hid (HR.out.trans (or2 h2))
  simp only [outE]
  go_wp2_with fail
  refine (checkMetadata_any p _ (HO.out.below (below_step HW.out (by first | exact HB | exact below_alloc HB _ | exact below_alloc (below_alloc HB _) _ | exact below_alloc (below_alloc (below_alloc HB _) _) _)))).mono ?_
  rintro e w3 ⟨rfl, hbN⟩
  replace HB := below_step (by first | exact HB | exact below_alloc HB _ | exact below_alloc (below_alloc HB _) _ | exact below_alloc (below_alloc (below_alloc HB _) _) _) hbN
  clear hbN
  rcases h3 : metaM p with _ | d
  case some =>
    have HM : Hid (checkM p = some d) := Lib.hid (by rw [HR.out, h3]; rfl)
    simp only [outE]
    go_wp2
    rw [diagM, HM.out]
    exact check_leaves (w.heap.size + 1) w _ _ (some d) _ (Nat.le_succ _) (below_step HW.out HB) (HD.out.below HB HD.out.lt) rfl (.inr ⟨d, rfl, rfl⟩)
  replace HR := Lib.hid (HR.out.trans (or2 h3))
  simp only [outE]
  go_wp2_with fail
  refine (checkObjects_any p _ (HO.out.below (below_step HW.out (by first | exact HB | exact below_alloc HB _ | exact below_alloc (below_alloc HB _) _ | exact below_alloc (below_alloc (below_alloc HB _) _) _))) (by have := HLm.out.2.1; omega) (by have := HLm.out.2.2.1; omega) (by have := HLm.out.2.2.2; omega) HC.out.params HC.out.dflt).mono ?_
  rintro e w4 ⟨rfl, hbN⟩
  replace HB := below_step (by first | exact HB | exact below_alloc HB _ | exact below_alloc (below_alloc HB _) _ | exact below_alloc (below_alloc (below_alloc HB _) _) _) hbN
  clear hbN
  rcases h4 : objsM p with _ | d
  case some =>
    have HM : Hid (checkM p = some d) := Lib.hid (by rw [HR.out, h4]; rfl)
    simp only [outE]
    go_wp2
    rw [diagM, HM.out]
    exact check_leaves (w.heap.size + 1) w _ _ (some d) _ (Nat.le_succ _) (below_step HW.out HB) (HD.out.below HB HD.out.lt) rfl (.inr ⟨d, rfl, rfl⟩)
  replace HR := Lib.hid (HR.out.trans (or2 h4))
  simp only [outE]
  go_wp2_with fail
  refine (checkFlow_any p _ (HO.out.below (below_step HW.out (by first | exact HB | exact below_alloc HB _ | exact below_alloc (below_alloc HB _) _ | exact below_alloc (below_alloc (below_alloc HB _) _) _))) HC.out HN.out).mono ?_
  rintro e w5 ⟨rfl, hbN⟩
  replace HB := below_step (by first | exact HB | exact below_alloc HB _ | exact below_alloc (below_alloc HB _) _ | exact below_alloc (below_alloc (below_alloc HB _) _) _) hbN
  clear hbN
  rcases h5 : flowM p with _ | d
  case some =>
    have HM : Hid (checkM p = some d) := Lib.hid (by rw [HR.out, h5])
    simp only [outE]
    go_wp2
    rw [diagM, HM.out]
    exact check_leaves (w.heap.size + 1) w _ _ (some d) _ (Nat.le_succ _) (below_step HW.out HB) (HD.out.below HB HD.out.lt) rfl (.inr ⟨d, rfl, rfl⟩)
  have HM : Hid (checkM p = none) := Lib.hid (by rw [HR.out, h5])
  simp only [outE]
  have hD := HD.out.below HB HD.out.lt
  have z0 : w5.cell? ⟨w.heap.size + 1, 0, none⟩ = some (.int .i64 0) := hD.cell 0
  have z1 : w5.cell? ⟨w.heap.size + 1, 1, none⟩ = some (.int .i64 0) := hD.cell 1
  have z2 : w5.cell? ⟨w.heap.size + 1, 2, none⟩ = some (.int .i64 0) := hD.cell 2
  have z3 : w5.cell? ⟨w.heap.size + 1, 3, none⟩ = some (.int .i64 0) := hD.cell 3
  have f0 : w5.frozen? ⟨w.heap.size + 1, 0, none⟩ = false := hD.frozen 0
  have f1 : w5.frozen? ⟨w.heap.size + 1, 1, none⟩ = false := hD.frozen 1
  have f2 : w5.frozen? ⟨w.heap.size + 1, 2, none⟩ = false := hD.frozen 2
  have f3 : w5.frozen? ⟨w.heap.size + 1, 3, none⟩ = false := hD.frozen 3
  have HBw := Lib.hid (below_step HW.out HB)
  have HD5 := Lib.hid hD
  clear hD hp HB
  go_wp2
  rw [diagM, HM.out]
  have e0 : Below w.heap.size w (w5.setCell ⟨w.heap.size + 1, 0, none⟩ (.int .i64 0)) := HBw.out.setCell (Nat.le_succ _) _
  have e1 : Below w.heap.size w ((w5.setCell ⟨w.heap.size + 1, 0, none⟩ (.int .i64 0)).setCell ⟨w.heap.size + 1, 1, none⟩ (.int .i64 0)) := e0.setCell (Nat.le_succ _) _
  have e2 : Below w.heap.size w (((w5.setCell ⟨w.heap.size + 1, 0, none⟩ (.int .i64 0)).setCell ⟨w.heap.size + 1, 1, none⟩ (.int .i64 0)).setCell ⟨w.heap.size + 1, 2, none⟩ (.int .i64 0)) := e1.setCell (Nat.le_succ _) _
  have e3 : Below w.heap.size w ((((w5.setCell ⟨w.heap.size + 1, 0, none⟩ (.int .i64 0)).setCell ⟨w.heap.size + 1, 1, none⟩ (.int .i64 0)).setCell ⟨w.heap.size + 1, 2, none⟩ (.int .i64 0)).setCell ⟨w.heap.size + 1, 3, none⟩ (.int .i64 0)) := e2.setCell (Nat.le_succ _) _
  exact check_leaves (w.heap.size + 1) w _ _ none _ (Nat.le_succ _) e3 ((((HD5.out.set_ 0 (.int .i64 0)).set_ 1 (.int .i64 0)).set_ 2 (.int .i64 0)).set_ 3 (.int .i64 0)) rfl (.inl ⟨rfl, rfl⟩)
end Go.Proofs.YtofjapcgbajmiaaGreatDoor
namespace Go.Proofs.YtofjapcgbajmiaaGreatDoor
open Go.RowKit
def Strs (w : World) (A : Option Addr) (c : Nat) (l : List ByteArray) : Prop := l.length = 0 ∨ ∃ g, A = some ⟨g, 0, none⟩ ∧ g < w.heap.size ∧ l.length ≤ c ∧ ∀ j, j < l.length → w.cell? ⟨g, 0 + j, none⟩ = some (.string (l.getD j ByteArray.empty))
theorem OwnStrs.strs {w : World} {B c : Nat} {A : Option Addr} {l : List ByteArray} (h : OwnStrs w B A c l) : Strs w A c l := by
  by_cases h0 : 0 < l.length
  · obtain ⟨g, e, h1, h2, h3⟩ := h.form h0
    exact .inr ⟨g, e, h1, h2, h3⟩
  · exact .inl (by omega)
theorem Strs.below {w w' : World} {A : Option Addr} {c : Nat} {l : List ByteArray} (h : Strs w A c l) (hb : Below w.heap.size w w') : Strs w' A c l := by
  rcases h with h | ⟨g, e, h1, h2, h3⟩
  · exact .inl h
  · exact .inr ⟨g, e, Nat.lt_of_lt_of_le h1 hb.size, h2, fun j hj => below_cell hb (h3 j hj)⟩
def lookM (l : List ByteArray) (s : ByteArray) : Int × Bool := if Lib.idxOfS l s < 0 then (0, false) else (Lib.idxOfS l s, true)
end Go.Proofs.YtofjapcgbajmiaaGreatDoor
namespace Go.Proofs.YtofjapcgbajmiaaGreatDoor
open Go.RowKit
structure OpP where
  kind : Int
  table : Int
  id : Int
  keys : List KmD
  prio : Int
  ea : Int
  eargs : List Int
  ca : Int
  cargs : List Int
  deriving DecidableEq
def OpP.zero : OpP := ⟨0, 0, 0, [], 0, 0, [], 0, []⟩
structure OpD where
  kind : Int
  table : Int
  id : Int
  keys : L KmD
  prio : Int
  ea : Int
  eargs : L Int
  ca : Int
  cargs : L Int
def OpD.bare (o : OpD) : OpP := ⟨o.kind, o.table, o.id, o.keys.l, o.prio, o.ea, o.eargs.l, o.ca, o.cargs.l⟩
@[reducible] def opCells (o : OpD) : Array Value := #[.int .i64 o.kind, .int .i64 o.table, .int .i64 o.id, o.keys.v, .int .i64 o.prio, .int .i64 o.ea, o.eargs.v, .int .i64 o.ca, o.cargs.v]
structure OpOk (w : World) (o : OpD) : Prop where
  keys : LOk w 2 KmD.cells o.keys
  eargs : LOk w 1 ucell o.eargs
  cargs : LOk w 1 ucell o.cargs
theorem OpOk.below {w w' : World} {o : OpD} (h : OpOk w o) (hb : Below w.heap.size w w') : OpOk w' o :=
  ⟨h.keys.below hb (Nat.le_refl _), h.eargs.below hb (Nat.le_refl _), h.cargs.below hb (Nat.le_refl _)⟩
structure OpFine (o : OpP) : Prop where
  kind : (Lit.int .i64 o.kind).wf = true
  table : (Lit.int .i64 o.table).wf = true
  id : (Lit.int .i64 o.id).wf = true
  keys : ∀ k ∈ o.keys, (Lit.int .u32 k.v).wf = true ∧ (Lit.int .u32 k.m).wf = true
  prio : (Lit.int .i64 o.prio).wf = true
  ea : (Lit.int .i64 o.ea).wf = true
  eargs : ∀ v ∈ o.eargs, (Lit.int .u32 v).wf = true
  ca : (Lit.int .i64 o.ca).wf = true
  cargs : ∀ v ∈ o.cargs, (Lit.int .u32 v).wf = true
def keyChkM (k : KmD) (kind w : Int) : Int :=
  if fitsM k.v w = false ∨ fitsM k.m w = false then 9
  else if within k.v k.m = false then 5
  else if kind = 1 ∧ k.m ≠ maskM w then 11
  else if kind = 2 ∧ prefixM k.m w = false then 11 else 0
def keyErrM (p : ProgD) (ks : List KmD) (l : List KeyD) (i : Nat) : Option Int :=
  match ks[i]?, l[i]? with
  | some k, some x => if keyChkM k x.kind (widthAt p x.h x.f) ≠ 0 then some (keyChkM k x.kind (widthAt p x.h x.f)) else none
  | _, _ => none
def mayM (p : ProgD) (t : TabD) (a : Int) (args : List Int) : Int := if a ∈ t.acts.l then callM p a args else 8
def entM (p : ProgD) (t : TabD) (ks : List KmD) (prio a : Int) (args : List Int) : Int :=
  if ks.length ≠ t.keys.l.length then 2
  else match firstE t.keys.l.length (keyErrM p ks t.keys.l) with
  | some e => e
  | none => if prio < 0 ∨ 255 < prio then 9 else if prio ≠ 0 ∧ kindT t.keys.l ≠ 3 then 11 else mayM p t a args
def opChk (p : ProgD) (o : OpP) : Int :=
  if o.kind < 1 ∨ 4 < o.kind then 11
  else if o.table < 0 then 8
  else match p.tables.l[o.table.toNat]? with
  | none => 8
  | some t =>
    if o.kind = 1 then entM p t o.keys o.prio o.ea o.eargs
    else if o.kind ≠ 4 ∧ (o.id < 1 ∨ 1073741824 < o.id) then 9
    else if o.kind = 3 then 0
    else mayM p t o.ca o.cargs
def decI (n : Int) : List UInt8 := dec n.toNat
def argsX (l : List Int) : List UInt8 := Lib.join (l.map decI) [44, 32]
def nameA (p : ProgD) (a : Int) : List UInt8 := ((p.actions.l[a.toNat]?).map fun x => x.name.data.toList).getD []
def nameT (p : ProgD) (t : Int) : List UInt8 := ((p.tables.l[t.toNat]?).map fun x => x.name.data.toList).getD []
def callT (p : ProgD) (a : Int) (l : List Int) : List UInt8 := nameA p a ++ [40] ++ argsX l ++ [41]
def keyT (k : KmD) : List UInt8 := decI k.v ++ [47] ++ decI k.m
def keysT (l : List KmD) : List UInt8 := (l.map fun k => 32 :: keyT k).flatten
def opT (p : ProgD) (o : OpP) : List UInt8 :=
  if o.kind = 1 then wIns ++ [32] ++ nameT p o.table ++ keysT o.keys ++ [32] ++ wPrio ++ [32] ++ Lib.itoa o.prio ++ [32] ++ wArrow ++ [32] ++ callT p o.ea o.eargs
  else if o.kind = 2 then wMod ++ [32] ++ nameT p o.table ++ [32] ++ Lib.itoa o.id ++ [32] ++ wArrow ++ [32] ++ callT p o.ca o.cargs
  else if o.kind = 3 then wDel ++ [32] ++ nameT p o.table ++ [32] ++ Lib.itoa o.id
  else wDef ++ [32] ++ nameT p o.table ++ [32] ++ wArrow ++ [32] ++ callT p o.ca o.cargs
def fmtOp (p : ProgD) (o : OpP) : List UInt8 × Int := if opChk p o ≠ 0 then ([], opChk p o) else (opT p o, 0)
def formatM (p : ProgD) (o : OpP) : List UInt8 × Int := if (diagM p).code ≠ 0 then ([], (diagM p).code) else fmtOp p o
def resA (ts : List Tk) (names : List ByteArray) (s : PS) : Int × PS :=
  match (takeA ts 1 [] s).2 with
  | .bad e => (0, .bad e)
  | .ok i => if (lookM names ⟨(takeA ts 1 [] s).1.text.toArray⟩).2 = true then ((lookM names ⟨(takeA ts 1 [] s).1.text.toArray⟩).1, .ok i) else (0, .bad 8)
def callA (p : ProgD) (ts : List Tk) (s : PS) : (Int × List Int) × PS :=
  let r := resA ts (p.actions.l.map ActD.name) (stepA ts 3 wArrow s)
  let l := argsA ts (ts.length + 2) true [] (stepA ts 3 [40] r.2)
  ((r.1, l.1), stepA ts 3 [41] l.2)
def opA (p : ProgD) (ts : List Tk) : OpP × PS :=
  let k := kindW (nxt ts 0).text
  if k = 0 then (OpP.zero, .bad 5)
  else
    let r := resA ts (p.tables.l.map TabD.name) (.ok 1)
    if k = 1 then
      let ks := keysA ts (ts.length + 2) [] r.2
      let n := numA ts (stepA ts 1 wPrio ks.2)
      let c := callA p ts n.2
      (⟨1, r.1, 0, ks.1, n.1, c.1.1, c.1.2, 0, []⟩, c.2)
    else if k = 2 then
      let n := numA ts r.2
      let c := callA p ts n.2
      (⟨2, r.1, n.1, [], 0, 0, [], c.1.1, c.1.2⟩, c.2)
    else if k = 3 then
      let n := numA ts r.2
      (⟨3, r.1, n.1, [], 0, 0, [], 0, []⟩, n.2)
    else
      let c := callA p ts r.2
      (⟨4, r.1, 0, [], 0, 0, [], c.1.1, c.1.2⟩, c.2)
def endA (ts : List Tk) : PS → PS
  | .bad e => .bad e
  | .ok i => if i < ts.length then .bad 5 else .ok i
def readM (p : ProgD) (s : List UInt8) : OpP × Int :=
  if (tokenize s).2.2 ≠ 0 then (OpP.zero, (tokenize s).2.2)
  else match endA (tokenize s).1 (opA p (tokenize s).1).2 with
  | .bad e => (OpP.zero, e)
  | .ok _ =>
    if opChk p (opA p (tokenize s).1).1 ≠ 0 then (OpP.zero, opChk p (opA p (tokenize s).1).1)
    else if opT p (opA p (tokenize s).1).1 ≠ s then (OpP.zero, 23)
    else ((opA p (tokenize s).1).1, 0)
def parseOpM (p : ProgD) (s : List UInt8) : OpP × Int := if (diagM p).code ≠ 0 then (OpP.zero, (diagM p).code) else readM p s
def linesM : List UInt8 → List (List UInt8)
  | [] => [[]]
  | c :: r => if c = 10 then [] :: linesM r else match linesM r with
    | [] => [[c]]
    | l :: m => (c :: l) :: m
def blankM (l : List UInt8) : Bool := l.all fun c => decide (c = 32)
def scriptG (p : ProgD) : List (List UInt8) → Nat → List OpP → List OpP × Nat × Int
  | [], _, out => (out, 0, 0)
  | l :: r, n, out =>
    if blankM l = true then scriptG p r (n + 1) out
    else if (readM p l).2 ≠ 0 then ([], n + 1, (readM p l).2)
    else scriptG p r (n + 1) (out ++ [(readM p l).1])
def scriptM (p : ProgD) (s : List UInt8) : List OpP × Nat × Int :=
  if 16384 < s.length then ([], 0, 4)
  else if (diagM p).code ≠ 0 then ([], 0, (diagM p).code)
  else scriptG p (linesM s) 0 []
theorem linesM_ne : ∀ l, linesM l ≠ []
  | [] => by simp [linesM]
  | c :: r => by
    rw [linesM]
    split
    · simp
    · split <;> simp
theorem linesM_join : ∀ (a b : List UInt8), linesM (a ++ 10 :: b) = linesM a ++ linesM b
  | [], b => by simp [linesM]
  | c :: r, b => by
    rw [List.cons_append, linesM, linesM, linesM_join r b]
    by_cases h : c = 10
    · rw [if_pos h, if_pos h]; rfl
    · rw [if_neg h, if_neg h]
      rcases hr : linesM r with _ | ⟨l, m⟩
      · exact absurd hr (linesM_ne r)
      · rfl
theorem scriptG_out (p : ProgD) : ∀ (ls : List (List UInt8)) (n : Nat) (out : List OpP), (scriptG p ls n out).2.2 = 0 →
    scriptG p ls n out = (out ++ (scriptG p ls 0 []).1, 0, 0) ∧ (scriptG p ls 0 []).2.2 = 0
  | [], n, out, _ => ⟨by simp [scriptG], rfl⟩
  | l :: r, n, out, h => by
    rw [scriptG] at h
    rw [scriptG, scriptG]
    by_cases hb : blankM l = true
    · rw [if_pos hb] at h ⊢
      rw [if_pos hb]
      have h1 := scriptG_out p r (n + 1) out h
      have h2 := scriptG_out p r 1 [] (by
        have := (scriptG_out p r (n + 1) out h).2
        exact scriptG_err p r 0 1 [] [] this)
      rw [h1.1, h2.1]
      exact ⟨rfl, rfl⟩
    · rw [if_neg hb] at h ⊢
      rw [if_neg hb]
      by_cases he : (readM p l).2 ≠ 0
      · rw [if_pos he] at h
        exact absurd h he
      · rw [if_neg he] at h ⊢
        rw [if_neg he]
        have h1 := scriptG_out p r (n + 1) _ h
        have h2 := scriptG_out p r 1 ([] ++ [(readM p l).1]) (scriptG_err p r 0 1 [] _ h1.2)
        rw [h1.1, h2.1]
        exact ⟨by simp, rfl⟩
where scriptG_err (p : ProgD) : ∀ (ls : List (List UInt8)) (n m : Nat) (a b : List OpP), (scriptG p ls n a).2.2 = 0 → (scriptG p ls m b).2.2 = 0
  | [], _, _, _, _, _ => rfl
  | l :: r, n, m, a, b, h => by
    rw [scriptG] at h ⊢
    by_cases hb : blankM l = true
    · rw [if_pos hb] at h ⊢
      exact scriptG_err p r _ _ _ _ h
    · rw [if_neg hb] at h ⊢
      by_cases he : (readM p l).2 ≠ 0
      · rw [if_pos he] at h
        exact absurd h he
      · rw [if_neg he] at h ⊢
        exact scriptG_err p r _ _ _ _ h
theorem scriptG_app (p : ProgD) : ∀ (a b : List (List UInt8)) (n : Nat) (out : List OpP), (scriptG p a n out).2.2 = 0 →
    scriptG p (a ++ b) n out = scriptG p b (n + a.length) (scriptG p a n out).1
  | [], b, n, out, _ => by simp [scriptG]
  | l :: r, b, n, out, h => by
    rw [scriptG] at h
    rw [List.cons_append, scriptG, scriptG]
    by_cases hb : blankM l = true
    · rw [if_pos hb] at h
      rw [if_pos hb, if_pos hb, scriptG_app p r b (n + 1) out h]
      congr 1
      simp; omega
    · rw [if_neg hb] at h
      rw [if_neg hb, if_neg hb]
      by_cases he : (readM p l).2 ≠ 0
      · rw [if_pos he] at h
        exact absurd h he
      · rw [if_neg he] at h
        rw [if_neg he, if_neg he, scriptG_app p r b (n + 1) _ h]
        congr 1
        simp; omega
theorem scripts_join (p : ProgD) (a b : List UInt8) (ha : (scriptM p a).2.2 = 0) (hb : (scriptM p b).2.2 = 0) (hl : a.length + 1 + b.length ≤ 16384) :
    scriptM p (a ++ 10 :: b) = ((scriptM p a).1 ++ (scriptM p b).1, 0, 0) := by
  have h1 : ¬ 16384 < a.length := by omega
  have h2 : ¬ 16384 < b.length := by omega
  have h3 : ¬ 16384 < (a ++ 10 :: b).length := by simp; omega
  unfold scriptM at ha hb ⊢
  rw [if_neg h1] at ha ⊢
  rw [if_neg h2] at hb ⊢
  rw [if_neg h3]
  by_cases hc : (diagM p).code ≠ 0
  · rw [if_pos hc] at ha
    exact absurd ha hc
  · rw [if_neg hc] at ha hb ⊢
    rw [if_neg hc, linesM_join, scriptG_app p _ _ _ _ ha]
    have h4 := scriptG_out p (linesM b) (0 + (linesM a).length) (scriptG p (linesM a) 0 []).1 (scriptG_out.scriptG_err p _ _ _ _ _ hb)
    rw [h4.1, if_neg hc]
end Go.Proofs.YtofjapcgbajmiaaGreatDoor
namespace Go.Proofs.YtofjapcgbajmiaaGreatDoor
open Go.RowKit
@[reducible] def kmCells (k : KmD) : Array Value := #[.int .u32 k.v, .int .u32 k.m]
theorem andNot_within {v m : Int} (hv : (Lit.int .u32 v).wf = true) (hm : (Lit.int .u32 m).wf = true) : (bits BinOp.andNot IntKind.u32 v m == 0) = within v m := by
  obtain ⟨a, rfl, la⟩ := wf_u32 hv
  obtain ⟨b, rfl, lb⟩ := wf_u32 hm
  exact andNot_zero a b la lb
theorem width_nat {w : Int} (h : okW w = true) : ∃ n : Nat, w = n ∧ n ≤ 32 ∧ 1 ≤ n := by
  rw [okW] at h
  simp only [Bool.and_eq_true, decide_eq_true_eq] at h
  exact ⟨w.toNat, by omega, by omega, by omega⟩
set_option maxRecDepth 100000 in
set_option maxHeartbeats 4000000 in
theorem checkKey_any (k : KmD) (kind wd : Int) (w : World) (hw : okW wd = true) (hv : (Lit.int .u32 k.v).wf = true) (hm : (Lit.int .u32 k.m).wf = true) :
    Calls Tryz.prog 168 #[.agg (kmCells k), .int .i64 kind, .int .i64 wd] w fun e w' => e = .returned (.int .i64 (keyChkM k kind wd)) ∧ Below w.heap.size w w' := by
  have HR := Lib.hid (keyChkM.eq_1 k kind wd)
  obtain ⟨v, m⟩ := k
  have hz := andNot_within hv hm
  obtain ⟨n, rfl, hn, hn1⟩ := width_nat hw
  have HP := Lib.hid (fun u => plen_any m n hn hn1 u)
  have HMk := Lib.hid (fun u => mask_any (n : Int) u)
  clear hv hm
  simp only at HR hz
  generalize prefixM m n = pr at *
  generalize ((maskM (n : Int) : Nat) : Int) = mk at *
  obtain ⟨W, hW, hw1, HB, hp⟩ := box1 w (kmCells ⟨v, m⟩) 68
  have HW := Lib.hid hw1
  clear hw1 hw
  cases h1 : fitsM v n
  · replace HR := Lib.hid (HR.out.trans (if_pos (.inl h1)))
    go_enter Tryz.func168, Tryz.ntmps168
    go_upto_region 1 with fail
    rw [← hW]
    clear hW
    have hp3 := hp W HB
    go_wp2_with fail
    refine (fits_any v n _).mono ?_
    rintro e w2 ⟨rfl, hbN⟩
    replace HB := below_step (by first | exact HB | exact below_alloc HB _ | exact below_alloc (below_alloc HB _) _ | exact below_alloc (below_alloc (below_alloc HB _) _) _) hbN
    clear hbN
    rw [h1]
    go_wp2
    go_ret
    exact ⟨by rw [HR.out]; rfl, below_step HW.out HB⟩
  cases h2 : fitsM m n
  · replace HR := Lib.hid (HR.out.trans (if_pos (.inr h2)))
    go_enter Tryz.func168, Tryz.ntmps168
    go_upto_region 1 with fail
    rw [← hW]
    clear hW
    have hp3 := hp W HB
    go_wp2_with fail
    refine (fits_any v n _).mono ?_
    rintro e w2 ⟨rfl, hbN⟩
    replace HB := below_step (by first | exact HB | exact below_alloc HB _ | exact below_alloc (below_alloc HB _) _ | exact below_alloc (below_alloc (below_alloc HB _) _) _) hbN
    clear hbN
    rw [h1]
    have hp4 := hp _ HB
    go_wp2_with fail
    refine (fits_any m n _).mono ?_
    rintro e w3 ⟨rfl, hbN⟩
    replace HB := below_step (by first | exact HB | exact below_alloc HB _ | exact below_alloc (below_alloc HB _) _ | exact below_alloc (below_alloc (below_alloc HB _) _) _) hbN
    clear hbN
    rw [h2]
    go_wp2
    go_ret
    exact ⟨by rw [HR.out]; rfl, below_step HW.out HB⟩
  replace HR := Lib.hid (HR.out.trans (if_neg (by rw [h1, h2]; simp)))
  cases h3 : within v m
  · replace HR := Lib.hid (HR.out.trans (if_pos h3))
    rw [h3] at hz
    have hz2 : (bits BinOp.andNot IntKind.u32 v m != 0) = true := by rw [bne, hz]; rfl
    go_enter Tryz.func168, Tryz.ntmps168
    go_upto_region 1 with fail
    rw [← hW]
    clear hW
    have hp3 := hp W HB
    go_wp2_with fail
    refine (fits_any v n _).mono ?_
    rintro e w2 ⟨rfl, hbN⟩
    replace HB := below_step (by first | exact HB | exact below_alloc HB _ | exact below_alloc (below_alloc HB _) _ | exact below_alloc (below_alloc (below_alloc HB _) _) _) hbN
    clear hbN
    rw [h1]
    have hp4 := hp _ HB
    go_wp2_with fail
    refine (fits_any m n _).mono ?_
    rintro e w3 ⟨rfl, hbN⟩
    replace HB := below_step (by first | exact HB | exact below_alloc HB _ | exact below_alloc (below_alloc HB _) _ | exact below_alloc (below_alloc (below_alloc HB _) _) _) hbN
    clear hbN
    rw [h2]
    have hp5 := hp _ HB
    go_wp2
    go_ret
    exact ⟨by rw [HR.out]; rfl, below_step HW.out HB⟩
  replace HR := Lib.hid (HR.out.trans (if_neg (by rw [h3]; simp)))
  rw [h3] at hz
  have hz2 : (bits BinOp.andNot IntKind.u32 v m != 0) = false := by rw [bne, hz]; rfl
  by_cases hk1 : kind = 1
  · subst hk1
    go_enter Tryz.func168, Tryz.ntmps168
    go_upto_region 1 with fail
    rw [← hW]
    clear hW
    have hp3 := hp W HB
    go_wp2_with fail
    refine (fits_any v n _).mono ?_
    rintro e w2 ⟨rfl, hbN⟩
    replace HB := below_step (by first | exact HB | exact below_alloc HB _ | exact below_alloc (below_alloc HB _) _ | exact below_alloc (below_alloc (below_alloc HB _) _) _) hbN
    clear hbN
    rw [h1]
    have hp4 := hp _ HB
    go_wp2_with fail
    refine (fits_any m n _).mono ?_
    rintro e w3 ⟨rfl, hbN⟩
    replace HB := below_step (by first | exact HB | exact below_alloc HB _ | exact below_alloc (below_alloc HB _) _ | exact below_alloc (below_alloc (below_alloc HB _) _) _) hbN
    clear hbN
    rw [h2]
    have hp5 := hp _ HB
    clear hp3 hp4
    go_upto_region 5 with fail
    have H0 := Lib.hid HB
    clear hp5
    go_region_held3 (fun w' => Below W.heap.size W w') (first | exact H0.out | exact below_drew H0.out | (exact below_step (by assumption) (by assumption)) | assumption)
      (first | (go_at_call 153; refine (HMk.out _).mono ?_; rintro e w1 ⟨rfl, hb1⟩))
    have HB5 : Hid (Below W.heap.size W _) := Lib.hid (by assumption)
    by_cases he : m = mk
    · have hb : (m != mk) = false := by rw [he]; simp
      replace HR := Lib.hid (HR.out.trans ((if_neg (by rw [he]; simp)).trans (if_neg (by rintro ⟨h, _⟩; exact absurd h (by decide)))))
      go_wp2
      go_ret
      exact ⟨by rw [HR.out]; rfl, below_step HW.out HB5.out⟩
    · have hb : (m != mk) = true := by simpa using he
      replace HR := Lib.hid (HR.out.trans (if_pos ⟨by first | rfl | trivial, he⟩))
      go_wp2
      go_ret
      exact ⟨by rw [HR.out]; rfl, below_step HW.out HB5.out⟩
  · have hk1b : (kind == 1) = false := by simpa using hk1
    replace HR := Lib.hid (HR.out.trans (if_neg (by rintro ⟨h, _⟩; exact hk1 h)))
    by_cases hk2 : kind = 2
    · subst hk2
      go_enter Tryz.func168, Tryz.ntmps168
      go_upto_region 1 with fail
      rw [← hW]
      clear hW
      have hp3 := hp W HB
      go_wp2_with fail
      refine (fits_any v n _).mono ?_
      rintro e w2 ⟨rfl, hbN⟩
      replace HB := below_step (by first | exact HB | exact below_alloc HB _ | exact below_alloc (below_alloc HB _) _ | exact below_alloc (below_alloc (below_alloc HB _) _) _) hbN
      clear hbN
      rw [h1]
      have hp4 := hp _ HB
      go_wp2_with fail
      refine (fits_any m n _).mono ?_
      rintro e w3 ⟨rfl, hbN⟩
      replace HB := below_step (by first | exact HB | exact below_alloc HB _ | exact below_alloc (below_alloc HB _) _ | exact below_alloc (below_alloc (below_alloc HB _) _) _) hbN
      clear hbN
      rw [h2]
      have hp5 := hp _ HB
      clear hp3 hp4
      go_upto_region 5 with fail
      go_quiet (fail)
      have HB5 : Hid (Below W.heap.size W (w3.drewN nq)) := Lib.hid (below_drewN HB nq)
      have hp6 := hp _ HB5.out
      clear hp5
      go_wp2_with fail
      refine (HP.out _).mono ?_
      rintro e w5 ⟨⟨z, rfl⟩, hb5⟩
      have HB6 := Lib.hid (below_step HB5.out hb5)
      clear hb5 hp6
      cases pr with
      | true =>
        replace HR := Lib.hid (HR.out.trans (if_neg (by rintro ⟨_, h⟩; cases h)))
        go_wp2
        go_ret
        exact ⟨by rw [HR.out]; rfl, below_step HW.out HB6.out⟩
      | false =>
        replace HR := Lib.hid (HR.out.trans (if_pos ⟨by first | rfl | trivial, rfl⟩))
        go_wp2
        go_ret
        exact ⟨by rw [HR.out]; rfl, below_step HW.out HB6.out⟩
    · have hk2b : (kind == 2) = false := by simpa using hk2
      replace HR := Lib.hid (HR.out.trans (if_neg (by rintro ⟨h, _⟩; exact hk2 h)))
      go_enter Tryz.func168, Tryz.ntmps168
      go_upto_region 1 with fail
      rw [← hW]
      clear hW
      have hp3 := hp W HB
      go_wp2_with fail
      refine (fits_any v n _).mono ?_
      rintro e w2 ⟨rfl, hbN⟩
      replace HB := below_step (by first | exact HB | exact below_alloc HB _ | exact below_alloc (below_alloc HB _) _ | exact below_alloc (below_alloc (below_alloc HB _) _) _) hbN
      clear hbN
      rw [h1]
      have hp4 := hp _ HB
      go_wp2_with fail
      refine (fits_any m n _).mono ?_
      rintro e w3 ⟨rfl, hbN⟩
      replace HB := below_step (by first | exact HB | exact below_alloc HB _ | exact below_alloc (below_alloc HB _) _ | exact below_alloc (below_alloc (below_alloc HB _) _) _) hbN
      clear hbN
      rw [h2]
      have hp5 := hp _ HB
      clear hp3 hp4
      go_upto_region 5 with fail
      go_quiet (fail)
      have HB5 : Hid (Below W.heap.size W (w3.drewN nq)) := Lib.hid (below_drewN HB nq)
      clear hp5
      go_wp2
      go_ret
      exact ⟨by rw [HR.out]; rfl, below_step HW.out HB5.out⟩
end Go.Proofs.YtofjapcgbajmiaaGreatDoor
namespace Go.Proofs.YtofjapcgbajmiaaGreatDoor
open Go.RowKit
set_option maxRecDepth 100000 in
set_option maxHeartbeats 8000000 in
theorem tallows_any (p : ProgD) (i : Nat) (hi : i < p.tables.l.length) (n : Int) (w : World) (o : ProgOk w p) (hc : ∀ t ∈ p.tables.l, (Lit.int .i64 t.defA).wf = true) (hf : TabFine p p.tables.l[i]) :
    Calls Tryz.prog 170 #[.agg (progCells p), .int .i64 i, .int .i64 n] w fun e w' => e = .returned (.bool (decide (n ∈ p.tables.l[i].acts.l))) ∧ Below w.heap.size w w' := by
  have HO := Lib.hid o
  obtain ⟨W, hW, hw, HB, hp⟩ := box1 w (progCells p) 31
  have HW := Lib.hid hw
  have hvl := fun u (hb : Below W.heap.size W u) => tvalid_any p i hi u (o.below (below_step hw hb)) hc hf.ok
  have HK := Lib.hid ((o.tab _ (List.getElem_mem hi)).below hw).acts
  obtain ⟨g, of, hA, hq⟩ := TabD.atA (o.tables.below hw (Nat.le_refl _)) hi
  have hn1 : (i : Int) < (p.tables.l.length : Int) := by omega
  clear o hw hc hf
  generalize p.tables.l[i] = t at *
  obtain ⟨tn, tk, ⟨kl, kA, kc⟩, td, tg, tz⟩ := t
  simp only at hq HK ⊢
  simp only [progCells, hA] at hp hW hvl ⊢
  have HVl := Lib.hid hvl
  have hmk : kl.length ≤ 9223372036854775807 := HK.out.1
  clear hA hvl
  go_enter Tryz.func170, Tryz.ntmps170
  go_upto_region 1 with fail
  rw [← hW]
  clear hW
  have hp3 := hp W HB
  go_wp2_with fail
  refine (HVl.out _ (by first | exact HB | exact below_alloc HB _ | exact below_alloc (below_alloc HB _) _ | exact below_alloc (below_alloc (below_alloc HB _) _) _)).mono ?_
  rintro e w1 ⟨rfl, hbN⟩
  replace HB := below_step (by first | exact HB | exact below_alloc HB _ | exact below_alloc (below_alloc HB _) _ | exact below_alloc (below_alloc (below_alloc HB _) _) _) hbN
  clear hbN
  clear hp3
  have hp3 := hp _ HB
  have hq3 := hq _ HB
  have HB1 := Lib.hid HB
  go_wp2
  clear HB hp3 hq3
  go_loopw [8, 20] (fun _ iv wr => ∃ k : Nat, k ≤ kl.length ∧ iv = .int .i64 k ∧ Hid (∀ j (hj : j < kl.length), j < k → kl[j] ≠ n) ∧ Below W.heap.size W wr) (fun _ i _ => kl.length - (intOf i).toNat)
  case atStart => exact ⟨0, Nat.zero_le _, rfl, Lib.hid (fun j _ h => absurd h (Nat.not_lt_zero _)), HB1.out⟩
  case round =>
    obtain ⟨k, hk, rfl, HN, HB⟩ := hrel
    by_cases hlt : k < kl.length
    · obtain ⟨g2, of2, hA2, d0⟩ := icell_at (HK.out.below HB (Nat.le_refl _)) hlt
      have HY : Hid (kl[k] = n → decide (n ∈ kl) = true) := Lib.hid (fun e => decide_eq_true (e ▸ List.getElem_mem hlt))
      have HZ : Hid (kl[k] ≠ n → ∀ j (hj : j < kl.length), j < k + 1 → kl[j] ≠ n) := Lib.hid (fun hne => pre_ne (f := fun _ (a : Int) => a ≠ n) HN.out hne)
      simp only at hA2 d0
      subst hA2
      generalize kl[k] = y at *
      by_cases hy : y = n
      · have HY2 := Lib.hid (HY.out hy)
        subst hy
        go_wp2
        go_ret
        exact ⟨by rw [HY2.out]; rfl, below_step HW.out HB⟩
      · have HZ2 := Lib.hid (HZ.out hy)
        have hy' : (y == n) = false := beq_eq_false_iff_ne.2 hy
        clear hy HY HZ
        go_wp2
        go_roundw
        case rel => exact ⟨k + 1, by omega, by go_num, HZ2, HB⟩
        case measure => simp [intOf]; omega
    · have e : k = kl.length := by omega
      have HR2 : Hid (decide (n ∈ kl) = false) := Lib.hid (by
        rw [decide_eq_false_iff_not]
        intro hm
        obtain ⟨j, hj, e2⟩ := List.mem_iff_getElem.1 hm
        exact HN.out j hj (by omega) e2)
      go_wp2
      go_ret
      exact ⟨by rw [HR2.out]; rfl, below_step HW.out HB⟩
end Go.Proofs.YtofjapcgbajmiaaGreatDoor
namespace Go.Proofs.YtofjapcgbajmiaaGreatDoor
open Go.RowKit
theorem row_slice {w : World} {B : Nat} {t : TypeId} {k : Nat} {v : Value} {n : Nat} {xs : List Value} (h : w.ownsRow B t k v n xs) : ∃ A c, v = .slice A n c := by
  rcases h.2 with ⟨hv, h0⟩ | ⟨g', cap, cur, hv, _, _, _⟩
  · exact ⟨none, 0, by rw [hv, h0]⟩
  · exact ⟨_, _, hv⟩
end Go.Proofs.YtofjapcgbajmiaaGreatDoor
namespace Go.Proofs.YtofjapcgbajmiaaGreatDoor
open Go.RowKit
def wcell (p : ProgD) (k : KeyD) : Value := .int .i64 (widthAt p k.h k.f)
set_option maxRecDepth 100000 in
set_option maxHeartbeats 8000000 in
theorem twidths_any (p : ProgD) (i : Nat) (hi : i < p.tables.l.length) (w : World) (o : ProgOk w p) (hc : ∀ t ∈ p.tables.l, (Lit.int .i64 t.defA).wf = true) (hf : TabFine p p.tables.l[i]) :
    Calls Tryz.prog 167 #[.agg (progCells p), .int .i64 i] w fun e w' => ∃ A c, e = .returned (.slice A p.tables.l[i].keys.l.length c) ∧ w'.ownsRow w.heap.size 3 1 (.slice A p.tables.l[i].keys.l.length c) p.tables.l[i].keys.l.length (p.tables.l[i].keys.l.map (wcell p)) ∧ Below w.heap.size w w' := by
  have HO := Lib.hid o
  obtain ⟨W, hW, hw, HB, hp⟩ := box1 w (progCells p) 31
  have HW := Lib.hid hw
  have hvl := fun u (hb : Below W.heap.size W u) => tvalid_any p i hi u (o.below (below_step hw hb)) hc hf.ok
  have hwd := fun h f u (hb : Below W.heap.size W u) => pwidth_any p h f u (o.below (below_step hw hb))
  have HK := Lib.hid ((o.tab _ (List.getElem_mem hi)).below hw).keys
  obtain ⟨g, of, hA, hq⟩ := TabD.atA (o.tables.below hw (Nat.le_refl _)) hi
  have hn1 : (i : Int) < (p.tables.l.length : Int) := by omega
  have h6 := hf.keys
  clear o hw hc hf
  generalize p.tables.l[i] = t at *
  obtain ⟨tn, ⟨kl, kA, kc⟩, ta, td, tg, tz⟩ := t
  simp only at hq HK h6 ⊢
  simp only [progCells, hA] at hp hW hvl hwd ⊢
  have HVl := Lib.hid hvl
  have HWd := Lib.hid hwd
  clear hA hvl hwd
  obtain ⟨i0, hi, hz0, hz1, hz2⟩ := info_parts Tryz.infoInt
  go_enter Tryz.func167, Tryz.ntmps167
  go_upto_region 1 with fail
  rw [← hW]
  clear hW
  have hp3 := hp W HB
  go_wp2_with fail
  refine (HVl.out _ (by first | exact HB | exact below_alloc HB _ | exact below_alloc (below_alloc HB _) _ | exact below_alloc (below_alloc (below_alloc HB _) _) _)).mono ?_
  rintro e w1 ⟨rfl, hbN⟩
  replace HB := below_step (by first | exact HB | exact below_alloc HB _ | exact below_alloc (below_alloc HB _) _ | exact below_alloc (below_alloc (below_alloc HB _) _) _) hbN
  clear hbN
  clear hp3
  have hp3 := hp _ HB
  have hq3 := hq _ HB
  have HB1 := Lib.hid HB
  go_wp2
  clear HB hp3 hq3
  go_loopw [5, 7, 19] (fun ov _ iv wr => ∃ (k : Nat) (A : Option Addr) (c : Nat), k ≤ kl.length ∧ iv = .int .i64 k ∧ ov = .slice A k c ∧ Hid (wr.ownsRow W.heap.size 3 1 (.slice A k c) k ((kl.take k).map (wcell p))) ∧ Below W.heap.size W wr)
    (fun _ _ i _ => kl.length - (intOf i).toNat)
  case atStart => exact ⟨0, none, 0, Nat.zero_le _, rfl, rfl, Lib.hid (World.ownsRow_nil _ _ _ _), HB1.out⟩
  case round =>
    obtain ⟨k, A, c, hk, rfl, rfl, HOw, HB⟩ := hrel
    by_cases hlt : k < kl.length
    · obtain ⟨g2, of2, hA2, d0, d1, d2⟩ := KeyD.at (HK.out.below HB (Nat.le_refl _)) hlt
      have HT : Hid ((kl.take (k + 1)).map (wcell p) = (kl.take k).map (wcell p) ++ [.int .i64 (widthAt p kl[k].h kl[k].f)]) := Lib.hid (by rw [take_snoc kl k hlt, List.map_append]; rfl)
      simp only at hA2 d0 d1 d2
      subst hA2
      generalize kl[k] = y at *
      obtain ⟨yh, yf, yk⟩ := y
      simp only at d0 d1 d2 HT
      have hp1 := hp wr HB
      have hca := @World.cell?_alloc_some
      have HBE := Lib.hid HB
      clear HB
      go_wp2_with fail
      refine (HWd.out yh yf _ (below_alloc HBE.out _)).mono ?_
      clear d0 d1 d2 hp1 hca
      rintro e w2 ⟨rfl, hb2⟩
      have hbel2 := below_step (below_alloc HBE.out _) hb2
      have hown2 := own_below HOw.out (below_step (below1 wr _) hb2)
      have hw2 := hbel2.size
      generalize widthAt p yh yf = wd at *
      clear hb2
      go_wp2_with (first
        | (at_builtin; refine wpList_append_own _ rfl _ _ 29 rfl W.heap.size 3 i0 _ 1 8 Tryz.underlying29 hi hz0 hz1 hz2 rfl (by decide) _ _ _ rfl (hown2.alloc _) ⟨w2.heap.size, 0, none⟩ 1 1 [.int .i64 wd] rfl rfl ?c1 ?c2 ?c3 ?c4 ?c5 ?_))
      case c1 => exact one_intw _ _ _
      case c2 => intro u hu; simp at hu; subst hu; rfl
      case c3 => unfold maxLen; omega
      case c4 => omega
      case c5 => simp; omega
      intro v' w3 hown3 hgrow _
      have hbw : Below W.heap.size W w3 := (below_alloc hbel2 _).grown hgrow (below_alloc hbel2 _).size fun j hj => (hown2.lt j hj).1
      obtain ⟨A', c', rfl⟩ := row_slice hown3
      have HO3 : Hid (w3.ownsRow W.heap.size 3 1 (.slice A' (k + 1) c') (k + 1) ((kl.take (k + 1)).map (wcell p))) := Lib.hid (by rw [HT.out, List.map_take]; exact hown3)
      clear hown3 hgrow hown2 HOw HT
      go_wp2
      go_roundw
      case rel => exact ⟨k + 1, A', c', by omega, by go_num, rfl, HO3, hbw⟩
      case measure => simp [intOf]; omega
    · have e : k = kl.length := by omega
      have HO1 : Hid (wr.ownsRow W.heap.size 3 1 (.slice A kl.length c) kl.length (kl.map (wcell p))) := Lib.hid (by have := HOw.out; rwa [e, List.take_length] at this)
      clear HOw
      subst e
      go_wp2
      go_ret
      exact ⟨A, c, rfl, own_weaken HW.out.size HO1.out, below_step HW.out HB⟩
end Go.Proofs.YtofjapcgbajmiaaGreatDoor
namespace Go.Proofs.YtofjapcgbajmiaaGreatDoor
open Go.RowKit
theorem tab_widths {p : ProgD} {t : TabD} (h3 : (tabM p t).2 = 0) : ∀ x ∈ t.keys.l, okW (widthAt p x.h x.f) = true := by
  unfold tabM at h3
  split at h3
  · cases h3
  split at h3
  · cases h3
  split at h3
  · cases h3
  split at h3
  · rename_i h7
    exact absurd h3 h7
  rename_i h7
  have h7' : (keysM p t.keys.l).2 = 0 := Classical.byContradiction h7
  intro x hx
  obtain ⟨j, hj, rfl⟩ := List.mem_iff_getElem.1 hx
  unfold keysM at h7'
  rcases hfe : firstE t.keys.l.length (keyAtM p t.keys.l) with _ | r
  · have h9 := firstE_inv hfe j hj
    rw [keyAtM_at p _ j hj] at h9
    split at h9
    · cases h9
    rename_i h10
    unfold widthAt at h10 ⊢
    split
    · assumption
    · rename_i h11
      rw [if_neg h11] at h10
      exact absurd rfl h10
  · exfalso
    rw [hfe] at h7'
    obtain ⟨i, hi, h9, _⟩ := firstE_ex hfe
    rw [keyAtM_at p _ i hi] at h9
    split at h9
    · cases h9; cases h7'
    split at h9
    · cases h9; cases h7'
    cases h9
theorem keyErr_at (p : ProgD) (ks : List KmD) (l : List KeyD) (i : Nat) (h1 : i < ks.length) (h2 : i < l.length) :
    keyErrM p ks l i = if keyChkM ks[i] l[i].kind (widthAt p l[i].h l[i].f) ≠ 0 then some (keyChkM ks[i] l[i].kind (widthAt p l[i].h l[i].f)) else none := by
  rw [keyErrM, List.getElem?_eq_getElem h1, List.getElem?_eq_getElem h2]
theorem KmD.atA {w : World} {x : L KmD} (h : LOk w 2 KmD.cells x) {i : Nat} (hi : i < x.l.length) :
    ∃ g o, x.A = some ⟨g, o, none⟩ ∧ ∀ w', Below w.heap.size w w' → w'.cell? ⟨g, o + i * 2, none⟩ = some (.int .u32 x.l[i].v) ∧ w'.cell? ⟨g, o + i * 2 + 1, none⟩ = some (.int .u32 x.l[i].m) := by
  obtain ⟨g, o, e, _, hc⟩ := h.at hi
  exact ⟨g, o, e, fun w' hb => ⟨below_cell hb (hc 0 (by omega)), below_cell hb (hc 1 (by omega))⟩⟩
theorem wcell_flat (p : ProgD) : ∀ (kl : List KeyD), kl.map (wcell p) = (kl.map fun k => widthAt p k.h k.f).flatMap icell
  | [] => rfl
  | a :: l => by rw [List.map_cons, List.map_cons, List.flatMap_cons, ← wcell_flat p l]; rfl
theorem widths_lok {p : ProgD} {kl : List KeyD} {w : World} {B : Nat} {A : Option Addr} {c : Nat} (h : w.ownsRow B 3 1 (.slice A kl.length c) kl.length (kl.map (wcell p))) : LOk w 1 icell ⟨kl.map (fun k => widthAt p k.h k.f), A, c⟩ := by
  have e2 : kl.length = (kl.map fun k => widthAt p k.h k.f).length := by rw [List.length_map]
  rw [wcell_flat, e2] at h
  obtain ⟨A', c', e3, _, h2, _⟩ := own_list (cells := icell) (fun _ => rfl) h
  rw [Value.slice.injEq] at e3
  obtain ⟨rfl, _, rfl⟩ := e3
  exact h2
@[reducible] def entCells (x : L KmD) (prio a : Int) (y : L Int) : Array Value := #[.slice x.A x.l.length x.c, .int .i64 prio, .int .i64 a, .slice y.A y.l.length y.c]
theorem ret_iO {a b : Int} (h : a = b) : Ending.returned (.int .i64 b) = .returned (.int .i64 a) := by rw [h]
set_option maxRecDepth 100000 in
set_option maxHeartbeats 16000000 in
theorem entCheck_any (p : ProgD) (i : Nat) (hi : i < p.tables.l.length) (x : L KmD) (prio a : Int) (y : L Int) (w : World) (o : ProgOk w p) (hc : ∀ t ∈ p.tables.l, (Lit.int .i64 t.defA).wf = true) (hf : TabFine p p.tables.l[i])
    (hx : LOk w 2 KmD.cells x) (hk : ∀ k ∈ x.l, (Lit.int .u32 k.v).wf = true ∧ (Lit.int .u32 k.m).wf = true) (hy : LOk w 1 ucell y) :
    Calls Tryz.prog 102 #[.agg (progCells p), .int .i64 i, .agg (entCells x prio a y)] w fun e w' => e = .returned (.int .i64 (entM p p.tables.l[i] x.l prio a y.l)) ∧ Below w.heap.size w w' := by
  obtain ⟨W, hW, hw, HB, hp⟩ := box2 w (progCells p) 31 (entCells x prio a y) 37
  have HW := Lib.hid hw
  have htc := fun u (hb : Below W.heap.size W u) => tableCheck_any p i hi u (o.below (below_step hw hb)) hc
  have htw := fun u (hb : Below W.heap.size W u) => twidths_any p i hi u (o.below (below_step hw hb)) hc hf
  have htk := fun u (hb : Below W.heap.size W u) => tkind_any p i hi u (o.below (below_step hw hb)) hc hf
  have hta := fun u (hb : Below W.heap.size W u) => tallows_any p i hi a u (o.below (below_step hw hb)) hc hf
  have hcc := fun u (hb : Below W.heap.size W u) => checkCall_any p a y u (o.below (below_step hw hb)) (hy.below (below_step hw hb) (Nat.le_refl _))
  have HK := Lib.hid ((o.tab _ (List.getElem_mem hi)).below hw).keys
  have HX := Lib.hid (hx.below hw (Nat.le_refl _))
  have HKW := Lib.hid hk
  obtain ⟨g, of, hA, hq⟩ := TabD.atA (o.tables.below hw (Nat.le_refl _)) hi
  have hn1 : (i : Int) < (p.tables.l.length : Int) := by omega
  have h6 := hf.keys
  have HWd := Lib.hid (tab_widths hf.ok)
  have hok := hf.ok
  clear o hw hc hf hx hk hy
  generalize p.tables.l[i] = t at *
  rw [hok] at htc
  generalize (tabM p t).1 = tz at *
  obtain ⟨tn, ⟨kl, kA, kc⟩, ta, td, tg, ts⟩ := t
  obtain ⟨xl, xA, xc⟩ := x
  simp only at hq HK HX HKW HWd h6 htw htk hta htc hp ⊢
  have HR := Lib.hid (entM.eq_1 p ⟨tn, ⟨kl, kA, kc⟩, ta, td, tg, ts⟩ xl prio a y.l)
  have HRm := Lib.hid (mayM.eq_1 p ⟨tn, ⟨kl, kA, kc⟩, ta, td, tg, ts⟩ a y.l)
  generalize mayM p ⟨tn, ⟨kl, kA, kc⟩, ta, td, tg, ts⟩ a y.l = mm at *
  simp only [progCells, entCells, hA] at hp hW htc htw htk hta hcc HR HRm ⊢
  generalize entM p ⟨tn, ⟨kl, kA, kc⟩, ta, td, tg, ts⟩ xl prio a y.l = R at *
  have HTc := Lib.hid htc
  have HTw := Lib.hid htw
  have HTk := Lib.hid htk
  have HTa := Lib.hid hta
  have HCc := Lib.hid hcc
  have hmx : xl.length ≤ 9223372036854775807 := HX.out.1
  clear hA htc htw htk hta hcc hok
  go_enter Tryz.func102, Tryz.ntmps102
  go_upto_region 1 with fail
  rw [← hW]
  clear hW
  have hp3 := (hp W HB).1
  have hp4 := (hp W HB).2
  go_wp2_with fail
  refine (HTc.out _ (by first | exact HB | exact below_alloc HB _ | exact below_alloc (below_alloc HB _) _ | exact below_alloc (below_alloc (below_alloc HB _) _) _)).mono ?_
  rintro e w1 ⟨rfl, hbN⟩
  replace HB := below_step (by first | exact HB | exact below_alloc HB _ | exact below_alloc (below_alloc HB _) _ | exact below_alloc (below_alloc (below_alloc HB _) _) _) hbN
  clear hbN
  clear hp3 hp4
  have hp3 := (hp _ HB).1
  have hq3 := hq _ HB
  go_upto_region 4 with fail
  have H0 := Lib.hid HB
  clear hp3 hq3 HB
  have hp5 := fun w' (h : Below W.heap.size W w') => (hp w' h).1
  go_cut [9, 10] from 23 to 32 (fun v9 v10 wr => ∃ wA wc, v9 = .slice kA kl.length kc ∧ v10 = .slice wA kl.length wc ∧ Hid (LOk wr 1 icell ⟨kl.map (fun k => widthAt p k.h k.f), wA, wc⟩) ∧ Hid (Below W.heap.size W wr))
  case first =>
    go_region_held3 (fun w' => Below W.heap.size W w') (first | exact H0.out | exact below_drew H0.out | (exact below_step (by assumption) (by assumption)) | assumption)
      (first | (go_at_call 167; refine (HTw.out _ (by assumption)).mono ?_; rintro e w2 ⟨wA, wc, rfl, hown, hb1⟩))
    all_goals
      have HB5 : Hid (Below W.heap.size W _) := Lib.hid (by assumption)
      have HWl := Lib.hid (widths_lok hown)
      clear hown
      go_wp2
      go_meet
      case rel => exact ⟨_, _, rfl, rfl, HWl, HB5⟩
  case rest =>
  obtain ⟨wA, wcp, rfl, rfl, HWl0, HB5⟩ := hcut
  obtain ⟨WL, hWL⟩ : ∃ WL : List Int, WL = kl.map fun k => widthAt p k.h k.f := ⟨_, rfl⟩
  have HWl : Hid (LOk wc 1 icell ⟨WL, wA, wcp⟩) := Lib.hid (by rw [hWL]; exact HWl0.out)
  have HWe := Lib.hid hWL
  clear hWL HTw H0 HWl0
  have hp3 := (hp wc HB5.out).2
  by_cases hlen : xl.length = kl.length
  case neg =>
    have hl' : ((xl.length : Int) != (kl.length : Int)) = true := bne_iff_ne.2 (by omega)
    replace HR := Lib.hid (HR.out.trans (if_pos hlen))
    clear hlen
    go_wp2
    go_ret
    exact ⟨ret_iO HR.out, below_step HW.out HB5.out⟩
  have hl' : ((kl.length : Int)) = (xl.length : Int) := by omega
  replace HR := Lib.hid (HR.out.trans (if_neg (fun h => h hlen)))
  have HL := Lib.hid hlen
  clear hlen
  go_wp2
  clear hp3
  go_loopw [11, 12, 13, 41] (fun _ _ _ iv wr => ∃ k : Nat, k ≤ xl.length ∧ iv = .int .i64 k ∧ Hid (∀ j, j < k → keyErrM p xl kl j = none) ∧ Below W.heap.size W wr ∧ Hid (Below wc.heap.size wc wr)) (fun _ _ _ i _ => xl.length - (intOf i).toNat)
  case atStart => exact ⟨0, Nat.zero_le _, rfl, Lib.hid (fun j h => absurd h (Nat.not_lt_zero _)), HB5.out, Lib.hid (Below.refl _ _)⟩
  case round =>
    obtain ⟨k, hk, rfl, HPre, HB, HB2⟩ := hrel
    by_cases hlt : k < xl.length
    · have hlk : k < kl.length := by have := HL.out; omega
      have hlw : k < WL.length := by have := HWe.out; rw [this, List.length_map]; exact hlk
      obtain ⟨gx, ox, hxA, hd⟩ := KmD.atA HX.out hlt
      obtain ⟨gk, okk, hkA, hkd⟩ := KeyD.atA HK.out hlk
      obtain ⟨gw, ow, hwA, hwd⟩ := icell_atA HWl.out hlw
      have HE := Lib.hid (keyErr_at p xl kl k hlt hlk)
      have HV := Lib.hid (HKW.out _ (List.getElem_mem hlt))
      have HWk := Lib.hid (HWd.out _ (List.getElem_mem hlk))
      have HWv : Hid (WL[k] = widthAt p kl[k].h kl[k].f) := Lib.hid (by
        have e : WL[k]? = (kl.map fun k => widthAt p k.h k.f)[k]? := by rw [HWe.out]
        rw [List.getElem?_eq_getElem hlw, List.getElem?_map, List.getElem?_eq_getElem hlk] at e
        simpa using e)
      simp only at hxA hkA hwA hd hkd hwd
      subst hxA hkA hwA
      rw [HWv.out] at hwd
      have hd0 := hd wr HB
      generalize xl[k] = x at *
      generalize kl[k] = y at *
      generalize widthAt p y.h y.f = wd at *
      have HC := Lib.hid (fun u => checkKey_any x y.kind wd u HWk.out HV.out.1 HV.out.2)
      generalize keyChkM x y.kind wd = ch at *
      obtain ⟨xv, xm⟩ := x
      obtain ⟨yh, yf, yk⟩ := y
      simp only at hd hkd HC hd0
      have HKs : Hid (∀ u, Below wr.heap.size wr u → u.cell? ⟨gk, okk + k * 3 + 2, none⟩ = some (.int .i64 yk) ∧ u.cell? ⟨gw, ow + k, none⟩ = some (.int .i64 wd)) := Lib.hid (fun u h => ⟨(hkd u (below_step HB h)).2.2, hwd u (below_step HB2.out h)⟩)
      clear hd hkd hwd HV HWk HWv
      obtain ⟨Y, hY⟩ : ∃ Y, Y = wr.alloc (.cells #[.int .u32 xv, .int .u32 xm] 68) := ⟨_, rfl⟩
      have HYB : Hid (Blk Y wr.heap.size 68 #[.int .u32 xv, .int .u32 xm]) := Lib.hid (by rw [hY]; exact Blk.new _ _ _)
      have HBY : Hid (Below wr.heap.size wr Y) := Lib.hid (by rw [hY]; exact below1 _ _)
      have hlwZ : (k : Int) < (kl.length : Int) := by omega
      have HBr := Lib.hid HB
      clear HB
      go_upto_region 10 with fail
      rw [← hY]
      clear hY hd0
      have H0 := Lib.hid (Below.refl Y.heap.size Y)
      have k0 := fun u (h : Below Y.heap.size Y u) => (HYB.out.below h HYB.out.lt).cell 0
      have k1 := fun u (h : Below Y.heap.size Y u) => (HYB.out.below h HYB.out.lt).cell 1
      have k2 := fun u (h : Below Y.heap.size Y u) => (HKs.out u (below_step HBY.out h)).1
      have k3 := fun u (h : Below Y.heap.size Y u) => (HKs.out u (below_step HBY.out h)).2
      go_region_held3 (fun w' => Below Y.heap.size Y w') (first | exact H0.out | exact below_drew H0.out | (exact below_step (by assumption) (by assumption)) | assumption)
        (first | (go_at_call 168; refine (HC.out _).mono ?_; rintro e w3 ⟨rfl, hb3⟩))
      have HB3 : Hid (Below Y.heap.size Y w3) := Lib.hid (by assumption)
      clear k0 k1 k2 k3
      by_cases hz : ch = 0
      · have HP2 := Lib.hid (firstE_step HPre.out (HE.out.trans (if_neg (fun h => h hz))))
        subst hz
        clear HE
        go_wp2
        go_roundw
        case rel => exact ⟨k + 1, by omega, by go_num, HP2, below_step HBr.out (below_step HBY.out HB3.out), Lib.hid (below_step HB2.out (below_step HBY.out HB3.out))⟩
        case measure => simp [intOf]; omega
      · have hz' : (ch != 0) = true := bne_iff_ne.2 hz
        have HR2 : Hid (R = ch) := Lib.hid (by rw [HR.out, firstE_some hlk HPre.out (HE.out.trans (if_pos hz))])
        clear hz HE
        go_wp2
        go_ret
        exact ⟨ret_iO HR2.out, below_step HW.out (below_step HBr.out (below_step HBY.out HB3.out))⟩
    · have e : k = kl.length := by have := HL.out; omega
      rw [e] at HPre
      have HR2 := HR.out
      rw [firstE_none HPre.out] at HR2
      replace HR := Lib.hid HR2
      clear HR2
      simp only at HR
      have HBr := Lib.hid HB
      have hp3 := (hp wr HB).1
      have hp4 := (hp wr HB).2
      clear e
      by_cases hp0 : prio < 0
      · replace HR := Lib.hid (HR.out.trans (if_pos (.inl hp0)))
        have e0 : decide (prio < 0) = true := decide_eq_true hp0
        go_wp2
        go_ret
        exact ⟨ret_iO HR.out, below_step HW.out HBr.out⟩
      have e0 : decide (prio < 0) = false := decide_eq_false hp0
      by_cases hp1 : 255 < prio
      · replace HR := Lib.hid (HR.out.trans (if_pos (.inr hp1)))
        have e1 : decide (255 < prio) = true := decide_eq_true hp1
        go_wp2
        go_ret
        exact ⟨ret_iO HR.out, below_step HW.out HBr.out⟩
      have e1 : decide (255 < prio) = false := decide_eq_false hp1
      replace HR := Lib.hid (HR.out.trans (if_neg (by rintro (h | h); exact hp0 h; exact hp1 h)))
      by_cases hz : prio = 0
      · have hz' : (prio != 0) = false := by rw [hz]; rfl
        replace HR := Lib.hid (HR.out.trans (if_neg (fun h => h.1 hz)))
        clear hp0 hp1 hz
        by_cases ha : a ∈ ta.l
        · rw [decide_eq_true ha] at HTa
          have HR2 := Lib.hid (HR.out.trans (HRm.out.trans (if_pos ha)))
          clear ha HR HRm
          generalize callM p a y.l = cm at *
          go_wp2_with fail
          refine (HTa.out _ (by first | exact HB | exact below_alloc HB _ | exact below_alloc (below_alloc HB _) _ | exact below_alloc (below_alloc (below_alloc HB _) _) _)).mono ?_
          rintro e w5 ⟨rfl, hbN⟩
          replace HB := below_step (by first | exact HB | exact below_alloc HB _ | exact below_alloc (below_alloc HB _) _ | exact below_alloc (below_alloc (below_alloc HB _) _) _) hbN
          clear hbN
          clear hp3 hp4
          have hp3 := (hp _ HB).1
          have hp4 := (hp _ HB).2
          go_wp2_with fail
          refine (HCc.out _ (by first | exact HB | exact below_alloc HB _ | exact below_alloc (below_alloc HB _) _ | exact below_alloc (below_alloc (below_alloc HB _) _) _)).mono ?_
          rintro e w6 ⟨rfl, hbN⟩
          replace HB := below_step (by first | exact HB | exact below_alloc HB _ | exact below_alloc (below_alloc HB _) _ | exact below_alloc (below_alloc (below_alloc HB _) _) _) hbN
          clear hbN
          go_wp2
          go_ret
          exact ⟨ret_iO HR2.out, below_step HW.out HB⟩
        · rw [decide_eq_false ha] at HTa
          have HR2 := Lib.hid (HR.out.trans (HRm.out.trans (if_neg ha)))
          clear ha HR HRm
          go_wp2_with fail
          refine (HTa.out _ (by first | exact HB | exact below_alloc HB _ | exact below_alloc (below_alloc HB _) _ | exact below_alloc (below_alloc (below_alloc HB _) _) _)).mono ?_
          rintro e w5 ⟨rfl, hbN⟩
          replace HB := below_step (by first | exact HB | exact below_alloc HB _ | exact below_alloc (below_alloc HB _) _ | exact below_alloc (below_alloc (below_alloc HB _) _) _) hbN
          clear hbN
          go_wp2
          go_ret
          exact ⟨ret_iO HR2.out, below_step HW.out HB⟩
      have hz' : (prio != 0) = true := bne_iff_ne.2 hz
      by_cases hk3 : kindT kl = 3
      · replace HR := Lib.hid (HR.out.trans (if_neg (fun h => h.2 hk3)))
        rw [hk3] at HTk
        clear hp0 hp1 hz hk3
        go_wp2_with fail
        refine (HTk.out _ (by first | exact HB | exact below_alloc HB _ | exact below_alloc (below_alloc HB _) _ | exact below_alloc (below_alloc (below_alloc HB _) _) _)).mono ?_
        rintro e w4 ⟨rfl, hbN⟩
        replace HB := below_step (by first | exact HB | exact below_alloc HB _ | exact below_alloc (below_alloc HB _) _ | exact below_alloc (below_alloc (below_alloc HB _) _) _) hbN
        clear hbN
        clear hp3 hp4
        have hp3 := (hp _ HB).1
        have hp4 := (hp _ HB).2
        by_cases ha : a ∈ ta.l
        · rw [decide_eq_true ha] at HTa
          have HR2 := Lib.hid (HR.out.trans (HRm.out.trans (if_pos ha)))
          clear ha HR HRm
          generalize callM p a y.l = cm at *
          go_wp2_with fail
          refine (HTa.out _ (by first | exact HB | exact below_alloc HB _ | exact below_alloc (below_alloc HB _) _ | exact below_alloc (below_alloc (below_alloc HB _) _) _)).mono ?_
          rintro e w5 ⟨rfl, hbN⟩
          replace HB := below_step (by first | exact HB | exact below_alloc HB _ | exact below_alloc (below_alloc HB _) _ | exact below_alloc (below_alloc (below_alloc HB _) _) _) hbN
          clear hbN
          clear hp3 hp4
          have hp3 := (hp _ HB).1
          have hp4 := (hp _ HB).2
          go_wp2_with fail
          refine (HCc.out _ (by first | exact HB | exact below_alloc HB _ | exact below_alloc (below_alloc HB _) _ | exact below_alloc (below_alloc (below_alloc HB _) _) _)).mono ?_
          rintro e w6 ⟨rfl, hbN⟩
          replace HB := below_step (by first | exact HB | exact below_alloc HB _ | exact below_alloc (below_alloc HB _) _ | exact below_alloc (below_alloc (below_alloc HB _) _) _) hbN
          clear hbN
          go_wp2
          go_ret
          exact ⟨ret_iO HR2.out, below_step HW.out HB⟩
        · rw [decide_eq_false ha] at HTa
          have HR2 := Lib.hid (HR.out.trans (HRm.out.trans (if_neg ha)))
          clear ha HR HRm
          go_wp2_with fail
          refine (HTa.out _ (by first | exact HB | exact below_alloc HB _ | exact below_alloc (below_alloc HB _) _ | exact below_alloc (below_alloc (below_alloc HB _) _) _)).mono ?_
          rintro e w5 ⟨rfl, hbN⟩
          replace HB := below_step (by first | exact HB | exact below_alloc HB _ | exact below_alloc (below_alloc HB _) _ | exact below_alloc (below_alloc (below_alloc HB _) _) _) hbN
          clear hbN
          go_wp2
          go_ret
          exact ⟨ret_iO HR2.out, below_step HW.out HB⟩
      · replace HR := Lib.hid (HR.out.trans (if_pos ⟨hz, hk3⟩))
        have hk3' : (kindT kl != 3) = true := bne_iff_ne.2 hk3
        generalize kindT kl = kt at *
        clear hp0 hp1 hz hk3
        go_wp2_with fail
        refine (HTk.out _ (by first | exact HB | exact below_alloc HB _ | exact below_alloc (below_alloc HB _) _ | exact below_alloc (below_alloc (below_alloc HB _) _) _)).mono ?_
        rintro e w4 ⟨rfl, hbN⟩
        replace HB := below_step (by first | exact HB | exact below_alloc HB _ | exact below_alloc (below_alloc HB _) _ | exact below_alloc (below_alloc (below_alloc HB _) _) _) hbN
        clear hbN
        go_wp2
        go_ret
        exact ⟨ret_iO HR.out, below_step HW.out HB⟩
end Go.Proofs.YtofjapcgbajmiaaGreatDoor
namespace Go.Proofs.YtofjapcgbajmiaaGreatDoor
open Go.RowKit
set_option maxRecDepth 100000 in
set_option maxHeartbeats 4000000 in
theorem ochkCall_any (p : ProgD) (i : Nat) (hi : i < p.tables.l.length) (a : Int) (y : L Int) (w : World) (o : ProgOk w p) (hc : ∀ t ∈ p.tables.l, (Lit.int .i64 t.defA).wf = true) (hf : TabFine p p.tables.l[i]) (hy : LOk w 1 ucell y) :
    Calls Tryz.prog 103 #[.agg (progCells p), .int .i64 i, .agg #[.int .i64 a, .slice y.A y.l.length y.c]] w fun e w' => e = .returned (.int .i64 (mayM p p.tables.l[i] a y.l)) ∧ Below w.heap.size w w' := by
  obtain ⟨W, hW, hw, HB, hp⟩ := box2 w (progCells p) 31 #[.int .i64 a, .slice y.A y.l.length y.c] 35
  have HW := Lib.hid hw
  have HTa := Lib.hid (fun u (hb : Below W.heap.size W u) => tallows_any p i hi a u (o.below (below_step hw hb)) hc hf)
  have HCc := Lib.hid (fun u (hb : Below W.heap.size W u) => checkCall_any p a y u (o.below (below_step hw hb)) (hy.below (below_step hw hb) (Nat.le_refl _)))
  have HR := Lib.hid (mayM.eq_1 p p.tables.l[i] a y.l)
  generalize mayM p p.tables.l[i] a y.l = R at *
  clear o hw hc hf hy
  by_cases hm : a ∈ p.tables.l[i].acts.l
  · rw [decide_eq_true hm] at HTa
    replace HR := Lib.hid (HR.out.trans (if_pos hm))
    clear hm
    generalize callM p a y.l = cm at *
    go_enter Tryz.func103, Tryz.ntmps103
    go_upto_region 1 with fail
    rw [← hW]
    clear hW
    have hp3 := (hp W HB).1
    have hp4 := (hp W HB).2
    go_wp2_with fail
    refine (HTa.out _ (by first | exact HB | exact below_alloc HB _ | exact below_alloc (below_alloc HB _) _ | exact below_alloc (below_alloc (below_alloc HB _) _) _)).mono ?_
    rintro e w1 ⟨rfl, hbN⟩
    replace HB := below_step (by first | exact HB | exact below_alloc HB _ | exact below_alloc (below_alloc HB _) _ | exact below_alloc (below_alloc (below_alloc HB _) _) _) hbN
    clear hbN
    clear hp3 hp4
    have hp3 := (hp _ HB).1
    have hp4 := (hp _ HB).2
    go_wp2_with fail
    refine (HCc.out _ (by first | exact HB | exact below_alloc HB _ | exact below_alloc (below_alloc HB _) _ | exact below_alloc (below_alloc (below_alloc HB _) _) _)).mono ?_
    rintro e w2 ⟨rfl, hbN⟩
    replace HB := below_step (by first | exact HB | exact below_alloc HB _ | exact below_alloc (below_alloc HB _) _ | exact below_alloc (below_alloc (below_alloc HB _) _) _) hbN
    clear hbN
    go_wp2
    go_ret
    exact ⟨ret_iO HR.out, below_step HW.out HB⟩
  · rw [decide_eq_false hm] at HTa
    replace HR := Lib.hid (HR.out.trans (if_neg hm))
    clear hm
    go_enter Tryz.func103, Tryz.ntmps103
    go_upto_region 1 with fail
    rw [← hW]
    clear hW
    have hp3 := (hp W HB).1
    have hp4 := (hp W HB).2
    go_wp2_with fail
    refine (HTa.out _ (by first | exact HB | exact below_alloc HB _ | exact below_alloc (below_alloc HB _) _ | exact below_alloc (below_alloc (below_alloc HB _) _) _)).mono ?_
    rintro e w1 ⟨rfl, hbN⟩
    replace HB := below_step (by first | exact HB | exact below_alloc HB _ | exact below_alloc (below_alloc HB _) _ | exact below_alloc (below_alloc (below_alloc HB _) _) _) hbN
    clear hbN
    go_wp2
    go_ret
    exact ⟨ret_iO HR.out, below_step HW.out HB⟩
set_option maxRecDepth 100000 in
set_option maxHeartbeats 8000000 in
theorem ocheck_any (p : ProgD) (x : OpD) (w : World) (o : ProgOk w p) (hck : checkM p = none) (hc : ∀ t ∈ p.tables.l, (Lit.int .i64 t.defA).wf = true) (hx : OpOk w x) (hf : OpFine x.bare) :
    Calls Tryz.prog 44 #[.agg (progCells p), .agg (opCells x)] w fun e w' => e = .returned (.int .i64 (opChk p x.bare)) ∧ Below w.heap.size w w' := by
  obtain ⟨W, hW, hw, HB, hp⟩ := box2 w (progCells p) 31 (opCells x) 39
  have HW := Lib.hid hw
  have HR := Lib.hid (opChk.eq_1 p x.bare)
  have HEc := Lib.hid (fun i (hi : i < p.tables.l.length) u (hb : Below W.heap.size W u) => entCheck_any p i hi x.keys x.prio x.ea x.eargs u (o.below (below_step hw hb)) hc (tab_fine hck hi) (hx.keys.below (below_step hw hb) (Nat.le_refl _)) hf.keys (hx.eargs.below (below_step hw hb) (Nat.le_refl _)))
  have HCc := Lib.hid (fun i (hi : i < p.tables.l.length) u (hb : Below W.heap.size W u) => ochkCall_any p i hi x.ca x.cargs u (o.below (below_step hw hb)) hc (tab_fine hck hi) (hx.cargs.below (below_step hw hb) (Nat.le_refl _)))
  have hmt := o.tables.1
  unfold maxLen at hmt
  generalize opChk p x.bare = R at *
  clear o hw hck hc hx hf
  obtain ⟨kd, tb, id, ks, pr, ea, eg, ca, cg⟩ := x
  simp only [OpD.bare] at HR HEc HCc
  unfold entCells at HEc
  by_cases h1 : kd < 1
  · replace HR := Lib.hid (HR.out.trans (if_pos (.inl h1)))
    have e1 : decide (kd < 1) = true := decide_eq_true h1
    go_enter Tryz.func44, Tryz.ntmps44
    go_upto_region 1 with fail
    rw [← hW]
    clear hW
    have hp3 := (hp W HB).1
    have hp4 := (hp W HB).2
    go_wp2
    go_ret
    exact ⟨ret_iO HR.out, below_step HW.out HB⟩
  have e1 : decide (kd < 1) = false := decide_eq_false h1
  by_cases h2 : 4 < kd
  · replace HR := Lib.hid (HR.out.trans (if_pos (.inr h2)))
    have e2 : decide (4 < kd) = true := decide_eq_true h2
    go_enter Tryz.func44, Tryz.ntmps44
    go_upto_region 1 with fail
    rw [← hW]
    clear hW
    have hp3 := (hp W HB).1
    have hp4 := (hp W HB).2
    go_wp2
    go_ret
    exact ⟨ret_iO HR.out, below_step HW.out HB⟩
  have e2 : decide (4 < kd) = false := decide_eq_false h2
  replace HR := Lib.hid (HR.out.trans (if_neg (by rintro (h | h); exact h1 h; exact h2 h)))
  by_cases h3 : tb < 0
  · replace HR := Lib.hid (HR.out.trans (if_pos h3))
    have e3 : decide (tb < 0) = true := decide_eq_true h3
    go_enter Tryz.func44, Tryz.ntmps44
    go_upto_region 1 with fail
    rw [← hW]
    clear hW
    have hp3 := (hp W HB).1
    have hp4 := (hp W HB).2
    go_wp2
    go_ret
    exact ⟨ret_iO HR.out, below_step HW.out HB⟩
  have e3 : decide (tb < 0) = false := decide_eq_false h3
  replace HR := Lib.hid (HR.out.trans (if_neg h3))
  obtain ⟨i, rfl⟩ : ∃ i : Nat, tb = i := ⟨tb.toNat, by omega⟩
  simp only [Int.toNat_natCast] at HR
  by_cases h4 : i < p.tables.l.length
  case neg =>
    have e4 : decide (p.tables.l.length ≤ i) = true := decide_eq_true (by omega)
    rw [List.getElem?_eq_none (by omega)] at HR
    simp only at HR
    go_enter Tryz.func44, Tryz.ntmps44
    go_upto_region 1 with fail
    rw [← hW]
    clear hW
    have hp3 := (hp W HB).1
    have hp4 := (hp W HB).2
    go_wp2
    go_ret
    exact ⟨ret_iO HR.out, below_step HW.out HB⟩
  have e4 : decide (p.tables.l.length ≤ i) = false := decide_eq_false (by omega)
  rw [List.getElem?_eq_getElem h4] at HR
  simp only at HR
  replace HEc := Lib.hid (HEc.out i h4)
  replace HCc := Lib.hid (HCc.out i h4)
  generalize p.tables.l[i] = t at *
  by_cases h5 : kd = 1
  · replace HR := Lib.hid (HR.out.trans (if_pos h5))
    generalize entM p t ks.l pr ea eg.l = em at *
    subst h5
    clear h1 h2 h3 h4 e1 e2
    go_enter Tryz.func44, Tryz.ntmps44
    go_upto_region 1 with fail
    rw [← hW]
    clear hW
    have hp3 := (hp W HB).1
    have hp4 := (hp W HB).2
    go_wp2_with fail
    refine (HEc.out _ (by first | exact HB | exact below_alloc HB _ | exact below_alloc (below_alloc HB _) _ | exact below_alloc (below_alloc (below_alloc HB _) _) _)).mono ?_
    rintro e w2 ⟨rfl, hbN⟩
    replace HB := below_step (by first | exact HB | exact below_alloc HB _ | exact below_alloc (below_alloc HB _) _ | exact below_alloc (below_alloc (below_alloc HB _) _) _) hbN
    clear hbN
    go_wp2
    go_ret
    exact ⟨ret_iO HR.out, below_step HW.out HB⟩
  have e5 : (kd == 1) = false := beq_eq_false_iff_ne.2 h5
  replace HR := Lib.hid (HR.out.trans (if_neg h5))
  generalize mayM p t ca cg.l = mm at *
  by_cases h6 : kd = 4
  · replace HR := Lib.hid (HR.out.trans ((if_neg (fun h => h.1 h6)).trans (if_neg (by omega))))
    subst h6
    clear h1 h2 h3 h4 h5 e1 e2 e5
    go_enter Tryz.func44, Tryz.ntmps44
    go_upto_region 1 with fail
    rw [← hW]
    clear hW
    have hp3 := (hp W HB).1
    have hp4 := (hp W HB).2
    go_wp2_with fail
    refine (HCc.out _ (by first | exact HB | exact below_alloc HB _ | exact below_alloc (below_alloc HB _) _ | exact below_alloc (below_alloc (below_alloc HB _) _) _)).mono ?_
    rintro e w2 ⟨rfl, hbN⟩
    replace HB := below_step (by first | exact HB | exact below_alloc HB _ | exact below_alloc (below_alloc HB _) _ | exact below_alloc (below_alloc (below_alloc HB _) _) _) hbN
    clear hbN
    go_wp2
    go_ret
    exact ⟨ret_iO HR.out, below_step HW.out HB⟩
  have e6 : (kd != 4) = true := bne_iff_ne.2 h6
  by_cases h7 : id < 1
  · replace HR := Lib.hid (HR.out.trans (if_pos ⟨h6, .inl h7⟩))
    have e7 : decide (id < 1) = true := decide_eq_true h7
    clear h1 h2 h3 h4 h5 h6 h7
    go_enter Tryz.func44, Tryz.ntmps44
    go_upto_region 1 with fail
    rw [← hW]
    clear hW
    have hp3 := (hp W HB).1
    have hp4 := (hp W HB).2
    go_wp2
    go_ret
    exact ⟨ret_iO HR.out, below_step HW.out HB⟩
  have e7 : decide (id < 1) = false := decide_eq_false h7
  by_cases h8 : 1073741824 < id
  · replace HR := Lib.hid (HR.out.trans (if_pos ⟨h6, .inr h8⟩))
    have e8 : decide (1073741824 < id) = true := decide_eq_true h8
    clear h1 h2 h3 h4 h5 h6 h7 h8
    go_enter Tryz.func44, Tryz.ntmps44
    go_upto_region 1 with fail
    rw [← hW]
    clear hW
    have hp3 := (hp W HB).1
    have hp4 := (hp W HB).2
    go_wp2
    go_ret
    exact ⟨ret_iO HR.out, below_step HW.out HB⟩
  have e8 : decide (1073741824 < id) = false := decide_eq_false h8
  replace HR := Lib.hid (HR.out.trans (if_neg (by rintro ⟨_, h | h⟩; exact h7 h; exact h8 h)))
  clear h7 h8 h1 h2 h3 h4
  by_cases h9 : kd = 3
  · replace HR := Lib.hid (HR.out.trans (if_pos h9))
    subst h9
    clear h5 h6 e1 e2 e5 e6
    go_enter Tryz.func44, Tryz.ntmps44
    go_upto_region 1 with fail
    rw [← hW]
    clear hW
    have hp3 := (hp W HB).1
    have hp4 := (hp W HB).2
    go_wp2
    go_ret
    exact ⟨ret_iO HR.out, below_step HW.out HB⟩
  · replace HR := Lib.hid (HR.out.trans (if_neg h9))
    have e9 : (kd != 3) = true := bne_iff_ne.2 h9
    clear h5 h6 h9
    go_enter Tryz.func44, Tryz.ntmps44
    go_upto_region 1 with fail
    rw [← hW]
    clear hW
    have hp3 := (hp W HB).1
    have hp4 := (hp W HB).2
    go_wp2_with fail
    refine (HCc.out _ (by first | exact HB | exact below_alloc HB _ | exact below_alloc (below_alloc HB _) _ | exact below_alloc (below_alloc (below_alloc HB _) _) _)).mono ?_
    rintro e w2 ⟨rfl, hbN⟩
    replace HB := below_step (by first | exact HB | exact below_alloc HB _ | exact below_alloc (below_alloc HB _) _ | exact below_alloc (below_alloc (below_alloc HB _) _) _) hbN
    clear hbN
    go_wp2
    go_ret
    exact ⟨ret_iO HR.out, below_step HW.out HB⟩
end Go.Proofs.YtofjapcgbajmiaaGreatDoor
namespace Go.Proofs.YtofjapcgbajmiaaGreatDoor
open Go.RowKit
theorem tx_eq (l : List UInt8) (s : ByteArray) : (l == s.toList) = decide (l = s.data.toList) := by
  rw [toList_data, Bool.eq_iff_iff, beq_iff_eq, decide_eq_true_iff]
theorem wrap_nat {i : Nat} (h : i ≤ 9223372036854775806) : IntKind.i64.wrap ((i : Int) + 1) = ((i + 1 : Nat) : Int) := by
  rw [IntWalk.i64_in _ (by omega)]; rfl
theorem tk_text (a b c d : Value) (w : World) : (Instr.field 191 (.agg #[a, b, c, d]) 1).run Tryz.prog w = .ok b w := by kernel_rfl
theorem tk_value (a b c d : Value) (w : World) : (Instr.field 191 (.agg #[a, b, c, d]) 2).run Tryz.prog w = .ok c w := by kernel_rfl
theorem put4 {w : World} {k : Nat} {ty : TypeId} {a b c d : Value} (h : Blk w k ty #[a, b, c, d]) (x y z u : Value) :
    Blk ((((w.setCell ⟨k, 0, none⟩ x).setCell ⟨k, 1, none⟩ y).setCell ⟨k, 2, none⟩ z).setCell ⟨k, 3, none⟩ u) k ty #[x, y, z, u] := (((h.set_ 0 x).set_ 1 y).set_ 2 z).set_ 3 u
theorem put4_below {w w1 : World} {B k : Nat} (hb : Below B w w1) (hk : B ≤ k) (x y z u : Value) :
    Below B w ((((w1.setCell ⟨k, 0, none⟩ x).setCell ⟨k, 1, none⟩ y).setCell ⟨k, 2, none⟩ z).setCell ⟨k, 3, none⟩ u) := (((hb.setCell hk _).setCell hk _).setCell hk _).setCell hk _
end Go.Proofs.YtofjapcgbajmiaaGreatDoor
namespace Go.Proofs.YtofjapcgbajmiaaGreatDoor
open Go.RowKit
structure Gro (w w' : World) (a b : Nat) : Prop where
  os : w'.os = w.os
  tape : w'.tape = w.tape
  output : w'.output = w.output
  size : w.heap.size ≤ w'.heap.size
  block : ∀ k, k < w.heap.size → k ≠ a → k ≠ b → w'.heap[k]? = w.heap[k]?
theorem Gro.refl (w : World) (a b : Nat) : Gro w w a b := ⟨rfl, rfl, rfl, Nat.le_refl _, fun _ _ _ _ => rfl⟩
theorem Gro.trans {u v w : World} {a b : Nat} (h : Gro u v a b) (h2 : Gro v w a b) : Gro u w a b :=
  ⟨h2.os.trans h.os, h2.tape.trans h.tape, h2.output.trans h.output, Nat.le_trans h.size h2.size, fun k hk h1 h3 => (h2.block k (Nat.lt_of_lt_of_le hk h.size) h1 h3).trans (h.block k hk h1 h3)⟩
theorem Gro.of {u v : World} (h : Below u.heap.size u v) (a b : Nat) : Gro u v a b := ⟨h.os, h.tape, h.output, h.size, fun i hi _ _ => h.block i hi⟩
theorem Gro.below {u v w : World} {a b : Nat} (h : Gro u v a b) (hb : Below v.heap.size v w) : Gro u w a b := h.trans (.of hb a b)
theorem Gro.set {u v : World} {a b k : Nat} (h : Gro u v a b) (hk : k = a ∨ k = b ∨ u.heap.size ≤ k) (j : Nat) (x : Value) : Gro u (v.setCell ⟨k, j, none⟩ x) a b := by
  refine ⟨h.os, h.tape, h.output, by have := h.size; simpa using this, fun i hi h1 h2 => ?_⟩
  rw [← h.block i hi h1 h2]
  refine Below.heap_setCell v ⟨k, j, none⟩ x i (show i ≠ k from ?_)
  omega
theorem Gro.drewN {u v : World} {a b : Nat} (h : Gro u v a b) (n : Nat) : Gro u (v.drewN n) a b := ⟨h.os, h.tape, h.output, h.size, h.block⟩
theorem Gro.drew {u v : World} {a b : Nat} (h : Gro u v a b) : Gro u v.drew a b := ⟨h.os, h.tape, h.output, h.size, h.block⟩
theorem Gro.base {W w w' : World} {a b : Nat} (h : Below W.heap.size W w) (hg : Gro w w' a b) (ha : W.heap.size ≤ a) (hb : W.heap.size ≤ b) : Below W.heap.size W w' := by
  have hblk : ∀ i, i < W.heap.size → w'.heap[i]? = W.heap[i]? := fun i hi => (hg.block i (Nat.lt_of_lt_of_le hi h.size) (by omega) (by omega)).trans (h.block i hi)
  exact ⟨hg.os.trans h.os, hg.tape.trans h.tape, hg.output.trans h.output, Nat.le_trans h.size hg.size, hblk⟩
theorem Gro.blk {w w' : World} {a b k : Nat} {t : TypeId} {cs : Array Value} (h : Blk w k t cs) (hg : Gro w w' a b) (h1 : k ≠ a) (h2 : k ≠ b) : Blk w' k t cs := (hg.block k h.lt h1 h2).trans h
structure OR where
  gR : Nat
  gA : Nat
  gL : Nat
  x : L Tk
  p : ProgD
def nextF (r : OR) : Value := .func (.func 128) #[] #[.pointer (some ⟨r.gA, 0, none⟩), .pointer (some ⟨r.gL, 0, none⟩)]
def stepF (r : OR) : Value := .func (.func 129) #[] #[.pointer (some ⟨r.gA, 0, none⟩)]
@[reducible] def orCells (r : OR) (e : Nat) : Array Value := #[.string r.p.name, .slice r.p.headers.A r.p.headers.l.length r.p.headers.c, .slice r.p.metadata.A r.p.metadata.l.length r.p.metadata.c,
  .slice r.p.registers.A r.p.registers.l.length r.p.registers.c, .slice r.p.actions.A r.p.actions.l.length r.p.actions.c, .slice r.p.tables.A r.p.tables.l.length r.p.tables.c,
  .slice r.p.states.A r.p.states.l.length r.p.states.c, .slice r.p.control.A r.p.control.l.length r.p.control.c, .slice r.p.deparser.A r.p.deparser.l.length r.p.deparser.c, nextF r, stepF r, .int .i64 e]
structure OEnv (W : World) (r : OR) : Prop where
  toks : LOk W 4 tkL r.x
  ok : ∀ t ∈ r.x.l, TkOk t
  few : r.x.l.length ≤ 4096
  prog : ProgOk W r.p
  a : W.heap.size ≤ r.gA
  l : W.heap.size ≤ r.gL
  rr : W.heap.size ≤ r.gR
  ar : r.gA ≠ r.gR
  la : r.gL ≠ r.gA
  lr : r.gL ≠ r.gR
def Stands (n : Nat) (at_ e : Nat) : PS → Prop
  | .ok i => at_ = i ∧ e = 0 ∧ i ≤ n
  | .bad x => e = x ∧ x ≠ 0 ∧ x < 100
structure OSt (W w0 w : World) (r : OR) (s : PS) : Prop where
  ex : ∃ at_ e : Nat, Blk w r.gR 125 (orCells r e) ∧ Blk w r.gA 3 #[.int .i64 at_] ∧ at_ ≤ 5000 ∧ Stands r.x.l.length at_ e s
  lb : Blk w r.gL 117 #[.slice r.x.A r.x.l.length r.x.c]
  gr : Gro w0 w r.gR r.gA
  base : Below W.heap.size W w
theorem OSt.refl {W w0 w : World} {r : OR} {s : PS} (h : OSt W w0 w r s) : OSt W w w r s := ⟨h.ex, h.lb, .refl _ _ _, h.base⟩
theorem OSt.below {W w0 w w' : World} {r : OR} {s : PS} (h : OSt W w0 w r s) (hb : Below w.heap.size w w') : OSt W w0 w' r s := by
  obtain ⟨a, e, h1, h2, h3⟩ := h.ex
  refine ⟨⟨a, e, h1.below hb h1.lt, h2.below hb h2.lt, h3⟩, h.lb.below hb h.lb.lt, h.gr.below hb, ?_⟩
  exact h.base.trans (hb.mono h.base.size)
theorem OSt.then {W w0 w w' : World} {r : OR} {s s' : PS} (h : OSt W w0 w r s) (h2 : OSt W w w' r s') : OSt W w0 w' r s' := ⟨h2.ex, h2.lb, h.gr.trans h2.gr, h2.base⟩
theorem OSt.set {W w0 w : World} {r : OR} {s : PS} (h : OSt W w0 w r s) {k : Nat} (hk : w0.heap.size ≤ k) (hW : W.heap.size ≤ k) (h1 : k ≠ r.gR) (h2 : k ≠ r.gA) (h3 : k ≠ r.gL) (j : Nat) (v : Value) : OSt W w0 (w.setCell ⟨k, j, none⟩ v) r s := by
  obtain ⟨a, e, b1, b2, b3⟩ := h.ex
  exact ⟨⟨a, e, b1.far (Ne.symm h1) v, b2.far (Ne.symm h2) v, b3⟩, h.lb.far (Ne.symm h3) v, h.gr.set (.inr (.inr hk)) j v, h.base.setCell hW v⟩
theorem OSt.drewN {W w0 w : World} {r : OR} {s : PS} (h : OSt W w0 w r s) (n : Nat) : OSt W w0 (w.drewN n) r s := h.below (below_drewN (Below.refl _ _) n)
theorem nxt_in {ts : List Tk} {i : Nat} (h : i < ts.length) : nxt ts i = ts[i] := by simp [nxt, h]
theorem nxt_out {ts : List Tk} {i : Nat} (h : ts.length ≤ i) : nxt ts i = Tk.zero := by simp [nxt, h]
@[reducible] def tkA (t : Tk) : Array Value := #[.int .i64 t.kind, .string ⟨t.text.toArray⟩, .int .u32 t.value, .int .i64 t.line]
set_option maxRecDepth 100000 in
set_option maxHeartbeats 2000000 in
theorem onext_any (x : L Tk) (i gA gL : Nat) (w : World) (hx : LOk w 4 tkL x) (hA : Blk w gA 3 #[.int .i64 i]) (hL : Blk w gL 117 #[.slice x.A x.l.length x.c]) :
    Calls Tryz.prog 128 #[.pointer (some ⟨gA, 0, none⟩), .pointer (some ⟨gL, 0, none⟩)] w fun r w' => r = .returned (.agg (tkA (nxt x.l i))) ∧ Below w.heap.size w w' := by
  have hm := hx.1
  unfold maxLen at hm
  obtain ⟨V, hV⟩ : ∃ V, V = w.alloc (.cells #[.int .i64 0, .string ⟨#[]⟩, .int .u32 0, .int .i64 0] 191) := ⟨_, rfl⟩
  have HV : Hid (Blk V w.heap.size 191 #[.int .i64 0, .string ⟨#[]⟩, .int .u32 0, .int .i64 0]) := Lib.hid (by rw [hV]; exact Blk.new _ _ _)
  have HwV : Hid (Below w.heap.size w V) := Lib.hid (by rw [hV]; exact below1 _ _)
  have c0 : V.cell? ⟨gA, 0, none⟩ = some (.int .i64 i) := (hA.below HwV.out hA.lt).cell 0
  have c1 : V.cell? ⟨gL, 0, none⟩ = some (.slice x.A x.l.length x.c) := (hL.below HwV.out hL.lt).cell 0
  have g0 : V.frozen? ⟨w.heap.size, 0, none⟩ = false := HV.out.frozen 0
  have g1 : V.frozen? ⟨w.heap.size, 1, none⟩ = false := HV.out.frozen 1
  have g2 : V.frozen? ⟨w.heap.size, 2, none⟩ = false := HV.out.frozen 2
  have g3 : V.frozen? ⟨w.heap.size, 3, none⟩ = false := HV.out.frozen 3
  have r0 : V.cell? ⟨w.heap.size, 0, none⟩ = some (.int .i64 0) := HV.out.cell 0
  have r1 : V.cell? ⟨w.heap.size, 1, none⟩ = some (.string ⟨#[]⟩) := HV.out.cell 1
  have r2 : V.cell? ⟨w.heap.size, 2, none⟩ = some (.int .u32 0) := HV.out.cell 2
  have r3 : V.cell? ⟨w.heap.size, 3, none⟩ = some (.int .i64 0) := HV.out.cell 3
  by_cases hlt : i < x.l.length
  · obtain ⟨g, of, hAx, hq⟩ := TkD.atA hx hlt
    obtain ⟨d0, d1, d2, d3⟩ := hq V HwV.out
    have HR := Lib.hid (nxt_in hlt)
    rw [HR.out]
    clear hq HR
    rw [hAx] at c1
    generalize x.l[i] = t at *
    obtain ⟨tk, tx, tv, tl⟩ := t
    simp only at d0 d1 d2 d3 ⊢
    have hi' : (i : Int) < (x.l.length : Int) := by omega
    clear hA hL hx hAx
    go_enter Tryz.func128, Tryz.ntmps128
    go_upto_region 1 with fail
    rw [← hV]
    clear hV
    go_wp2
    refine bodyPost_ret (v := .agg (tkA ⟨tk, tx, tv, tl⟩)) ?_ rfl ?_
    · exact results_cell_row (fn := Tryz.f128) (p := 2) (ty := 191) rfl _ _ w.heap.size 191 (tkA ⟨tk, tx, tv, tl⟩) (0, 0) _ rfl (put4 HV.out _ _ _ _) Tryz.underlying191 rfl (by kernel_rfl)
    · exact ⟨rfl, put4_below HwV.out (Nat.le_refl _) _ _ _ _⟩
  · have HR := Lib.hid (nxt_out (ts := x.l) (i := i) (by omega))
    rw [HR.out]
    clear HR
    have hi' : ¬ (i : Int) < (x.l.length : Int) := by omega
    clear hA hL hx
    go_enter Tryz.func128, Tryz.ntmps128
    go_upto_region 1 with fail
    rw [← hV]
    clear hV
    go_wp2
    refine bodyPost_ret (v := .agg (tkA Tk.zero)) ?_ rfl ?_
    · exact results_cell_row (fn := Tryz.f128) (p := 2) (ty := 191) rfl _ _ w.heap.size 191 (tkA Tk.zero) (0, 0) _ rfl (put4 HV.out _ _ _ _) Tryz.underlying191 rfl (by kernel_rfl)
    · exact ⟨rfl, put4_below HwV.out (Nat.le_refl _) _ _ _ _⟩
theorem ostep_any (i gA : Nat) (w : World) (hi : i ≤ 5000) (hA : Blk w gA 3 #[.int .i64 i]) :
    Calls Tryz.prog 129 #[.pointer (some ⟨gA, 0, none⟩)] w fun r w' => r = .returned (.tuple #[]) ∧ w' = w.setCell ⟨gA, 0, none⟩ (.int .i64 ((i + 1 : Nat) : Int)) := by
  have c0 : w.cell? ⟨gA, 0, none⟩ = some (.int .i64 i) := hA.cell 0
  have f0 : w.frozen? ⟨gA, 0, none⟩ = false := hA.frozen 0
  have hwr := wrap_nat (i := i) (by omega)
  clear hA
  go_enter Tryz.func129, Tryz.ntmps129
  go_wp2
  go_end0
  exact ⟨rfl, rfl⟩
end Go.Proofs.YtofjapcgbajmiaaGreatDoor
namespace Go.Proofs.YtofjapcgbajmiaaGreatDoor
open Go.RowKit
theorem OSt.lt {W w0 w : World} {r : OR} {s : PS} (h : OSt W w0 w r s) : r.gR < w.heap.size ∧ r.gA < w.heap.size ∧ r.gL < w.heap.size := by
  obtain ⟨a, e, h1, h2, _⟩ := h.ex
  exact ⟨h1.lt, h2.lt, h.lb.lt⟩
theorem OSt.put4 {W w0 w : World} {r : OR} {s : PS} (h : OSt W w0 w r s) {k : Nat} (hk : w0.heap.size ≤ k) (hW : W.heap.size ≤ k) (h1 : k ≠ r.gR) (h2 : k ≠ r.gA) (h3 : k ≠ r.gL) (a b c d : Value) :
    OSt W w0 ((((w.setCell ⟨k, 0, none⟩ a).setCell ⟨k, 1, none⟩ b).setCell ⟨k, 2, none⟩ c).setCell ⟨k, 3, none⟩ d) r s :=
  (((h.set hk hW h1 h2 h3 0 a).set hk hW h1 h2 h3 1 b).set hk hW h1 h2 h3 2 c).set hk hW h1 h2 h3 3 d
theorem OSt.okc {W w0 w : World} {r : OR} {i : Nat} (h : OSt W w0 w r (.ok i)) : Blk w r.gR 125 (orCells r 0) ∧ Blk w r.gA 3 #[.int .i64 i] ∧ i ≤ r.x.l.length := by
  obtain ⟨a, e, h1, h2, _, rfl, rfl, h3⟩ := h.ex
  exact ⟨h1, h2, h3⟩
theorem OSt.badc {W w0 w : World} {r : OR} {x : Nat} (h : OSt W w0 w r (.bad x)) : Blk w r.gR 125 (orCells r x) ∧ x ≠ 0 := by
  obtain ⟨a, e, h1, h2, _, rfl, h3, _⟩ := h.ex
  exact ⟨h1, h3⟩
theorem OSt.err {W w0 w : World} {r : OR} {s : PS} (E : OEnv W r) (h : OSt W w0 w r s) {x : Nat} (hx : x ≠ 0 ∧ x < 100) : OSt W w0 (w.setCell ⟨r.gR, 11, none⟩ (.int .i64 x)) r (.bad x) := by
  obtain ⟨a, e, h1, h2, h3, _⟩ := h.ex
  exact ⟨⟨a, x, h1.set_ 11 (.int .i64 x), h2.far E.ar _, h3, rfl, hx.1, hx.2⟩, h.lb.far E.lr _, h.gr.set (.inl rfl) 11 _, h.base.setCell E.rr _⟩
theorem OSt.step {W w0 w : World} {r : OR} {i : Nat} (E : OEnv W r) (h : OSt W w0 w r (.ok i)) (hi : i < r.x.l.length) : OSt W w0 (w.setCell ⟨r.gA, 0, none⟩ (.int .i64 ((i + 1 : Nat) : Int))) r (.ok (i + 1)) := by
  obtain ⟨h1, h2, _⟩ := h.okc
  have := E.few
  exact ⟨⟨i + 1, 0, h1.far (Ne.symm E.ar) _, h2.set_ 0 (.int .i64 ((i + 1 : Nat) : Int)), by omega, rfl, rfl, by omega⟩, h.lb.far E.la _, h.gr.set (.inr (.inl rfl)) 0 _, h.base.setCell E.a _⟩
theorem take_ok (ts : List Tk) (k : Nat) (txt : List UInt8) (i : Nat) : takeA ts k txt (.ok i) = if (nxt ts i).kind ≠ k ∨ (txt ≠ [] ∧ (nxt ts i).text ≠ txt) then (Tk.zero, .bad 5) else (nxt ts i, .ok (i + 1)) := rfl
theorem take_res {A B : Tk × PS} (e : A = B) {W w0 w : World} {r : OR} {v : Value} (h1 : v = .agg (tkA B.1)) (h2 : OSt W w0 w r B.2) : Ending.returned v = .returned (.agg (tkA A.1)) ∧ OSt W w0 w r A.2 := by
  rw [e]; exact ⟨by rw [h1], h2⟩
set_option maxRecDepth 100000 in
set_option maxHeartbeats 8000000 in
theorem otake {W w0 w : World} {r : OR} {s : PS} (E : OEnv W r) (h : OSt W w0 w r s) (k : Nat) (hk : 1 ≤ k) (txt : ByteArray) :
    Calls Tryz.prog 133 #[.pointer (some ⟨r.gR, 0, none⟩), .int .i64 k, .string txt] w fun e w' => e = .returned (.agg (tkA (takeA r.x.l k txt.data.toList s).1)) ∧ OSt W w0 w' r (takeA r.x.l k txt.data.toList s).2 := by
  obtain ⟨V, hV⟩ : ∃ V, V = w.alloc (.cells #[.int .i64 0, .string ⟨#[]⟩, .int .u32 0, .int .i64 0] 191) := ⟨_, rfl⟩
  have HV : Hid (Blk V w.heap.size 191 #[.int .i64 0, .string ⟨#[]⟩, .int .u32 0, .int .i64 0]) := Lib.hid (by rw [hV]; exact Blk.new _ _ _)
  have HwV : Hid (Below w.heap.size w V) := Lib.hid (by rw [hV]; exact below1 _ _)
  have hSV := h.below HwV.out
  have HSV := Lib.hid hSV
  have HK := Lib.hid (show w0.heap.size ≤ w.heap.size ∧ W.heap.size ≤ w.heap.size ∧ w.heap.size ≠ r.gR ∧ w.heap.size ≠ r.gA ∧ w.heap.size ≠ r.gL from by have := h.lt; have := h.gr.size; have := h.base.size; omega)
  have HE := Lib.hid E
  obtain ⟨a, e, bR, bA, ha, hs⟩ := hSV.ex
  have HN := Lib.hid (onext_any r.x a r.gA r.gL V (E.toks.below hSV.base (Nat.le_refl _)) bA hSV.lb)
  have c9 : V.cell? ⟨r.gR, 10, none⟩ = some (stepF r) := bR.cell 10
  have c10 : V.cell? ⟨r.gR, 9, none⟩ = some (nextF r) := bR.cell 9
  unfold nextF at c10
  unfold stepF at c9
  have HBR := Lib.hid bR
  have HBA := Lib.hid bA
  have HNX := Lib.hid (fun (h : (nxt r.x.l a).kind ≠ 0) => show a < r.x.l.length from by
    rcases Nat.lt_or_ge a r.x.l.length with h1 | h1
    · exact h1
    · rw [nxt_out h1] at h; exact absurd rfl h)
  have HS : Hid ((∃ x, s = .bad x ∧ e = x ∧ x ≠ 0) ∨ (s = .ok a ∧ e = 0)) := Lib.hid (by
    cases s with
    | ok i => obtain ⟨rfl, rfl, _⟩ := hs; exact .inr ⟨rfl, rfl⟩
    | bad x => obtain ⟨rfl, h2, _⟩ := hs; exact .inl ⟨e, rfl, rfl, h2⟩)
  have HTK := Lib.hid (take_ok r.x.l k txt.data.toList a)
  clear h E hs hSV bR bA
  generalize nxt r.x.l a = t at *
  obtain ⟨tk, tx, tv, tl⟩ := t
  simp only at HN HNX HTK
  go_enter Tryz.func133, Tryz.ntmps133
  go_upto_region 1 with fail
  rw [← hV]
  clear hV
  go_wp2_with fail
  refine HN.out.mono ?_
  rintro e1 w1 ⟨rfl, hb1⟩
  have HS1 := Lib.hid (HSV.out.below hb1)
  have HV1 := Lib.hid (HV.out.below hb1 HV.out.lt)
  have HBR1 := Lib.hid (HBR.out.below hb1 HBR.out.lt)
  have HBA1 := Lib.hid (HBA.out.below hb1 HBA.out.lt)
  clear hb1 HN HSV HV HBR HBA c9 c10
  go_upto_region 2 with fail
  obtain ⟨Y, hY⟩ : ∃ Y, Y = w1.alloc (.cells #[.int .i64 tk, .string ⟨tx.toArray⟩, .int .u32 tv, .int .i64 tl] 191) := ⟨_, rfl⟩
  have HYB : Hid (Blk Y w1.heap.size 191 #[.int .i64 tk, .string ⟨tx.toArray⟩, .int .u32 tv, .int .i64 tl]) := Lib.hid (by rw [hY]; exact Blk.new _ _ _)
  have HBY : Hid (Below w1.heap.size w1 Y) := Lib.hid (by rw [hY]; exact below1 _ _)
  have HSY := Lib.hid (HS1.out.below HBY.out)
  have HVY := Lib.hid (HV1.out.below HBY.out HV1.out.lt)
  have HBRY := Lib.hid (HBR1.out.below HBY.out HBR1.out.lt)
  have HBAY := Lib.hid (HBA1.out.below HBY.out HBA1.out.lt)
  have HNY : Hid (w1.heap.size ≠ r.gR ∧ w1.heap.size ≠ r.gA ∧ w.heap.size ≠ w1.heap.size) := Lib.hid (by have := HS1.out.lt; have := HV1.out.lt; omega)
  rw [← hY]
  clear hY HS1 HV1 HBR1 HBA1 HBY
  have d11 : Y.cell? ⟨r.gR, 11, none⟩ = some (.int .i64 e) := HBRY.out.cell 11
  have d10 : Y.cell? ⟨r.gR, 10, none⟩ = some (stepF r) := HBRY.out.cell 10
  have f11 : Y.frozen? ⟨r.gR, 11, none⟩ = false := HBRY.out.frozen 11
  unfold stepF at d10
  have r0 : Y.cell? ⟨w.heap.size, 0, none⟩ = some (.int .i64 0) := HVY.out.cell 0
  have g0 : Y.frozen? ⟨w.heap.size, 0, none⟩ = false := HVY.out.frozen 0
  have r1 : Y.cell? ⟨w.heap.size, 1, none⟩ = some (.string ⟨#[]⟩) := HVY.out.cell 1
  have g1 : Y.frozen? ⟨w.heap.size, 1, none⟩ = false := HVY.out.frozen 1
  have r2 : Y.cell? ⟨w.heap.size, 2, none⟩ = some (.int .u32 0) := HVY.out.cell 2
  have g2 : Y.frozen? ⟨w.heap.size, 2, none⟩ = false := HVY.out.frozen 2
  have r3 : Y.cell? ⟨w.heap.size, 3, none⟩ = some (.int .i64 0) := HVY.out.cell 3
  have g3 : Y.frozen? ⟨w.heap.size, 3, none⟩ = false := HVY.out.frozen 3
  have q0 : Y.cell? ⟨w1.heap.size, 0, none⟩ = some (.int .i64 tk) := HYB.out.cell 0
  have p0 : Y.frozen? ⟨w1.heap.size, 0, none⟩ = false := HYB.out.frozen 0
  have q1 : Y.cell? ⟨w1.heap.size, 1, none⟩ = some (.string ⟨tx.toArray⟩) := HYB.out.cell 1
  have p1 : Y.frozen? ⟨w1.heap.size, 1, none⟩ = false := HYB.out.frozen 1
  have q2 : Y.cell? ⟨w1.heap.size, 2, none⟩ = some (.int .u32 tv) := HYB.out.cell 2
  have p2 : Y.frozen? ⟨w1.heap.size, 2, none⟩ = false := HYB.out.frozen 2
  have q3 : Y.cell? ⟨w1.heap.size, 3, none⟩ = some (.int .i64 tl) := HYB.out.cell 3
  have p3 : Y.frozen? ⟨w1.heap.size, 3, none⟩ = false := HYB.out.frozen 3
  rcases HS.out with ⟨x, rfl, rfl, hx⟩ | ⟨rfl, rfl⟩
  · have he' : ((e : Int) != 0) = true := bne_iff_ne.2 (by omega)
    go_wp2
    refine bodyPost_ret (v := .agg (tkA Tk.zero)) ?_ rfl ?_
    · exact results_cell_row (fn := Tryz.f133) (p := 6) (ty := 191) rfl _ _ w.heap.size 191 (tkA Tk.zero) (0, 0) _ rfl (put4 HVY.out _ _ _ _) Tryz.underlying191 rfl (by kernel_rfl)
    · exact ⟨rfl, HSY.out.put4 HK.out.1 HK.out.2.1 HK.out.2.2.1 HK.out.2.2.2.1 HK.out.2.2.2.2 _ _ _ _⟩
  by_cases h1 : tk = k
  · subst h1
    have HI := Lib.hid (HNX.out (by omega))
    by_cases h2 : txt.data.toList = []
    · have HR := Lib.hid (HTK.out.trans (if_neg (by rintro (h | h); exact h rfl; exact h.1 h2)))
      obtain rfl : txt = ⟨#[]⟩ := by apply ByteArray.ext; apply Array.ext'; rw [h2]
      clear h2 HTK
      go_wp2_with fail
      refine (ostep_any a r.gA Y ha HBAY.out).mono ?_
      rintro e1 w2 ⟨rfl, hw2⟩
      have HS2 : Hid (OSt W w0 w2 r (.ok (a + 1))) := Lib.hid (by rw [hw2]; exact HSY.out.step HE.out HI.out)
      have HV2 : Hid (Blk w2 w.heap.size 191 #[.int .i64 0, .string ⟨#[]⟩, .int .u32 0, .int .i64 0]) := Lib.hid (by rw [hw2]; exact HVY.out.far HK.out.2.2.2.1 _)
      have HY2 : Hid (Blk w2 w1.heap.size 191 #[.int .i64 tk, .string ⟨tx.toArray⟩, .int .u32 tv, .int .i64 tl]) := Lib.hid (by rw [hw2]; exact HYB.out.far HNY.out.2.1 _)
      clear hw2 d10 d11 f11 r0 r1 r2 r3 g0 g1 g2 g3 q0 q1 q2 q3 p0 p1 p2 p3
      have r0 : w2.cell? ⟨w.heap.size, 0, none⟩ = some (.int .i64 0) := HV2.out.cell 0
      have g0 : w2.frozen? ⟨w.heap.size, 0, none⟩ = false := HV2.out.frozen 0
      have r1 : w2.cell? ⟨w.heap.size, 1, none⟩ = some (.string ⟨#[]⟩) := HV2.out.cell 1
      have g1 : w2.frozen? ⟨w.heap.size, 1, none⟩ = false := HV2.out.frozen 1
      have r2 : w2.cell? ⟨w.heap.size, 2, none⟩ = some (.int .u32 0) := HV2.out.cell 2
      have g2 : w2.frozen? ⟨w.heap.size, 2, none⟩ = false := HV2.out.frozen 2
      have r3 : w2.cell? ⟨w.heap.size, 3, none⟩ = some (.int .i64 0) := HV2.out.cell 3
      have g3 : w2.frozen? ⟨w.heap.size, 3, none⟩ = false := HV2.out.frozen 3
      have q0 : w2.cell? ⟨w1.heap.size, 0, none⟩ = some (.int .i64 tk) := HY2.out.cell 0
      have p0 : w2.frozen? ⟨w1.heap.size, 0, none⟩ = false := HY2.out.frozen 0
      have q1 : w2.cell? ⟨w1.heap.size, 1, none⟩ = some (.string ⟨tx.toArray⟩) := HY2.out.cell 1
      have p1 : w2.frozen? ⟨w1.heap.size, 1, none⟩ = false := HY2.out.frozen 1
      have q2 : w2.cell? ⟨w1.heap.size, 2, none⟩ = some (.int .u32 tv) := HY2.out.cell 2
      have p2 : w2.frozen? ⟨w1.heap.size, 2, none⟩ = false := HY2.out.frozen 2
      have q3 : w2.cell? ⟨w1.heap.size, 3, none⟩ = some (.int .i64 tl) := HY2.out.cell 3
      have p3 : w2.frozen? ⟨w1.heap.size, 3, none⟩ = false := HY2.out.frozen 3
      go_wp2
      refine bodyPost_ret (v := .agg (tkA ⟨tk, tx, tv, tl⟩)) ?_ rfl ?_
      · exact results_cell_row (fn := Tryz.f133) (p := 6) (ty := 191) rfl _ _ w.heap.size 191 (tkA ⟨tk, tx, tv, tl⟩) (0, 0) _ rfl (put4 HV2.out _ _ _ _) Tryz.underlying191 rfl (by kernel_rfl)
      · exact take_res HR.out rfl (HS2.out.put4 HK.out.1 HK.out.2.1 HK.out.2.2.1 HK.out.2.2.2.1 HK.out.2.2.2.2 _ _ _ _)
    · have e2 : (txt.toList == []) = false := by rw [toList_data]; exact beq_eq_false_iff_ne.2 h2
      by_cases h3 : tx = txt.data.toList
      · have HR := Lib.hid (HTK.out.trans (if_neg (by rintro (h | h); exact h rfl; exact h.2 h3)))
        have e3 : (tx == txt.toList) = true := by rw [tx_eq, decide_eq_true h3]
        clear h2 h3 HTK
        go_wp2_with fail
        refine (ostep_any a r.gA Y ha HBAY.out).mono ?_
        rintro e1 w2 ⟨rfl, hw2⟩
        have HS2 : Hid (OSt W w0 w2 r (.ok (a + 1))) := Lib.hid (by rw [hw2]; exact HSY.out.step HE.out HI.out)
        have HV2 : Hid (Blk w2 w.heap.size 191 #[.int .i64 0, .string ⟨#[]⟩, .int .u32 0, .int .i64 0]) := Lib.hid (by rw [hw2]; exact HVY.out.far HK.out.2.2.2.1 _)
        have HY2 : Hid (Blk w2 w1.heap.size 191 #[.int .i64 tk, .string ⟨tx.toArray⟩, .int .u32 tv, .int .i64 tl]) := Lib.hid (by rw [hw2]; exact HYB.out.far HNY.out.2.1 _)
        clear hw2 d10 d11 f11 r0 r1 r2 r3 g0 g1 g2 g3 q0 q1 q2 q3 p0 p1 p2 p3
        have r0 : w2.cell? ⟨w.heap.size, 0, none⟩ = some (.int .i64 0) := HV2.out.cell 0
        have g0 : w2.frozen? ⟨w.heap.size, 0, none⟩ = false := HV2.out.frozen 0
        have r1 : w2.cell? ⟨w.heap.size, 1, none⟩ = some (.string ⟨#[]⟩) := HV2.out.cell 1
        have g1 : w2.frozen? ⟨w.heap.size, 1, none⟩ = false := HV2.out.frozen 1
        have r2 : w2.cell? ⟨w.heap.size, 2, none⟩ = some (.int .u32 0) := HV2.out.cell 2
        have g2 : w2.frozen? ⟨w.heap.size, 2, none⟩ = false := HV2.out.frozen 2
        have r3 : w2.cell? ⟨w.heap.size, 3, none⟩ = some (.int .i64 0) := HV2.out.cell 3
        have g3 : w2.frozen? ⟨w.heap.size, 3, none⟩ = false := HV2.out.frozen 3
        have q0 : w2.cell? ⟨w1.heap.size, 0, none⟩ = some (.int .i64 tk) := HY2.out.cell 0
        have p0 : w2.frozen? ⟨w1.heap.size, 0, none⟩ = false := HY2.out.frozen 0
        have q1 : w2.cell? ⟨w1.heap.size, 1, none⟩ = some (.string ⟨tx.toArray⟩) := HY2.out.cell 1
        have p1 : w2.frozen? ⟨w1.heap.size, 1, none⟩ = false := HY2.out.frozen 1
        have q2 : w2.cell? ⟨w1.heap.size, 2, none⟩ = some (.int .u32 tv) := HY2.out.cell 2
        have p2 : w2.frozen? ⟨w1.heap.size, 2, none⟩ = false := HY2.out.frozen 2
        have q3 : w2.cell? ⟨w1.heap.size, 3, none⟩ = some (.int .i64 tl) := HY2.out.cell 3
        have p3 : w2.frozen? ⟨w1.heap.size, 3, none⟩ = false := HY2.out.frozen 3
        go_wp2
        refine bodyPost_ret (v := .agg (tkA ⟨tk, tx, tv, tl⟩)) ?_ rfl ?_
        · exact results_cell_row (fn := Tryz.f133) (p := 6) (ty := 191) rfl _ _ w.heap.size 191 (tkA ⟨tk, tx, tv, tl⟩) (0, 0) _ rfl (put4 HV2.out _ _ _ _) Tryz.underlying191 rfl (by kernel_rfl)
        · exact take_res HR.out rfl (HS2.out.put4 HK.out.1 HK.out.2.1 HK.out.2.2.1 HK.out.2.2.2.1 HK.out.2.2.2.2 _ _ _ _)
      · have HR := Lib.hid (HTK.out.trans (if_pos (.inr ⟨h2, h3⟩)))
        have e3 : (tx == txt.toList) = false := by rw [tx_eq, decide_eq_false h3]
        clear h2 h3 HTK
        go_wp2
        refine bodyPost_ret (v := .agg (tkA Tk.zero)) ?_ rfl ?_
        · exact results_cell_row (fn := Tryz.f133) (p := 6) (ty := 191) rfl _ _ w.heap.size 191 (tkA Tk.zero) (0, 0) _ rfl (put4 (HVY.out.far HK.out.2.2.1 _) _ _ _ _) Tryz.underlying191 rfl (by kernel_rfl)
        · exact take_res HR.out rfl ((HSY.out.err HE.out (x := 5) (by decide)).put4 HK.out.1 HK.out.2.1 HK.out.2.2.1 HK.out.2.2.2.1 HK.out.2.2.2.2 _ _ _ _)
  · have HR := Lib.hid (HTK.out.trans (if_pos (.inl h1)))
    have e1 : ((tk : Int) != (k : Int)) = true := bne_iff_ne.2 (by omega)
    clear h1 HTK
    go_wp2
    refine bodyPost_ret (v := .agg (tkA Tk.zero)) ?_ rfl ?_
    · exact results_cell_row (fn := Tryz.f133) (p := 6) (ty := 191) rfl _ _ w.heap.size 191 (tkA Tk.zero) (0, 0) _ rfl (put4 (HVY.out.far HK.out.2.2.1 _) _ _ _ _) Tryz.underlying191 rfl (by kernel_rfl)
    · exact take_res HR.out rfl ((HSY.out.err HE.out (x := 5) (by decide)).put4 HK.out.1 HK.out.2.1 HK.out.2.2.1 HK.out.2.2.2.1 HK.out.2.2.2.2 _ _ _ _)
end Go.Proofs.YtofjapcgbajmiaaGreatDoor
namespace Go.Proofs.YtofjapcgbajmiaaGreatDoor
open Go.RowKit
set_option maxRecDepth 100000 in
set_option maxHeartbeats 2000000 in
theorem onumber {W w0 w : World} {r : OR} {s : PS} (E : OEnv W r) (h : OSt W w0 w r s) :
    Calls Tryz.prog 134 #[.pointer (some ⟨r.gR, 0, none⟩)] w fun e w' => e = .returned (.int .u32 (numA r.x.l s).1) ∧ OSt W w0 w' r (numA r.x.l s).2 := by
  have HC := Lib.hid (otake E h 2 (by decide) ⟨#[]⟩)
  have e0 : (⟨#[]⟩ : ByteArray).data.toList = [] := rfl
  rw [e0] at HC
  unfold numA
  generalize takeA r.x.l 2 [] s = t at *
  obtain ⟨⟨tk, tx, tv, tl⟩, s'⟩ := t
  simp only at HC ⊢
  clear h E e0
  go_enter Tryz.func134, Tryz.ntmps134
  go_wp2_with fail
  refine HC.out.mono ?_
  rintro r w1 ⟨rfl, h1⟩
  have H1 := Lib.hid h1
  clear h1 HC
  have htv := tk_value (.int .i64 tk) (.string ⟨tx.toArray⟩) (.int .u32 tv) (.int .i64 tl)
  go_wp2
  go_ret
  exact ⟨rfl, H1.out⟩
theorem num_le {ts : List Tk} (h : ∀ t ∈ ts, TkOk t) (s : PS) : (numA ts s).1 ≤ 4294967295 := by
  unfold numA
  cases s with
  | bad e => exact Nat.zero_le _
  | ok i =>
    rw [take_ok]
    split
    · exact Nat.zero_le _
    · rcases Nat.lt_or_ge i ts.length with h1 | h1
      · rw [nxt_in h1]; exact (h _ (List.getElem_mem h1)).value
      · rw [nxt_out h1]; exact Nat.zero_le _
theorem res_bad {ts : List Tk} {names : List ByteArray} {s : PS} {t : Tk} {e : Nat} (h : takeA ts 1 [] s = (t, .bad e)) : resA ts names s = (0, .bad e) := by rw [resA, h]
theorem res_ok {ts : List Tk} {names : List ByteArray} {s : PS} {t : Tk} {i : Nat} (h : takeA ts 1 [] s = (t, .ok i)) : resA ts names s = if (lookM names ⟨t.text.toArray⟩).2 = true then ((lookM names ⟨t.text.toArray⟩).1, .ok i) else (0, .bad 8) := by rw [resA, h]
theorem res_ret {A B : Int × PS} (e : A = B) {W w0 w : World} {r : OR} {v : Value} (h1 : v = .int .i64 B.1) (h2 : OSt W w0 w r B.2) : Ending.returned v = .returned (.int .i64 A.1) ∧ OSt W w0 w r A.2 := by
  rw [e]; exact ⟨by rw [h1], h2⟩
def NamesF (F : FuncId) (names : List ByteArray) (r : OR) (gB : Nat) : Prop :=
  ∀ (u : World) (e : Nat) (i : Nat) (hi : i < names.length), Blk u r.gR 125 (orCells r e) → Blk u gB 120 #[.pointer (some ⟨r.gR, 0, none⟩)] → ProgOk u r.p →
    Calls Tryz.prog F #[.int .i64 i, .pointer (some ⟨gB, 0, none⟩)] u fun e u' => e = .returned (.string names[i]) ∧ u' = u
set_option maxRecDepth 100000 in
set_option maxHeartbeats 8000000 in
theorem oresolveA {W w0 w : World} {r : OR} {s : PS} (E : OEnv W r) (h : OSt W w0 w r s) (names : List ByteArray) (hn : names.length ≤ 1000) (gB : Nat) (hF : NamesF 199 names r gB)
    (hB : Blk w gB 120 #[.pointer (some ⟨r.gR, 0, none⟩)]) (n1 : gB ≠ r.gR) (n2 : gB ≠ r.gA) :
    Calls Tryz.prog 130 #[.pointer (some ⟨r.gR, 0, none⟩), .int .i64 names.length, .func (.func 199) #[] #[.pointer (some ⟨gB, 0, none⟩)]] w fun e w' => e = .returned (.int .i64 (resA r.x.l names s).1) ∧ OSt W w0 w' r (resA r.x.l names s).2 := by
  have HC := Lib.hid (otake E h.refl 1 (by decide) ⟨#[]⟩)
  have e0 : (⟨#[]⟩ : ByteArray).data.toList = [] := rfl
  rw [e0] at HC
  have HE := Lib.hid E
  have HH := Lib.hid h
  have HBB := Lib.hid hB
  have HNE := Lib.hid (And.intro n1 n2)
  have HF := Lib.hid hF
  clear h E hB n1 n2 hF e0
  rcases ht : takeA r.x.l 1 [] s with ⟨⟨tk, tx, tv, tl⟩, s'⟩
  rw [ht] at HC
  simp only at HC
  have HT := Lib.hid ht
  clear ht
  go_enter Tryz.func130, Tryz.ntmps130
  go_wp2_with fail
  refine HC.out.mono ?_
  rintro e1 w1 ⟨rfl, h1⟩
  have H1 := Lib.hid h1
  have HB1 := Lib.hid (h1.gr.blk HBB.out HNE.out.1 HNE.out.2)
  clear h1 HC
  go_upto_region 2 with fail
  obtain ⟨Y, hY⟩ : ∃ Y, Y = w1.alloc (.cells #[.int .i64 tk, .string ⟨tx.toArray⟩, .int .u32 tv, .int .i64 tl] 191) := ⟨_, rfl⟩
  have HBY : Hid (Below w1.heap.size w1 Y) := Lib.hid (by rw [hY]; exact below1 _ _)
  have HYB : Hid (Blk Y w1.heap.size 191 #[.int .i64 tk, .string ⟨tx.toArray⟩, .int .u32 tv, .int .i64 tl]) := Lib.hid (by rw [hY]; exact Blk.new _ _ _)
  rw [← hY]
  have HSY := Lib.hid (HH.out.then (H1.out.below HBY.out))
  have HB2 := Lib.hid (HB1.out.below HBY.out HB1.out.lt)
  have HPY := Lib.hid (HE.out.prog.below HSY.out.base)
  clear hY H1 HB1 HBY HBB HH
  have q1 : ∀ n, (Y.drewN n).cell? ⟨w1.heap.size, 1, none⟩ = some (.string ⟨tx.toArray⟩) := fun n => (HYB.out.drewN n).cell 1
  cases s' with
  | bad e =>
    have HR := Lib.hid (res_bad (names := names) HT.out)
    obtain ⟨bR, he⟩ := HSY.out.badc
    have HBR := Lib.hid bR
    have c11 : ∀ n, (Y.drewN n).cell? ⟨r.gR, 11, none⟩ = some (.int .i64 e) := fun n => (HBR.out.drewN n).cell 11
    have he' : ((e : Int) == 0) = false := beq_eq_false_iff_ne.2 (by omega)
    clear bR he
    go_wp2
    go_loopw [8, 12] (fun _ iv wr => ∃ k q : Nat, k ≤ names.length ∧ iv = .int .i64 k ∧ wr = Y.drewN q) (fun _ i _ => names.length - (intOf i).toNat)
    case atStart => exact ⟨0, 0, Nat.zero_le _, rfl, rfl⟩
    case round =>
      obtain ⟨k, q, hk, rfl, rfl⟩ := hrel
      by_cases hlt : k < names.length
      · have hlt' : (k : Int) < (names.length : Int) := by omega
        have c11 := c11 q
        go_upto_region 5 with fail
        go_quiet (fail)
        go_wp2
        go_roundw
        case rel => exact ⟨k + 1, q + nq, by omega, by go_num, by first | rfl | rw [World.drewN_drewN]⟩
        case measure => simp [intOf]; omega
      · have c11 := c11 q
        go_wp2
        go_ret
        exact res_ret HR.out rfl (HSY.out.drewN q)
  | ok i =>
    have HR := Lib.hid (res_ok (names := names) HT.out)
    obtain ⟨bR, bA, hi⟩ := HSY.out.okc
    have HBR := Lib.hid bR
    have c11 : ∀ n, (Y.drewN n).cell? ⟨r.gR, 11, none⟩ = some (.int .i64 0) := fun n => (HBR.out.drewN n).cell 11
    have f11 : ∀ n, (Y.drewN n).frozen? ⟨r.gR, 11, none⟩ = false := fun n => (HBR.out.drewN n).frozen 11
    clear bR bA hi
    go_wp2
    go_loopw [8, 12] (fun _ iv wr => ∃ k q : Nat, k ≤ names.length ∧ iv = .int .i64 k ∧ Hid (∀ j, j < k → names.getD j ByteArray.empty ≠ ⟨tx.toArray⟩) ∧ wr = Y.drewN q) (fun _ i _ => names.length - (intOf i).toNat)
    case atStart => exact ⟨0, 0, Nat.zero_le _, rfl, Lib.hid (fun j h => absurd h (Nat.not_lt_zero _)), rfl⟩
    case round =>
      obtain ⟨k, q, hk, rfl, HPre, rfl⟩ := hrel
      by_cases hlt : k < names.length
      · have hlt' : (k : Int) < (names.length : Int) := by omega
        have c11 := c11 q
        have q1 := q1 q
        have HN : Hid (names.getD k ByteArray.empty = names[k]) := Lib.hid (by simp [hlt])
        have HCF := Lib.hid (fun n => (HF.out (Y.drewN (q + n)) 0 k hlt (HBR.out.drewN _) (HB2.out.drewN _) (HPY.out.below (below_drewN (Below.refl _ _) _))).mono (fun _ _ h => (⟨h.1, n, h.2⟩ : _ ∧ ∃ m, _ = Y.drewN (q + m))))
        generalize names[k] = y at *
        by_cases hy : y = ⟨tx.toArray⟩
        · have HR2 : Hid (resA r.x.l names s = ((k : Int), .ok i)) := Lib.hid (by
            have e := Lib.idxOfS_hit names names.length k ⟨tx.toArray⟩ hlt (Nat.le_refl _) (HN.out.trans hy) HPre.out
            rw [List.take_length] at e
            have e2 : lookM names ⟨tx.toArray⟩ = ((k : Int), true) := by rw [lookM, e, if_neg (by omega)]
            rw [HR.out, e2, if_pos rfl])
          subst hy
          clear HR
          go_upto_region 5 with fail
          go_quiet (exact HCF.out _)
          go_wp2
          go_ret
          exact res_ret HR2.out rfl (by first | exact (HSY.out.drewN q).drewN nq | exact HSY.out.drewN _)
        · have HP2 : Hid (∀ j, j < k + 1 → names.getD j ByteArray.empty ≠ ⟨tx.toArray⟩) := Lib.hid (fun j hj => by
            rcases Nat.lt_or_ge j k with h | h
            · exact HPre.out j h
            · have e : j = k := by omega
              subst e
              rw [HN.out]; exact hy)
          have hy1 : (y.toList == tx) = false := beq_eq_false_iff_ne.2 (fun e => hy (by
            rw [toList_data] at e
            rw [← e]))
          clear hy HN HPre
          go_upto_region 5 with fail
          go_quiet (exact HCF.out _)
          go_wp2
          go_roundw
          case rel => exact ⟨k + 1, q + nq, by omega, by go_num, HP2, by first | rfl | rw [World.drewN_drewN]⟩
          case measure => simp [intOf]; omega
      · have HR2 : Hid (resA r.x.l names s = (0, .bad 8)) := Lib.hid (by
          have e := Lib.idxOfS_miss names names.length ⟨tx.toArray⟩ (fun j hj => HPre.out j (by omega))
          rw [List.take_length] at e
          have e2 : lookM names ⟨tx.toArray⟩ = (0, false) := by rw [lookM, e, if_pos (by decide)]
          rw [HR.out, e2, if_neg (by simp)])
        have c11 := c11 q
        have f11 := f11 q
        go_wp2
        go_ret
        exact res_ret HR2.out rfl ((HSY.out.drewN q).err HE.out (by decide))
set_option maxRecDepth 100000 in
set_option maxHeartbeats 8000000 in
theorem oresolveT {W w0 w : World} {r : OR} {s : PS} (E : OEnv W r) (h : OSt W w0 w r s) (names : List ByteArray) (hn : names.length ≤ 1000) (gB : Nat) (hF : NamesF 131 names r gB)
    (hB : Blk w gB 120 #[.pointer (some ⟨r.gR, 0, none⟩)]) (n1 : gB ≠ r.gR) (n2 : gB ≠ r.gA) :
    Calls Tryz.prog 130 #[.pointer (some ⟨r.gR, 0, none⟩), .int .i64 names.length, .func (.func 131) #[] #[.pointer (some ⟨gB, 0, none⟩)]] w fun e w' => e = .returned (.int .i64 (resA r.x.l names s).1) ∧ OSt W w0 w' r (resA r.x.l names s).2 := by
  have HC := Lib.hid (otake E h.refl 1 (by decide) ⟨#[]⟩)
  have e0 : (⟨#[]⟩ : ByteArray).data.toList = [] := rfl
  rw [e0] at HC
  have HE := Lib.hid E
  have HH := Lib.hid h
  have HBB := Lib.hid hB
  have HNE := Lib.hid (And.intro n1 n2)
  have HF := Lib.hid hF
  clear h E hB n1 n2 hF e0
  rcases ht : takeA r.x.l 1 [] s with ⟨⟨tk, tx, tv, tl⟩, s'⟩
  rw [ht] at HC
  simp only at HC
  have HT := Lib.hid ht
  clear ht
  go_enter Tryz.func130, Tryz.ntmps130
  go_wp2_with fail
  refine HC.out.mono ?_
  rintro e1 w1 ⟨rfl, h1⟩
  have H1 := Lib.hid h1
  have HB1 := Lib.hid (h1.gr.blk HBB.out HNE.out.1 HNE.out.2)
  clear h1 HC
  go_upto_region 2 with fail
  obtain ⟨Y, hY⟩ : ∃ Y, Y = w1.alloc (.cells #[.int .i64 tk, .string ⟨tx.toArray⟩, .int .u32 tv, .int .i64 tl] 191) := ⟨_, rfl⟩
  have HBY : Hid (Below w1.heap.size w1 Y) := Lib.hid (by rw [hY]; exact below1 _ _)
  have HYB : Hid (Blk Y w1.heap.size 191 #[.int .i64 tk, .string ⟨tx.toArray⟩, .int .u32 tv, .int .i64 tl]) := Lib.hid (by rw [hY]; exact Blk.new _ _ _)
  rw [← hY]
  have HSY := Lib.hid (HH.out.then (H1.out.below HBY.out))
  have HB2 := Lib.hid (HB1.out.below HBY.out HB1.out.lt)
  have HPY := Lib.hid (HE.out.prog.below HSY.out.base)
  clear hY H1 HB1 HBY HBB HH
  have q1 : ∀ n, (Y.drewN n).cell? ⟨w1.heap.size, 1, none⟩ = some (.string ⟨tx.toArray⟩) := fun n => (HYB.out.drewN n).cell 1
  cases s' with
  | bad e =>
    have HR := Lib.hid (res_bad (names := names) HT.out)
    obtain ⟨bR, he⟩ := HSY.out.badc
    have HBR := Lib.hid bR
    have c11 : ∀ n, (Y.drewN n).cell? ⟨r.gR, 11, none⟩ = some (.int .i64 e) := fun n => (HBR.out.drewN n).cell 11
    have he' : ((e : Int) == 0) = false := beq_eq_false_iff_ne.2 (by omega)
    clear bR he
    go_wp2
    go_loopw [8, 12] (fun _ iv wr => ∃ k q : Nat, k ≤ names.length ∧ iv = .int .i64 k ∧ wr = Y.drewN q) (fun _ i _ => names.length - (intOf i).toNat)
    case atStart => exact ⟨0, 0, Nat.zero_le _, rfl, rfl⟩
    case round =>
      obtain ⟨k, q, hk, rfl, rfl⟩ := hrel
      by_cases hlt : k < names.length
      · have hlt' : (k : Int) < (names.length : Int) := by omega
        have c11 := c11 q
        go_upto_region 5 with fail
        go_quiet (fail)
        go_wp2
        go_roundw
        case rel => exact ⟨k + 1, q + nq, by omega, by go_num, by first | rfl | rw [World.drewN_drewN]⟩
        case measure => simp [intOf]; omega
      · have c11 := c11 q
        go_wp2
        go_ret
        exact res_ret HR.out rfl (HSY.out.drewN q)
  | ok i =>
    have HR := Lib.hid (res_ok (names := names) HT.out)
    obtain ⟨bR, bA, hi⟩ := HSY.out.okc
    have HBR := Lib.hid bR
    have c11 : ∀ n, (Y.drewN n).cell? ⟨r.gR, 11, none⟩ = some (.int .i64 0) := fun n => (HBR.out.drewN n).cell 11
    have f11 : ∀ n, (Y.drewN n).frozen? ⟨r.gR, 11, none⟩ = false := fun n => (HBR.out.drewN n).frozen 11
    clear bR bA hi
    go_wp2
    go_loopw [8, 12] (fun _ iv wr => ∃ k q : Nat, k ≤ names.length ∧ iv = .int .i64 k ∧ Hid (∀ j, j < k → names.getD j ByteArray.empty ≠ ⟨tx.toArray⟩) ∧ wr = Y.drewN q) (fun _ i _ => names.length - (intOf i).toNat)
    case atStart => exact ⟨0, 0, Nat.zero_le _, rfl, Lib.hid (fun j h => absurd h (Nat.not_lt_zero _)), rfl⟩
    case round =>
      obtain ⟨k, q, hk, rfl, HPre, rfl⟩ := hrel
      by_cases hlt : k < names.length
      · have hlt' : (k : Int) < (names.length : Int) := by omega
        have c11 := c11 q
        have q1 := q1 q
        have HN : Hid (names.getD k ByteArray.empty = names[k]) := Lib.hid (by simp [hlt])
        have HCF := Lib.hid (fun n => (HF.out (Y.drewN (q + n)) 0 k hlt (HBR.out.drewN _) (HB2.out.drewN _) (HPY.out.below (below_drewN (Below.refl _ _) _))).mono (fun _ _ h => (⟨h.1, n, h.2⟩ : _ ∧ ∃ m, _ = Y.drewN (q + m))))
        generalize names[k] = y at *
        by_cases hy : y = ⟨tx.toArray⟩
        · have HR2 : Hid (resA r.x.l names s = ((k : Int), .ok i)) := Lib.hid (by
            have e := Lib.idxOfS_hit names names.length k ⟨tx.toArray⟩ hlt (Nat.le_refl _) (HN.out.trans hy) HPre.out
            rw [List.take_length] at e
            have e2 : lookM names ⟨tx.toArray⟩ = ((k : Int), true) := by rw [lookM, e, if_neg (by omega)]
            rw [HR.out, e2, if_pos rfl])
          subst hy
          clear HR
          go_upto_region 5 with fail
          go_quiet (exact HCF.out _)
          go_wp2
          go_ret
          exact res_ret HR2.out rfl (by first | exact (HSY.out.drewN q).drewN nq | exact HSY.out.drewN _)
        · have HP2 : Hid (∀ j, j < k + 1 → names.getD j ByteArray.empty ≠ ⟨tx.toArray⟩) := Lib.hid (fun j hj => by
            rcases Nat.lt_or_ge j k with h | h
            · exact HPre.out j h
            · have e : j = k := by omega
              subst e
              rw [HN.out]; exact hy)
          have hy1 : (y.toList == tx) = false := beq_eq_false_iff_ne.2 (fun e => hy (by
            rw [toList_data] at e
            rw [← e]))
          clear hy HN HPre
          go_upto_region 5 with fail
          go_quiet (exact HCF.out _)
          go_wp2
          go_roundw
          case rel => exact ⟨k + 1, q + nq, by omega, by go_num, HP2, by first | rfl | rw [World.drewN_drewN]⟩
          case measure => simp [intOf]; omega
      · have HR2 : Hid (resA r.x.l names s = (0, .bad 8)) := Lib.hid (by
          have e := Lib.idxOfS_miss names names.length ⟨tx.toArray⟩ (fun j hj => HPre.out j (by omega))
          rw [List.take_length] at e
          have e2 : lookM names ⟨tx.toArray⟩ = (0, false) := by rw [lookM, e, if_pos (by decide)]
          rw [HR.out, e2, if_neg (by simp)])
        have c11 := c11 q
        have f11 := f11 q
        go_wp2
        go_ret
        exact res_ret HR2.out rfl ((HSY.out.drewN q).err HE.out (by decide))
end Go.Proofs.YtofjapcgbajmiaaGreatDoor
namespace Go.Proofs.YtofjapcgbajmiaaGreatDoor
open Go.RowKit
theorem news_allocO (W : World) (g : Nat) (hg : g = W.heap.size) (cs : List Value) (t : TypeId) : ∀ j u, cs[j]? = some u → (W.alloc (.cells cs.toArray t)).cell? ((⟨g, 0, none⟩ : Addr).add j) = some u := by
  intro j u hj
  subst hg
  have h := (Blk.new W t cs.toArray).cell j
  have e : (⟨W.heap.size, 0, none⟩ : Addr).add j = ⟨W.heap.size, j, none⟩ := by unfold Addr.add; split <;> simp_all
  rw [e, h]
  simpa using hj
theorem own_setO {w : World} {base : Nat} {e : TypeId} {size : Nat} {v : Value} {n : Nat} {xs : List Value} (h : w.ownsRow base e size v n xs) {p : Addr} (hp : v.ownBlock ≠ some p.block) (u : Value) : (w.setCell p u).ownsRow base e size v n xs := by
  refine h.kept (row := some p.block) ⟨rfl, rfl, rfl, by simp [World.setCell], fun k _ hk => Below.heap_setCell w p u k (fun e => hk (by rw [e]))⟩ (.inr hp)
theorem row_sliceO {w : World} {B : Nat} {t : TypeId} {k : Nat} {v : Value} {n : Nat} {xs : List Value} (h : w.ownsRow B t k v n xs) : ∃ A c, v = .slice A n c := by
  rcases h.2 with ⟨hv, h0⟩ | ⟨g', cap, cur, hv, _, _, _⟩
  · exact ⟨none, 0, by rw [hv, h0]⟩
  · exact ⟨_, _, hv⟩
theorem own_ltO {w : World} {B : Nat} {t : TypeId} {k : Nat} {v : Value} {n : Nat} {xs : List Value} (h : w.ownsRow B t k v n xs) : ∀ g, v.ownBlock = some g → B ≤ g ∧ g < w.heap.size := by
  intro g hg
  rcases h.2 with ⟨e2, _⟩ | ⟨g', cap, cur, e2, hb, hh, _⟩
  · rw [e2] at hg; cases hg
  · rw [e2] at hg
    simp only [Value.ownBlock, Option.some.injEq] at hg
    subst hg
    exact ⟨hb, (Array.getElem?_eq_some_iff.1 hh).1⟩
theorem ownsRow_gro {w w' : World} {a b base : Nat} {e : TypeId} {size : Nat} {v : Value} {n : Nat} {xs : List Value} (h : w.ownsRow base e size v n xs) (hg : Gro w w' a b) (ha : a < base) (hb : b < base) : w'.ownsRow base e size v n xs := by
  refine ⟨h.1, ?_⟩
  rcases h.2 with h0 | ⟨g, cap, cur, rfl, hbg, hgg, h1, h2, h3, h4⟩
  · exact .inl h0
  · exact .inr ⟨g, cap, cur, rfl, hbg, (hg.block g (Array.getElem?_eq_some_iff.1 hgg).1 (by omega) (by omega)).trans hgg, h1, h2, h3, h4⟩
theorem OSt.above {W w0 w w' : World} {r : OR} {s : PS} {base : Nat} (h : OSt W w0 w r s) (hb : Below base w w') (h0 : w0.heap.size ≤ base) (hW : W.heap.size ≤ base) (h1 : r.gR < base ∧ r.gA < base ∧ r.gL < base) : OSt W w0 w' r s := by
  obtain ⟨a, e, b1, b2, b3⟩ := h.ex
  refine ⟨⟨a, e, (hb.block _ h1.1).trans b1, (hb.block _ h1.2.1).trans b2, b3⟩, (hb.block _ h1.2.2).trans h.lb, ?_, h.base.trans (hb.mono hW)⟩
  exact ⟨hb.os.trans h.gr.os, hb.tape.trans h.gr.tape, hb.output.trans h.gr.output, Nat.le_trans h.gr.size hb.size, fun k hk n1 n2 => (hb.block k (by omega)).trans (h.gr.block k hk n1 n2)⟩
def FuelO (m n : Nat) : PS → Prop
  | .ok i => m < i + n
  | .bad _ => 1 ≤ n
theorem FuelO.pos {m n : Nat} {s : PS} (h : FuelO m n s) (hs : ∀ i, s = .ok i → i ≤ m) : 1 ≤ n := by
  cases s with
  | ok i => have := hs i rfl; have h2 : m < i + n := h; omega
  | bad e => exact h
theorem keys_bad (ts : List Tk) (n : Nat) (l : List KmD) (e : Nat) : keysA ts n l (.bad e) = (l, .bad e) := by
  cases n <;> rfl
theorem keys_ok (ts : List Tk) (n : Nat) (l : List KmD) (i : Nat) : keysA ts (n + 1) l (.ok i) = if (nxt ts i).kind = 2 then keysA ts n (l ++ [⟨(numA ts (.ok i)).1, (numA ts (stepA ts 3 [47] (numA ts (.ok i)).2)).1⟩]) (numA ts (stepA ts 3 [47] (numA ts (.ok i)).2)).2 else (l, .ok i) := rfl
theorem take_stepO (ts : List Tk) (k : Nat) (hk : 1 ≤ k) (txt : List UInt8) (s : PS) : (∃ e, (takeA ts k txt s).2 = .bad e) ∨ ∃ i, s = .ok i ∧ i < ts.length ∧ (takeA ts k txt s).2 = .ok (i + 1) := by
  cases s with
  | bad e => exact .inl ⟨e, rfl⟩
  | ok i =>
    rw [take_ok]
    split
    · exact .inl ⟨5, rfl⟩
    · rename_i h
      refine .inr ⟨i, rfl, ?_, rfl⟩
      rcases Nat.lt_or_ge i ts.length with h1 | h1
      · exact h1
      · exfalso
        apply h
        left
        rw [nxt_out h1]
        intro h2
        exact absurd h2 (by show (0 : Nat) ≠ k; omega)
theorem fuel_take {m n : Nat} {ts : List Tk} {k : Nat} {txt : List UInt8} {s : PS} (hk : 1 ≤ k) (hn : 1 ≤ n) (h : FuelO m (n + 1) s) : FuelO m n (takeA ts k txt s).2 := by
  rcases take_stepO ts k hk txt s with ⟨e, h1⟩ | ⟨i, rfl, _, h1⟩
  · rw [h1]; exact hn
  · rw [h1]; have h2 : m < i + (n + 1) := h; show m < i + 1 + n; omega
theorem fuel_keep {m n : Nat} {ts : List Tk} {k : Nat} {txt : List UInt8} {s : PS} (hk : 1 ≤ k) (hn : 1 ≤ n) (h : FuelO m n s) : FuelO m n (takeA ts k txt s).2 := by
  rcases take_stepO ts k hk txt s with ⟨e, h1⟩ | ⟨i, rfl, _, h1⟩
  · rw [h1]; exact hn
  · rw [h1]; have h2 : m < i + n := h; show m < i + 1 + n; omega
theorem info_km : (Tryz.prog.info? 68).map (fun i => (i.zero, i.size, i.bytes)) = some (some (.agg #[.int .u32 0, .int .u32 0]), 2, 8) := by kernel_rfl
def leftO : Value → Nat
  | .slice _ n _ => 5000 - n
  | _ => 0
@[reducible] def pR (r : OR) : Value := .pointer (some ⟨r.gR, 0, none⟩)
theorem tk_kindO (a b c d : Value) (w : World) : (Instr.field 191 (.agg #[a, b, c, d]) 0).run Tryz.prog w = .ok a w := by kernel_rfl
def KeysEnd (W w : World) (r : OR) (R : List KmD × PS) (e : Ending) (w' : World) : Prop :=
  ∃ A c, e = .returned (.slice A R.1.length c) ∧ w'.ownsRow w.heap.size 68 2 (.slice A R.1.length c) R.1.length (R.1.flatMap KmD.cells) ∧ OSt W w w' r R.2
set_option maxRecDepth 100000 in
set_option maxHeartbeats 16000000 in
theorem okeys {W w : World} {r : OR} {s : PS} (E : OEnv W r) (h : OSt W w w r s) :
    Calls Tryz.prog 132 #[.pointer (some ⟨r.gR, 0, none⟩)] w (KeysEnd W w r (keysA r.x.l (r.x.l.length + 2) [] s)) := by
  have HE := Lib.hid E
  have HLT := Lib.hid h.lt
  have HH := Lib.hid h
  have HFew := Lib.hid E.few
  have HBW := Lib.hid h.base.size
  obtain ⟨m, hm⟩ : ∃ m, m = r.x.l.length := ⟨_, rfl⟩
  have HM := Lib.hid hm
  obtain ⟨R, hR⟩ : ∃ R, R = keysA r.x.l (r.x.l.length + 2) [] s := ⟨_, rfl⟩
  rw [← hR]
  have HR : Hid (keysA r.x.l (m + 2) [] s = R) := Lib.hid (by rw [hR, hm])
  have HF : Hid (FuelO m (m + 2) s) := Lib.hid (by
    cases s with
    | ok i => show m < i + (m + 2); omega
    | bad e => show 1 ≤ m + 2; omega)
  clear hR hm E h
  obtain ⟨i0, hi, hz0, hz1, hz2⟩ := info_parts info_km
  go_enter Tryz.func132, Tryz.ntmps132
  go_wp2
  go_loopw [3, 4] (fun lv _ wr => ∃ (n : Nat) (l : List KmD) (A : Option Addr) (c : Nat) (s : PS), lv = .slice A l.length c ∧ l.length + n ≤ m + 2 ∧ Hid (FuelO m n s) ∧ Hid (keysA r.x.l n l s = R) ∧ Hid (wr.ownsRow w.heap.size 68 2 (.slice A l.length c) l.length (l.flatMap KmD.cells)) ∧ Hid (OSt W w wr r s))
    (fun lv _ _ => leftO lv)
  case atStart => exact ⟨m + 2, [], none, 0, s, rfl, by simp, HF, HR, Lib.hid (World.ownsRow_nil _ _ _ _), HH⟩
  case round =>
    obtain ⟨n, l, A, c, s, rfl, hln, HF, HR, HOw, HS⟩ := hrel
    clear HH
    cases s with
    | bad e =>
      obtain ⟨bR, he⟩ := HS.out.badc
      have c11 : wr.cell? ⟨r.gR, 11, none⟩ = some (.int .i64 e) := bR.cell 11
      have he' : ((e : Int) == 0) = false := beq_eq_false_iff_ne.2 (by omega)
      have HR2 : Hid (R = (l, .bad e)) := Lib.hid (by rw [← HR.out, keys_bad])
      clear bR he HR
      go_wp2
      go_ret
      rw [HR2.out]
      exact ⟨A, c, rfl, HOw.out, HS.out⟩
    | ok i =>
      obtain ⟨bR, bA, hi1⟩ := HS.out.okc
      have hn1 : 1 ≤ n := HF.out.pos (fun j hj => by injection hj with hj; rw [← hj, HM.out]; exact hi1)
      obtain ⟨n, rfl⟩ : ∃ k, n = k + 1 := ⟨n - 1, by omega⟩
      have c11 : wr.cell? ⟨r.gR, 11, none⟩ = some (.int .i64 0) := bR.cell 11
      have c10 : wr.cell? ⟨r.gR, 9, none⟩ = some (nextF r) := bR.cell 9
      unfold nextF at c10
      have HN := Lib.hid (onext_any r.x i r.gA r.gL wr (HE.out.toks.below HS.out.base (Nat.le_refl _)) bA HS.out.lb)
      have HK := Lib.hid (keys_ok r.x.l n l i)
      have HTK : Hid ((nxt r.x.l i).kind = 2 → i < r.x.l.length) := Lib.hid (fun h2 => by
        rcases Nat.lt_or_ge i r.x.l.length with h1 | h1
        · exact h1
        · rw [nxt_out h1] at h2; cases h2)
      clear bR bA hi1 hn1
      by_cases hk : (nxt r.x.l i).kind = 2
      · have HR2 := Lib.hid (HR.out.symm.trans (HK.out.trans (if_pos hk)))
        have HIL := Lib.hid (HTK.out hk)
        have hkk : (((nxt r.x.l i).kind : Int) == 2) = true := beq_iff_eq.2 (by omega)
        have HF1 : Hid (FuelO m n (numA r.x.l (.ok i)).2) := Lib.hid (by
          have h1 := HF.out
          have h2 : m < i + (n + 1) := h1
          have h3 := HM.out
          have h4 := HIL.out
          exact fuel_take (by decide) (by omega) h1)
        have HN1 : Hid (1 ≤ n) := Lib.hid (by have h2 : m < i + (n + 1) := HF.out; have := HM.out; have := HIL.out; omega)
        clear hk HR HK HF HTK
        generalize nxt r.x.l i = t at *
        obtain ⟨tk, tx, tv, tl⟩ := t
        simp only at hkk HN
        go_wp2_with fail
        refine HN.out.mono ?_
        rintro e1 w1 ⟨rfl, hb1⟩
        have hfk := tk_kindO (.int .i64 tk) (.string ⟨tx.toArray⟩) (.int .u32 tv) (.int .i64 tl)
        have HS1 := Lib.hid (HS.out.below hb1)
        have HOw1 := Lib.hid (ownsRow_below HOw.out hb1)
        have HSz1 := Lib.hid (show wr.heap.size ≤ w1.heap.size from hb1.size)
        clear hb1 HN c11 c10
        go_wp2_with fail
        refine (onumber HE.out HS1.out.refl).mono ?_
        rintro e1 w2 ⟨rfl, h2⟩
        have HS2 := Lib.hid (HS1.out.then h2)
        have HOw2 := Lib.hid (ownsRow_gro HOw1.out h2.gr (by have := HLT.out; omega) (by have := HLT.out; omega))
        clear h2 HOw1 HS1
        rcases hnu : numA r.x.l (.ok i) with ⟨v1, s1⟩
        rw [hnu] at HR2 HF1 HS2
        simp only at HR2 HF1 HS2 ⊢
        clear hnu
        go_upto_region 4 with fail
        obtain ⟨Y, hY⟩ : ∃ Y, Y = w2.alloc (.cells #[.int .u32 v1, .int .u32 0] 68) := ⟨_, rfl⟩
        have HYB : Hid (Blk Y w2.heap.size 68 #[.int .u32 v1, .int .u32 0]) := Lib.hid (by rw [hY]; exact Blk.new _ _ _)
        have HBY : Hid (Below w2.heap.size w2 Y) := Lib.hid (by rw [hY]; exact below1 _ _)
        rw [← hY]
        clear hY
        have HSY := Lib.hid (HS2.out.below HBY.out)
        have HOwY := Lib.hid (ownsRow_below HOw2.out HBY.out)
        have HNE : Hid (w2.heap.size ≠ r.gR ∧ w2.heap.size ≠ r.gA ∧ w2.heap.size ≠ r.gL ∧ w.heap.size ≤ w2.heap.size ∧ W.heap.size ≤ w2.heap.size) := Lib.hid (by
          have h1 := HS2.out.lt
          have h2 := HS2.out.gr.size
          have h3 := HBW.out
          omega)
        have HOl := Lib.hid (own_ltO HOw2.out)
        have HOb : Hid ((Value.slice A l.length c).ownBlock ≠ some w2.heap.size) := Lib.hid (fun e => by have := (HOl.out _ e).2; omega)
        have HT4 := Lib.hid (otake HE.out HSY.out.refl (s := s1) 3 (by decide) ⟨#[47]⟩)
        rw [show (⟨#[47]⟩ : ByteArray).data.toList = [47] from rfl] at HT4
        clear HS2 HOw2 HOl
        go_wp2_with fail
        refine HT4.out.mono ?_
        rintro e1 w3 ⟨rfl, h3⟩
        have HS3 := Lib.hid (HSY.out.then h3)
        have HOw3 := Lib.hid (ownsRow_gro HOwY.out h3.gr (by have := HLT.out; omega) (by have := HLT.out; omega))
        have HB3 := Lib.hid (h3.gr.blk HYB.out HNE.out.1 HNE.out.2.1)
        clear h3 HSY HOwY HYB HT4 HBY
        have HF2 : Hid (FuelO m n (stepA r.x.l 3 [47] s1)) := Lib.hid (fuel_keep (by decide) HN1.out HF1.out)
        have HSS : Hid ((takeA r.x.l 3 [47] s1).2 = stepA r.x.l 3 [47] s1) := Lib.hid rfl
        rw [HSS.out] at HS3
        generalize stepA r.x.l 3 [47] s1 = s2 at *
        clear HSS HF1
        go_wp2_with fail
        refine (onumber HE.out HS3.out.refl).mono ?_
        rintro e1 w4 ⟨rfl, h4⟩
        have HS4 := Lib.hid (HS3.out.then h4)
        have HOw4 := Lib.hid (ownsRow_gro HOw3.out h4.gr (by have := HLT.out; omega) (by have := HLT.out; omega))
        have HB4 := Lib.hid (h4.gr.blk HB3.out HNE.out.1 HNE.out.2.1)
        have HF3 : Hid (FuelO m n (numA r.x.l s2).2) := Lib.hid (fuel_keep (by decide) HN1.out HF2.out)
        clear h4 HS3 HOw3 HB3 HF2
        generalize numA r.x.l s2 = q at *
        obtain ⟨v2, s3⟩ := q
        simp only at HR2 HF3 HS4 ⊢
        have r1 : w4.cell? ⟨w2.heap.size, 1, none⟩ = some (.int .u32 0) := HB4.out.cell 1
        have g1 : w4.frozen? ⟨w2.heap.size, 1, none⟩ = false := HB4.out.frozen 1
        go_upto_region 6 with fail
        obtain ⟨Z, hZ⟩ : ∃ Z, Z = w4.setCell ⟨w2.heap.size, 1, none⟩ (.int .u32 v2) := ⟨_, rfl⟩
        have HZB : Hid (Blk Z w2.heap.size 68 #[.int .u32 v1, .int .u32 v2]) := Lib.hid (by rw [hZ]; exact HB4.out.set_ 1 (.int .u32 v2))
        have HSZ : Hid (OSt W w Z r s3) := Lib.hid (by rw [hZ]; exact HS4.out.set HNE.out.2.2.2.1 HNE.out.2.2.2.2 HNE.out.1 HNE.out.2.1 HNE.out.2.2.1 1 _)
        have HOwZ : Hid (Z.ownsRow w.heap.size 68 2 (.slice A l.length c) l.length (l.flatMap KmD.cells)) := Lib.hid (by rw [hZ]; exact own_setO HOw4.out (p := ⟨w2.heap.size, 1, none⟩) HOb.out _)
        have HZs : Hid (w.heap.size ≤ Z.heap.size) := Lib.hid HSZ.out.gr.size
        rw [← hZ]
        clear hZ HS4 HOw4 HB4 r1 g1
        have k0 : Z.cell? ⟨w2.heap.size, 0, none⟩ = some (.int .u32 v1) := HZB.out.cell 0
        have k1 : Z.cell? ⟨w2.heap.size, 1, none⟩ = some (.int .u32 v2) := HZB.out.cell 1
        have HLn := Lib.hid (show l.length ≤ 4098 by have := HM.out; have := HFew.out; omega)
        go_wp2_with (first
          | (at_builtin; refine wpList_append_own _ rfl _ _ 32 rfl w.heap.size 68 i0 _ 2 8 Tryz.underlying32 hi hz0 hz1 hz2 rfl (by decide) _ _ _ rfl (HOwZ.out.alloc _) ⟨Z.heap.size, 0, none⟩ 1 1 [.int .u32 v1, .int .u32 v2] rfl rfl ?c1 ?c2 ?c3 ?c4 ?c5 ?_))
        case c1 => exact news_allocO _ _ (by simp) [_, _] _
        case c2 => intro u hu; simp at hu; rcases hu with rfl | rfl <;> rfl
        case c3 => have := HLn.out; unfold maxLen; omega
        case c4 => have := HLn.out; omega
        case c5 => have := HZs.out; simp; omega
        intro v' w6 hown6 hgrow _
        have HS6 : Hid (OSt W w w6 r s3) := Lib.hid (HSZ.out.above (((Below.refl w.heap.size Z).alloc HZs.out _).trans (grown_below (HOwZ.out.alloc _) hgrow (by have := HZs.out; simp; omega))) (Nat.le_refl _) HBW.out HLT.out)
        obtain ⟨A', c', rfl⟩ := row_sliceO hown6
        have HO6 : Hid (w6.ownsRow w.heap.size 68 2 (.slice A' (l ++ [(⟨v1, v2⟩ : KmD)]).length c') (l ++ [(⟨v1, v2⟩ : KmD)]).length ((l ++ [(⟨v1, v2⟩ : KmD)]).flatMap KmD.cells)) := Lib.hid (by
          rw [List.length_append, List.flatMap_append]; exact hown6)
        clear hown6 hgrow HSZ HOwZ HZB k0 k1
        go_wp2
        go_roundw
        case rel => exact ⟨n, l ++ [⟨v1, v2⟩], A', c', s3, by rw [List.length_append]; rfl, by rw [List.length_append]; simp; omega, HF3, Lib.hid HR2.out.symm, HO6, HS6⟩
        case measure => have := HLn.out; simp [leftO]; omega
      · have HR2 : Hid (R = (l, .ok i)) := Lib.hid (HR.out.symm.trans (HK.out.trans (if_neg hk)))
        have hkk : (((nxt r.x.l i).kind : Int) == 2) = false := beq_eq_false_iff_ne.2 (by omega)
        clear hk HR HK HF HTK
        generalize nxt r.x.l i = t at *
        obtain ⟨tk, tx, tv, tl⟩ := t
        simp only at hkk HN
        go_wp2_with fail
        refine HN.out.mono ?_
        rintro e1 w1 ⟨rfl, hb1⟩
        have hfk := tk_kindO (.int .i64 tk) (.string ⟨tx.toArray⟩) (.int .u32 tv) (.int .i64 tl)
        have HS1 := Lib.hid (HS.out.below hb1)
        have HOw1 := Lib.hid (ownsRow_below HOw.out hb1)
        clear hb1 HN c11 c10
        go_wp2
        go_ret
        rw [HR2.out]
        exact ⟨A, c, rfl, HOw1.out, HS1.out⟩
end Go.Proofs.YtofjapcgbajmiaaGreatDoor
