/- Walks of package table's checks of keys and actions on any program. No condition but that the program lies in memory, with at most six keys. -/
import Derived.Test.YtbfjknidinkafaaGreatCkL
import Derived.Maps.OwnSet
namespace Go.Proofs.YtbfjknidinkafaaGreat
open Go.RowKit Go.Maps

/-- a set of keys, as a map holds it -/
def setL (l : List Lit) : DataW Unit := l.foldl (fun D a => D.put a (.lit (.bool true))) (.map [])
theorem setL_snoc (l : List Lit) (a : Lit) : setL (l ++ [a]) = (setL l).put a (.lit (.bool true)) := by simp [setL, List.foldl_append]
theorem setL_map (l : List Lit) : IsMap (setL l) := by
  suffices h : ∀ D : DataW Unit, IsMap D → IsMap (l.foldl (fun D a => D.put a (.lit (.bool true))) D) from h _ isMap_empty
  induction l with
  | nil => exact fun D h => h
  | cons a l ih => exact fun D h => ih _ (h.put _ _)
theorem setL_at (x : Lit) : ∀ (l : List Lit) (D : DataW Unit), IsMap D → (∀ a ∈ l, WideAt.IsKeyLit a) →
    (x ∈ l → (l.foldl (fun D a => D.put a (.lit (.bool true))) D).atKey x (.lit (.bool false)) = .lit (.bool true)) ∧
    (x ∉ l → (l.foldl (fun D a => D.put a (.lit (.bool true))) D).atKey x (.lit (.bool false)) = D.atKey x (.lit (.bool false)))
  | [], _, _, _ => ⟨fun h => (by cases h), fun _ => rfl⟩
  | a :: l, D, hD, hk => by
    obtain ⟨h1, h2⟩ := setL_at x l (D.put a (.lit (.bool true))) (hD.put _ _) (fun b hb => hk b (List.mem_cons_of_mem _ hb))
    refine ⟨fun hx => ?_, fun hx => ?_⟩
    · by_cases hxl : x ∈ l
      · exact h1 hxl
      · have e : x = a := (List.mem_cons.1 hx).resolve_right hxl
        subst e
        exact (h2 hxl).trans (atKey_put_same hD (hk x (List.mem_cons_self)) _ _)
    · have hn : x ≠ a ∧ x ∉ l := ⟨fun e => hx (e ▸ List.mem_cons_self), fun h => hx (List.mem_cons_of_mem _ h)⟩
      exact (h2 hn.2).trans (atKey_put_other hn.1 _ _)
theorem look_bool {P : Program} {w : World} {t k e : TypeId} {b n : Nat} {D : DataW Unit} (h : w.ownsMap P k (plainElem P e) b n D) (K : Keyed P k) (ht : P.underlying t = some (.map k e)) (he : P.underlying e = some .bool)
    (hz : (zeroValue e).run P w = .ok (.bool false) w) {key : Value} {kl : Lit} (hkey : keyOf P k key = some kl) (x : Bool) (hat : D.atKey kl (.lit (.bool false)) = .lit (.bool x)) :
    (Instr.lookup t (.map (some b)) key false).run P w = .ok (.bool x) w := by
  obtain ⟨v, ps, hrun, hv⟩ := h.lookup K ht hz (plainElem_bool he false) hkey
  rw [hat] at hv
  rw [hrun]
  cases v <;> simp_all [plainElem]
def ilit (a : Int) : Lit := .int .i64 a
theorem ilit_key (l : List Int) : ∀ a ∈ l.map ilit, WideAt.IsKeyLit a := by
  intro a ha
  obtain ⟨b, _, rfl⟩ := List.mem_map.1 ha
  trivial
theorem ilit_mem {l : List Int} {a : Int} : (ilit a ∈ l.map ilit) = (a ∈ l) := by
  rw [List.mem_map]
  apply propext
  constructor
  · rintro ⟨b, hb, e⟩
    injection e with _ e
    subst e; exact hb
  · exact fun h => ⟨a, h, rfl⟩
theorem look_int {w : World} {b n : Nat} {l : List Int} (h : w.ownsMap Tryz.prog 3 (plainElem (H := Unit) Tryz.prog 4) b n (setL (l.map ilit))) (a : Int) (ha : (Lit.int .i64 a).wf = true) :
    (Instr.lookup 243 (.map (some b)) (.int .i64 a) false).run Tryz.prog w = .ok (.bool (decide (a ∈ l))) w := by
  refine look_bool h (int_keyed Tryz.underlying3) Tryz.underlying243 Tryz.underlying4 (by kernel_rfl) (keyOf_int_mk Tryz.underlying3 ha) _ ?_
  obtain ⟨h1, h2⟩ := setL_at (ilit a) (l.map ilit) (.map []) isMap_empty (ilit_key l)
  rw [ilit_mem] at h1 h2
  by_cases hm : a ∈ l
  · rw [decide_eq_true hm]; exact h1 hm
  · rw [decide_eq_false hm]; exact h2 hm

theorem widthAt_le (p : ProgD) (h f : Int) : 0 ≤ widthAt p h f ∧ widthAt p h f ≤ 32 := by
  unfold widthAt
  split
  · have := okW_iff.1 (by assumption)
    omega
  · omega
@[reducible] def tabCells (t : TabD) : Array Value := #[.string t.name, .slice t.keys.A t.keys.l.length t.keys.c, .slice t.acts.A t.acts.l.length t.acts.c, .int .i64 t.defA, .slice t.args.A t.args.l.length t.args.c, .int .i64 t.size]

theorem lpmM_snoc (l : List KeyD) (x : KeyD) : lpmM (l ++ [x]) = lpmM l + if x.kind = 2 then 1 else 0 := by simp [lpmM, List.sum_append]
theorem bitsM_snoc (p : ProgD) (l : List KeyD) (x : KeyD) : bitsM p (l ++ [x]) = bitsM p l + widthAt p x.h x.f := by simp [bitsM, List.sum_append]
theorem lpmM_le (l : List KeyD) : 0 ≤ lpmM l ∧ lpmM l ≤ l.length := by
  induction l with
  | nil => exact ⟨Int.le_refl _, Int.le_refl _⟩
  | cons x l ih =>
    have : lpmM (x :: l) = (if x.kind = 2 then 1 else 0) + lpmM l := by simp [lpmM]
    rw [this, List.length_cons]
    split <;> omega
theorem bitsM_le (p : ProgD) (l : List KeyD) : 0 ≤ bitsM p l ∧ bitsM p l ≤ 32 * l.length := by
  induction l with
  | nil => exact ⟨Int.le_refl _, Int.le_refl _⟩
  | cons x l ih =>
    have : bitsM p (x :: l) = widthAt p x.h x.f + bitsM p l := by simp [bitsM]
    rw [this, List.length_cons]
    have := widthAt_le p x.h x.f
    omega
theorem keyAtM_at (p : ProgD) (l : List KeyD) (k : Nat) (h : k < l.length) : keyAtM p l k = if widthAt p l[k].h l[k].f = 0 then some ((k : Int), 8) else if ¬ (l[k].kind = 1 ∨ l[k].kind = 2 ∨ l[k].kind = 3) then some ((k : Int), 11) else none := by
  rw [keyAtM, List.getElem?_eq_getElem h]
theorem take_snoc {α : Type} (l : List α) (k : Nat) (h : k < l.length) : l.take (k + 1) = l.take k ++ [l[k]] := List.take_succ_eq_append_getElem h

set_option maxRecDepth 100000 in
set_option maxHeartbeats 4000000 in
theorem checkKeys_any (p : ProgD) (t : TabD) (w : World) (o : ProgOk w p) (ot : TabOk w t) (h6 : t.keys.l.length ≤ 6) :
    Calls Tryz.prog 172 #[.agg (progCells p), .agg (tabCells t)] w fun e w' => e = .returned (.tuple #[.int .i64 (keysM p t.keys.l).1, .int .i64 (keysM p t.keys.l).2]) ∧ Below w.heap.size w w' := by
  obtain ⟨tn, ⟨kl, kA, kc⟩, ta, td, tg, tz⟩ := t
  have HO := Lib.hid o
  have HK := Lib.hid ot.keys
  simp only at h6 HK
  obtain ⟨W, hW, hw, HB, hp⟩ := box2 w (progCells p) 31 (tabCells ⟨tn, ⟨kl, kA, kc⟩, ta, td, tg, tz⟩) 129
  have HW := Lib.hid hw
  have HW0 := Lib.hid HB
  have HR := Lib.hid (keysM.eq_1 p kl)
  have HS := Lib.hid (keyAtM_at p kl)
  have HT := Lib.hid (take_snoc kl)
  clear o ot hw
  go_enter Tryz.func172, Tryz.ntmps172
  go_upto_region 1 with fail
  rw [← hW]
  clear hW
  go_wp2
  clear HB
  go_loopw [6, 7, 8, 9, 10, 14] (fun lv bv _ _ _ iv wr => ∃ k : Nat, k ≤ kl.length ∧ iv = .int .i64 k ∧ lv = .int .i64 (lpmM (kl.take k)) ∧ bv = .int .i64 (bitsM p (kl.take k)) ∧ (∀ j, j < k → keyAtM p kl j = none) ∧ Below W.heap.size W wr) (fun _ _ _ _ _ i _ => kl.length - (intOf i).toNat)
  case atStart => exact ⟨0, Nat.zero_le _, rfl, rfl, rfl, fun j h => absurd h (Nat.not_lt_zero _), HW0.out⟩
  case round =>
    obtain ⟨k, hk, rfl, rfl, rfl, hpre, HB⟩ := hrel
    have HPre := Lib.hid hpre
    clear hpre
    have b1 := lpmM_le (kl.take k)
    have b2 := bitsM_le p (kl.take k)
    rw [List.length_take] at b1 b2
    obtain ⟨b11, b12⟩ := b1
    obtain ⟨b21, b22⟩ := b2
    by_cases hlt : k < kl.length
    · obtain ⟨g, of, hA, d0, d1, d2⟩ := KeyD.at (HK.out.below (below_step HW.out HB) (Nat.le_refl _)) hlt
      have HE := Lib.hid (HS.out k hlt)
      have HL : Hid (lpmM (kl.take (k + 1)) = lpmM (kl.take k) + if kl[k].kind = 2 then 1 else 0) := Lib.hid (by rw [HT.out k hlt, lpmM_snoc])
      have HBt : Hid (bitsM p (kl.take (k + 1)) = bitsM p (kl.take k) + widthAt p kl[k].h kl[k].f) := Lib.hid (by rw [HT.out k hlt, bitsM_snoc])
      simp only at hA d0 d1 d2
      subst hA
      generalize kl[k] = y at *
      obtain ⟨yh, yf, yk⟩ := y
      simp only at HE HL HBt d0 d1 d2
      generalize lpmM (kl.take k) = lm at *
      generalize bitsM p (kl.take k) = bm at *
      have hp1 := hp wr HB
      have hca := @World.cell?_alloc_some
      go_wp2_with fail
      refine (width_any p yh yf (wr.alloc (.cells #[.int .i64 yh, .int .i64 yf, .int .i64 yk] 231)) (HO.out.below (below_step HW.out (by first | exact HB | exact below_alloc HB _ | exact below_alloc (below_alloc HB _) _ | exact below_alloc (below_alloc (below_alloc HB _) _) _)))).mono ?_
      rintro e w2 ⟨rfl, hbN⟩
      have hk2 : w2.cell? ⟨wr.heap.size, 2, none⟩ = some (.int .i64 yk) := below_cell hbN (by simp)
      replace HB := below_step (by first | exact HB | exact below_alloc HB _ | exact below_alloc (below_alloc HB _) _ | exact below_alloc (below_alloc (below_alloc HB _) _) _) hbN
      clear hbN d0 d1 d2 hp1
      have hwl := widthAt_le p yh yf
      generalize widthAt p yh yf = wd at *
      obtain ⟨wl1, wl2⟩ := hwl
      by_cases k1 : wd = 0
      · subst k1
        have HE2 := Lib.hid (HE.out.trans (if_pos rfl))
        have HR2 := Lib.hid (HR.out.trans (show _ = ((k : Int), (8 : Int)) by rw [firstE_some hlt HPre.out HE2.out]))
        go_wp2
        go_ret2
        exact ⟨ret_pp HR2.out, below_step HW.out HB⟩
      have k1' : (wd == 0) = false := beq_eq_false_iff_ne.2 k1
      have HE2 := Lib.hid (HE.out.trans (if_neg k1))
      have hkind : yk = 2 ∨ yk = 1 ∨ yk = 3 ∨ (yk ≠ 1 ∧ yk ≠ 2 ∧ yk ≠ 3) := by omega
      rcases hkind with rfl | rfl | rfl | ⟨n1, n2, n3⟩
      · have HE3 := Lib.hid (HE2.out.trans (if_neg (by simp)))
        have HL2 := Lib.hid (HL.out.trans (show _ = lm + 1 by simp))
        go_wp2
        go_roundw
        case rel => exact ⟨k + 1, by omega, by go_num, by rw [HL2.out], by rw [HBt.out], firstE_step HPre.out HE3.out, HB⟩
        case measure => simp [intOf]; omega
      · have HE3 := Lib.hid (HE2.out.trans (if_neg (by simp)))
        have HL2 := Lib.hid (HL.out.trans (show _ = lm by simp))
        go_wp2
        go_roundw
        case rel => exact ⟨k + 1, by omega, by go_num, by rw [HL2.out], by rw [HBt.out], firstE_step HPre.out HE3.out, HB⟩
        case measure => simp [intOf]; omega
      · have HE3 := Lib.hid (HE2.out.trans (if_neg (by simp)))
        have HL2 := Lib.hid (HL.out.trans (show _ = lm by simp))
        go_wp2
        go_roundw
        case rel => exact ⟨k + 1, by omega, by go_num, by rw [HL2.out], by rw [HBt.out], firstE_step HPre.out HE3.out, HB⟩
        case measure => simp [intOf]; omega
      · have m1 : (yk == 1) = false := beq_eq_false_iff_ne.2 n1
        have m2 : (yk == 2) = false := beq_eq_false_iff_ne.2 n2
        have m3 : (yk == 3) = false := beq_eq_false_iff_ne.2 n3
        have HE3 := Lib.hid (HE2.out.trans (if_pos (fun h => h.elim n1 (fun h => h.elim n2 n3))))
        have HR2 := Lib.hid (HR.out.trans (show _ = ((k : Int), (11 : Int)) by rw [firstE_some hlt HPre.out HE3.out]))
        go_wp2
        go_ret2
        exact ⟨ret_pp HR2.out, below_step HW.out HB⟩
    · have e : k = kl.length := by omega
      have HR2 := Lib.hid (HR.out.trans (show _ = (if 1 < lpmM kl then ((-2 : Int), (7 : Int)) else if 64 < bitsM p kl then (-2, 10) else (0, 0)) by rw [firstE_none (by rw [← e]; exact HPre.out)]))
      have HL : Hid (lpmM (kl.take k) = lpmM kl) := Lib.hid (by rw [e, List.take_length])
      have HBt : Hid (bitsM p (kl.take k) = bitsM p kl) := Lib.hid (by rw [e, List.take_length])
      rw [HL.out] at b11 b12 ⊢
      rw [HBt.out] at b21 b22 ⊢
      generalize lpmM kl = lm at *
      generalize bitsM p kl = bm at *
      by_cases k1 : 1 < lm
      · replace HR2 := Lib.hid (HR2.out.trans (if_pos k1))
        go_wp2
        go_ret2
        exact ⟨ret_pp HR2.out, below_step HW.out HB⟩
      replace HR2 := Lib.hid (HR2.out.trans (if_neg k1))
      by_cases k2 : 64 < bm
      · replace HR2 := Lib.hid (HR2.out.trans (if_pos k2))
        go_wp2
        go_ret2
        exact ⟨ret_pp HR2.out, below_step HW.out HB⟩
      · replace HR2 := Lib.hid (HR2.out.trans (if_neg k2))
        go_wp2
        go_ret2
        exact ⟨ret_pp HR2.out, below_step HW.out HB⟩
end Go.Proofs.YtbfjknidinkafaaGreat

