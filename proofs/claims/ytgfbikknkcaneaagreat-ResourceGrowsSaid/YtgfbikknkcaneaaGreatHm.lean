/- The plain law of ResourceGrows: a table of another size leaves a valid program valid, and a greater one costs no less. No code in sight. The walk of the law ResourceGrows. No condition but that the program was read from memory. The walk of the law ResourceGrows where it looks: a valid program and a table of it. No condition but that the program was read from memory. -/
import Derived.Test.YtgfbikknkcaneaaGreatHk
import Derived.Test.YtgfbikknkcaneaaGreatHl
import Derived.RegionTactic
namespace Go.Proofs.YtgfbikknkcaneaaGreat
open Go.RowKit

/-- the program with another size of table i, its tables elsewhere -/
def resize (p : ProgD) (l : List TabD) (A : Option Addr) (c : Nat) : ProgD := { p with tables := ⟨l, A, c⟩ }
def sizedT (t : TabD) (z : Int) : TabD := { t with size := z }
section
variable (p : ProgD) (l : List TabD) (A : Option Addr) (c : Nat)
theorem rz_decl (h f : Int) : declM (resize p l A c) h f = declM p h f := rfl
theorem rz_width (h f : Int) : widthAt (resize p l A c) h f = widthAt p h f := rfl
theorem rz_prim (ps : List FieldD) (x : NodeD) : primM (resize p l A c) ps x = primM p ps x := rfl
theorem rz_chk (ps : List FieldD) (n : List NodeD) : ∀ m i, chkM (resize p l A c) ps n m i = chkM p ps n m i
  | 0, i => rfl
  | m + 1, i => by
    rw [chkM, chkM]
    simp only [rz_chk ps n m, rz_prim]
theorem rz_expr (ps : List FieldD) (n : List NodeD) : exprM (resize p l A c) ps n = exprM p ps n := by
  unfold exprM
  simp only [rz_chk]
theorem rz_sized (ps : List FieldD) (n : List NodeD) (w : Int) : sizedM (resize p l A c) ps n w = sizedM p ps n w := by
  unfold sizedM
  rw [rz_expr]
theorem rz_stmt (ps : List FieldD) (s : StmtD) : stmtM (resize p l A c) ps s = stmtM p ps s := by
  unfold stmtM
  simp only [rz_expr, rz_sized, rz_decl]
  rfl
theorem rz_act (a : ActD) : actM (resize p l A c) a = actM p a := by
  unfold actM
  simp only [rz_stmt]
theorem rz_acts : actsM (resize p l A c) = actsM p := by
  unfold actsM
  refine firstE_congr fun j hj => ?_
  unfold actAtM
  simp only [rz_act]
  rfl
theorem rz_call (a : Int) (args : List Int) : callM (resize p l A c) a args = callM p a args := rfl
theorem rz_keys (k : List KeyD) : keysM (resize p l A c) k = keysM p k := rfl
theorem rz_tacts (t : TabD) : tactsM (resize p l A c) t = tactsM p t := rfl
theorem rz_parser : parserM (resize p l A c) = parserM p := rfl
theorem rz_dep : depM (resize p l A c) = depM p := rfl
theorem rz_node (hl : l.length = p.tables.l.length) (us : List Int) (x : CtlD) : nodeM (resize p l A c) us x = nodeM p us x := by
  unfold nodeM
  simp only [rz_expr]
  show (if x.kind = 1 ∨ x.kind = 3 then (if x.table < 0 ∨ (l.length : Int) ≤ x.table then _ else _) else _) = _
  rw [hl]
theorem rz_ctl (hl : l.length = p.tables.l.length) : ctlM (resize p l A c) = ctlM p := by
  unfold ctlM
  simp only [show (resize p l A c).control = p.control from rfl]
  have h : ∀ n, firstE n (nodeAtM (resize p l A c) (presM p.control.l)) = firstE n (nodeAtM p (presM p.control.l)) := fun n => firstE_congr fun j _ => by
    unfold nodeAtM
    simp only [rz_node p l A c hl]
  simp only [h]
theorem rz_flow (hl : l.length = p.tables.l.length) : flowM (resize p l A c) = flowM p := by
  unfold flowM
  rw [rz_parser, rz_ctl p l A c hl, rz_dep]
theorem rz_lim (hl : l.length = p.tables.l.length) : limM (resize p l A c) = limM p := by
  unfold limM
  show (if ident p.name = false then _ else if 8 < p.headers.l.length then _ else if 4 < p.registers.l.length then _ else if 16 < p.actions.l.length then _ else if 12 < l.length then _ else _) = _
  rw [hl]
theorem rz_tab (t : TabD) : tabM (resize p l A c) t = tabM p t := by
  unfold tabM
  rw [rz_keys, rz_tacts]
end
theorem tab_sized {p : ProgD} {t : TabD} {z : Int} (h : (tabM p t).2 = 0) (h1 : 1 ≤ z) (h2 : z ≤ 256) : (tabM p (sizedT t z)).2 = 0 := by
  unfold tabM at h ⊢
  show (if ident t.name = false then _ else if 6 < t.keys.l.length ∨ 16 < t.acts.l.length then _ else if z < 1 ∨ 256 < z then _ else if (keysM p t.keys.l).2 ≠ 0 then keysM p t.keys.l else if tactsM p t ≠ 0 then ((-3 : Int), tactsM p t) else (0, 0) : Int × Int).2 = 0
  split at h
  · cases h
  rename_i n1
  rw [if_neg n1]
  split at h
  · cases h
  rename_i n2
  rw [if_neg n2, if_neg (show ¬ (z < 1 ∨ 256 < z) by omega)]
  split at h
  · cases h
  exact h
theorem set_names (l : List TabD) (i : Nat) (hi : i < l.length) (z : Int) : (l.set i (sizedT l[i] z)).map TabD.name = l.map TabD.name := by
  rw [List.map_set]
  apply List.ext_getElem
  · simp
  · intro n h1 h2
    rw [List.getElem_set]
    split
    · rename_i e
      subst e
      simp [sizedT]
    · rfl
/-- another size leaves a valid program valid -/
theorem check_sized {p : ProgD} (h : checkM p = none) {i : Nat} (hi : i < p.tables.l.length) {z : Int} (h1 : 1 ≤ z) (h2 : z ≤ 256) (A : Option Addr) (c : Nat) :
    checkM (resize p (p.tables.l.set i (sizedT p.tables.l[i] z)) A c) = none := by
  have hl : (p.tables.l.set i (sizedT p.tables.l[i] z)).length = p.tables.l.length := by simp
  have htabs : tabsM (resize p (p.tables.l.set i (sizedT p.tables.l[i] z)) A c) = none := by
    unfold tabsM
    refine firstE_none fun k hk => ?_
    have hk0 : k < (p.tables.l.set i (sizedT p.tables.l[i] z)).length := hk
    have hk1 : k < p.tables.l.length := by rw [hl] at hk0; exact hk0
    have h3 := firstE_inv (check_parts h).2 k hk1
    rw [tabAtM_at p k hk1] at h3
    rw [tabAtM_at _ k hk, rz_tab]
    have hn : (tabM p p.tables.l[k]).2 = 0 := by
      by_cases hc : (tabM p p.tables.l[k]).2 ≠ 0
      · rw [if_pos hc] at h3; cases h3
      · exact Classical.byContradiction hc
    rw [if_neg (fun hc => hc hn)] at h3
    have hd : ¬ dupB (p.tables.l.map TabD.name) k = true := fun hc => by rw [if_pos hc] at h3; cases h3
    have hq : (tabM p ((resize p (p.tables.l.set i (sizedT p.tables.l[i] z)) A c).tables.l[k]'hk)).2 = 0 := by
      show (tabM p ((p.tables.l.set i (sizedT p.tables.l[i] z))[k]'hk0)).2 = 0
      rw [List.getElem_set]
      split
      · rename_i e
        subst e
        exact tab_sized hn h1 h2
      · exact hn
    rw [if_neg (fun hc => hc hq), if_neg]
    show ¬ dupB ((p.tables.l.set i (sizedT p.tables.l[i] z)).map TabD.name) k = true
    rw [set_names p.tables.l i hi z]
    exact hd
  have hp := h
  unfold checkM at hp ⊢
  rw [rz_lim p _ A c hl, show hdrsM (resize p (p.tables.l.set i (sizedT p.tables.l[i] z)) A c) = hdrsM p from rfl, show metaM (resize p (p.tables.l.set i (sizedT p.tables.l[i] z)) A c) = metaM p from rfl,
    show regsM (resize p (p.tables.l.set i (sizedT p.tables.l[i] z)) A c) = regsM p from rfl, rz_acts, htabs, rz_flow p _ A c hl]
  rw [(check_parts h).2] at hp
  exact hp
theorem ceil_mono {a b s : Nat} (h : a ≤ b) : ceilDiv a s ≤ ceilDiv b s := Nat.div_le_div_right (by omega)
/-- a greater table costs no less -/
theorem cost_grows {p : ProgD} (h : checkM p = none) {i : Nat} (hi : i < p.tables.l.length) {z : Int} (h1 : 1 ≤ z) (h2 : z ≤ 256) (hz : p.tables.l[i].size ≤ z) (A : Option Addr) (c : Nat) :
    (costP p i).1 ≤ (costP (resize p (p.tables.l.set i (sizedT p.tables.l[i] z)) A c) i).1 ∧ (costP p i).2 ≤ (costP (resize p (p.tables.l.set i (sizedT p.tables.l[i] z)) A c) i).2 ∧
    (p.tables.l[i].keys.l.length = 0 → costP (resize p (p.tables.l.set i (sizedT p.tables.l[i] z)) A c) i = (0, 0)) := by
  have hq := check_sized h hi h1 h2 A c
  have hi2 : i < (resize p (p.tables.l.set i (sizedT p.tables.l[i] z)) A c).tables.l.length := by show i < (p.tables.l.set i (sizedT p.tables.l[i] z)).length; simpa using hi
  have he : (resize p (p.tables.l.set i (sizedT p.tables.l[i] z)) A c).tables.l[i] = sizedT p.tables.l[i] z := by
    show (p.tables.l.set i (sizedT p.tables.l[i] z))[i]'(by simpa using hi) = _
    simp
  by_cases hk : p.tables.l[i].keys.l.length = 0
  · have e1 := cost_empty hi hk
    have e2 := cost_empty hi2 (by rw [he]; exact hk)
    rw [e1, e2]
    exact ⟨Nat.le_refl _, Nat.le_refl _, fun _ => rfl⟩
  · have e1 := cost_at h hi hk
    have e2 := cost_at hq hi2 (by rw [he]; exact hk)
    rw [e1, e2, he]
    refine ⟨?_, ?_, fun hc => absurd hc hk⟩
    all_goals
      unfold costT
      show _ ≤ _
      have hzn : p.tables.l[i].size.toNat ≤ z.toNat := by omega
      by_cases hkd : kindT p.tables.l[i].keys.l = 1
      · rw [if_pos hkd, if_pos (show kindT (sizedT p.tables.l[i] z).keys.l = 1 from hkd)]
        first | exact ceil_mono (Nat.mul_le_mul_right _ hzn) | exact Nat.le_refl _
      · rw [if_neg hkd, if_neg (show ¬ kindT (sizedT p.tables.l[i] z).keys.l = 1 from hkd)]
        exact ceil_mono (Nat.mul_le_mul_right _ hzn)
end Go.Proofs.YtgfbikknkcaneaaGreat
namespace Go.Proofs.YtgfbikknkcaneaaGreat
open Go.RowKit

theorem one_tab : ∀ u : TabD, ∀ c ∈ TabD.cells u, c.oneCell' = true := by
  intro u c hc
  simp [TabD.cells] at hc
  rcases hc with rfl | rfl | rfl | rfl | rfl | rfl <;> rfl
/-- a list's block after a store elsewhere -/
theorem lok_other {w : World} {k : Nat} {α : Type} {cells : α → List Value} {l : List α} {g c : Nat} (h : LOk w k cells ⟨l, some ⟨g, 0, none⟩, c⟩) {q : Addr} (hq : g ≠ q.block) (v : Value) : LOk (w.setCell q v) k cells ⟨l, some ⟨g, 0, none⟩, c⟩ := by
  refine ⟨h.1, ?_⟩
  rcases h.2 with h | ⟨g', o, e, hx, hc⟩
  · exact .inl h
  · simp only at e
    injection e with e
    injection e with e1 e2
    subst e1 e2
    exact .inr ⟨g, 0, rfl, by simpa [World.setCell] using hx, fun i hi j hj => (World.cell?_setCell_other w q ⟨g, 0 + i * k + j, none⟩ v (fun e => hq (by first | exact congrArg Addr.block e | exact (congrArg Addr.block e).symm))).trans (hc i hi j hj)⟩
/-- the list behind a store into a table's size -/
theorem lok_sized {w : World} {l : List TabD} {g c : Nat} (h : LOk w 6 TabD.cells ⟨l, some ⟨g, 0, none⟩, c⟩) {i : Nat} (hi : i < l.length) (z : Int) :
    LOk (w.setCell ⟨g, i * 6 + 5, none⟩ (.int .i64 z)) 6 TabD.cells ⟨l.set i (sizedT l[i] z), some ⟨g, 0, none⟩, c⟩ := by
  obtain ⟨hl, h2⟩ := h
  refine ⟨by simpa using hl, .inr ?_⟩
  rcases h2 with h0 | ⟨g', o, e, hlt, hc⟩
  · simp only at h0; subst h0; cases hi
  · simp only at e hc
    injection e with e
    injection e with e1 e2
    subst e1 e2
    refine ⟨g, 0, rfl, by simpa [World.setCell] using hlt, fun k hk j hj => ?_⟩
    have hk1 : k < l.length := by simpa using hk
    have hold := hc k hk1 j hj
    have hown := hc i hi 5 (by omega)
    show (w.setCell ⟨g, i * 6 + 5, none⟩ (.int .i64 z)).cell? ⟨g, 0 + k * 6 + j, none⟩ = (TabD.cells ((l.set i (sizedT l[i] z))[k]'(by simpa using hk1)))[j]?
    rw [List.getElem_set]
    simp only [Nat.zero_add] at hold hown ⊢
    split
    · rename_i e
      subst e
      match j, hj with
      | 0, _ => exact (World.cell?_setCell_other _ _ _ _ (by simp)).trans hold
      | 1, _ => exact (World.cell?_setCell_other _ _ _ _ (by simp)).trans hold
      | 2, _ => exact (World.cell?_setCell_other _ _ _ _ (by simp)).trans hold
      | 3, _ => exact (World.cell?_setCell_other _ _ _ _ (by simp)).trans hold
      | 4, _ => exact (World.cell?_setCell_other _ _ _ _ (by simp)).trans hold
      | 5, _ => exact World.cell?_setCell_same _ _ _ hown
    · rename_i e
      exact (World.cell?_setCell_other _ _ _ _ (fun e2 => e (by have := congrArg Addr.off e2; simp only at this; omega))).trans hold
theorem sized_ok {w : World} {p : ProgD} (o : ProgOk w p) {i : Nat} (hi : i < p.tables.l.length) {z : Int} {A : Option Addr} {c : Nat} (hl : LOk w 6 TabD.cells ⟨p.tables.l.set i (sizedT p.tables.l[i] z), A, c⟩) : ProgOk w (resize p (p.tables.l.set i (sizedT p.tables.l[i] z)) A c) :=
  ⟨o.name, o.headers, o.hdr, o.metadata, o.mnames, o.registers, o.rnames, o.actions, o.act, hl, fun t ht => by
    rcases List.mem_or_eq_of_mem_set ht with h | h
    · exact o.tab t h
    · have := o.tab _ (List.getElem_mem hi)
      subst h
      exact ⟨this.name, this.keys, this.acts, this.args⟩, o.states, o.state, o.control, o.ctl, o.deparser⟩
theorem sized_cap {p : ProgD} (o : ProgCap p) {i : Nat} (hi : i < p.tables.l.length) {z : Int} {A : Option Addr} {c : Nat} : ProgCap (resize p (p.tables.l.set i (sizedT p.tables.l[i] z)) A c) :=
  ⟨o.fields, o.params, o.dep, fun t ht => by
    rcases List.mem_or_eq_of_mem_set ht with h | h
    · exact o.dflt t h
    · have := o.dflt _ (List.getElem_mem hi)
      subst h
      exact this, fun t ht => by
    rcases List.mem_or_eq_of_mem_set ht with h | h
    · exact o.args t h
    · have := o.args _ (List.getElem_mem hi)
      subst h
      exact this, o.cases⟩
set_option maxRecDepth 100000 in
set_option maxHeartbeats 16000000 in
/-- where the law does not look: TooLarge, no such table, not valid -/
theorem grows_out (p : ProgD) (t z : Int) (w : World) (hp0 : ProgGood w p) (hout : t < 0 ∨ (0 ≤ t ∧ (p.tables.l.length : Int) ≤ t) ∨ checkM p ≠ none) :
    Calls Tryz.prog 4 #[.agg (progCells p), .int .i64 t, .int .u8 z] w fun e w' => e = .returned (.bool true) ∧ Below w.heap.size w w' := by
  obtain ⟨W, hW, hw, HB, hp⟩ := box1 w (progCells p) 31
  have HW := Lib.hid hw
  have HP := Lib.hid (hp0.ok.below hw)
  have HLp := Lib.hid (fun u (hb : Below W.heap.size W u) => tooLarge_any p u (HP.out.below hb) (len_cap hp0.control (by decide)) hp0.caps)
  have HCap := Lib.hid hp0.cap
  clear hp0 hw
  go_enter Tryz.func4, Tryz.ntmps4
  go_upto_region 1 with fail
  rw [← hW]
  clear hW
  go_wp2_with fail
  refine (HLp.out _ HB).mono ?_
  rintro e w1 ⟨⟨b, rfl, hb⟩, hbN⟩
  replace HB := below_step HB hbN
  have HS := Lib.hid hb
  clear hbN hb
  cases b with
  | true =>
    go_wp2_with fail
    refine (works34_any _).mono ?_
    rintro e w2 ⟨rfl, hbN⟩
    replace HB := below_step HB hbN
    clear hbN
    go_wp2
    go_ret
    exact ⟨rfl, below_step HW.out HB⟩
  | false =>
  have HSm := Lib.hid (HS.out rfl)
  clear HS HLp
  by_cases h1 : t < 0
  · go_wp2_with fail
    refine (works34_any _).mono ?_
    rintro e w2 ⟨rfl, hbN⟩
    replace HB := below_step HB hbN
    clear hbN
    go_wp2
    go_ret
    exact ⟨rfl, below_step HW.out HB⟩
  by_cases h2 : (p.tables.l.length : Int) ≤ t
  · go_wp2_with fail
    refine (works34_any _).mono ?_
    rintro e w2 ⟨rfl, hbN⟩
    replace HB := below_step HB hbN
    clear hbN
    go_wp2
    go_ret
    exact ⟨rfl, below_step HW.out HB⟩
  have hc : checkM p ≠ none := by
    rcases hout with h | ⟨_, h⟩ | h
    · exact absurd h h1
    · exact absurd h h2
    · exact h
  clear hout
  have hd := check_code hc
  have hck := rcheck_any p w1 (HP.out.below HB) HCap.out (Nat.le_trans HSm.out.nodes (by decide))
  rw [show dgV (checkM p) = (diagM p).val from rfl] at hck
  generalize diagM p = d at *
  obtain ⟨c, q, i, s⟩ := d
  simp only [DiagD.val] at hck hd
  have hdc := diag_code34
  have hd2 : (c != 0) = true := bne_iff_ne.2 hd
  have hd3 : (c == 0) = false := beq_eq_false_iff_ne.2 hd
  clear hd hc
  go_wp2_with fail
  refine hck.mono ?_
  rintro e w3 ⟨rfl, hbN⟩
  replace HB := below_step HB hbN
  clear hbN hck
  go_wp2_with fail
  refine (works34_any _).mono ?_
  rintro e w2 ⟨rfl, hbN⟩
  replace HB := below_step HB hbN
  clear hbN
  go_wp2
  go_ret
  exact ⟨rfl, below_step HW.out HB⟩
end Go.Proofs.YtgfbikknkcaneaaGreat
namespace Go.Proofs.YtgfbikknkcaneaaGreat
open Go.RowKit

theorem own_frozen {w : World} {B : Nat} {t : TypeId} {k n c l : Nat} {g o : Nat} {xs : List Value} (h : w.ownsRow B t k (.slice (some ⟨g, o, none⟩) l c) n xs) (j : Nat) : w.frozen? ⟨g, j, none⟩ = false := by
  rcases h.2 with ⟨e, _⟩ | ⟨g', cap, cur, e, _, hg, _⟩
  · cases e
  · injection e with e
    injection e with e
    injection e with e1 e2
    subst e1
    simp [World.frozen?, hg]
abbrev zero2 : Array Value := #[.int .i64 0, .int .i64 0]
theorem rlt1 (w : World) (o : Obj) : w.heap.size < (w.alloc o).heap.size := by simp
theorem rlt2 (w : World) (o o2 : Obj) : w.heap.size < ((w.alloc o).alloc o2).heap.size := by simp; omega
theorem rlt3 (w : World) (o o2 : Obj) : w.heap.size + 1 < ((w.alloc o).alloc o2).heap.size := by simp
theorem rsz1 (w : World) (o : Obj) : (w.alloc o).heap.size = w.heap.size + 1 := by simp
theorem below_cells {B : Nat} {w w' : World} (h : Below B w w') : ∀ q : Addr, q.block < B → w'.cell? q = w.cell? q := fun _ hq => h.cell hq
theorem below_frozens {B : Nat} {w w' : World} (h : Below B w w') : ∀ q : Addr, q.block < B → w'.frozen? q = w.frozen? q := fun _ hq => h.frozen hq
theorem Blk.at_ (w : World) {g : Nat} (h : w.heap.size = g) (t : TypeId) (cs : Array Value) : Blk (w.alloc (.cells cs t)) g t cs := h ▸ Blk.new w t cs
theorem rblk_cells {w : World} {g n : Nat} {t : TypeId} {cs : Array Value} (h : Blk w g t cs) (w' : World) (hb : Below w.heap.size w w') : ∀ i, i < n → w'.cell? ⟨g, i, none⟩ = cs[i]? := fun i _ => (h.below hb h.lt).cell i
theorem blk_far2 {w : World} {g k : Nat} {t : TypeId} {cs : Array Value} (h : Blk w g t cs) (hn : g ≠ k) (u v : Value) : Blk ((w.setCell ⟨k, 0, none⟩ u).setCell ⟨k, 1, none⟩ v) g t cs := (h.far (p := ⟨k, 0, none⟩) hn u).far (p := ⟨k, 1, none⟩) hn v
/-- the two costs in their boxes -/
def RG (X : World) (x1 y1 x2 y2 : Nat) (v8 v9 : Value) (wr : World) : Prop :=
  ∃ ga gb, v8 = .pointer (some ⟨ga, 0, none⟩) ∧ v9 = .pointer (some ⟨gb, 0, none⟩) ∧ Blk wr ga 39 #[.int .i64 (x1 : Int), .int .i64 (y1 : Int)] ∧ Blk wr gb 39 #[.int .i64 (x2 : Int), .int .i64 (y2 : Int)] ∧ Below X.heap.size X wr
set_option maxRecDepth 100000 in
set_option maxHeartbeats 16000000 in
theorem grows_in (p : ProgD) (i : Nat) (z : Int) (hz : 0 ≤ z ∧ z ≤ 255) (w : World) (hp0 : ProgGood w p) (hi : i < p.tables.l.length) (hc : checkM p = none) :
    Calls Tryz.prog 4 #[.agg (progCells p), .int .i64 i, .int .u8 z] w fun e w' => e = .returned (.bool true) ∧ Below w.heap.size w w' := by
  obtain ⟨W, hW, hw, HB, hp⟩ := box1 w (progCells p) 31
  have HW := Lib.hid hw
  have HP := Lib.hid (hp0.ok.below hw)
  have HLp := Lib.hid (fun u (hb : Below W.heap.size W u) => tooLarge_any p u (HP.out.below hb) (len_cap hp0.control (by decide)) hp0.caps)
  have HCap := Lib.hid hp0.cap
  have HNil := Lib.hid hp0.tables.nil
  have HSt := Lib.hid (fun u (hb : Below W.heap.size W u) (hN : (presM p.control.l).length ≤ 90000) => rcheck_any p u (HP.out.below hb) HCap.out hN)
  have HTc := Lib.hid (fun u (hb : Below W.heap.size W u) (hN : (presM p.control.l).length ≤ 90000) => tcost_any p i u (HP.out.below hb) HCap.out hN)
  rw [show dgV (checkM p) = (diagM p).val from rfl, diag_none hc] at HSt
  simp only [DiagD.val] at HSt
  have HF := Lib.hid (tab_fine hc hi)
  have HI := Lib.hid hi
  have HC := Lib.hid hc
  obtain ⟨g, of, hA, hq⟩ := TabD.atA HP.out.tables hi
  have HTL : Hid (LOk W 6 TabD.cells ⟨p.tables.l, some ⟨g, of, none⟩, p.tables.c⟩) := Lib.hid (hA ▸ HP.out.tables)
  have hi1 : (i : Int) < (p.tables.l.length : Int) := by omega
  clear hp0 hw hc
  simp only [progCells, hA] at hp hW HLp HSt HTc ⊢
  go_enter Tryz.func4, Tryz.ntmps4
  go_upto_region 1 with fail
  rw [← hW]
  clear hW
  go_wp2_with fail
  refine (HLp.out _ HB).mono ?_
  rintro e w1 ⟨⟨b, rfl, hb⟩, hbN⟩
  replace HB := below_step HB hbN
  have HS := Lib.hid hb
  clear hbN hb
  cases b with
  | true =>
    go_wp2_with fail
    refine (works34_any _).mono ?_
    rintro e w2 ⟨rfl, hbN⟩
    replace HB := below_step HB hbN
    clear hbN
    go_wp2
    go_ret
    exact ⟨rfl, below_step HW.out HB⟩
  | false =>
  have HSm := Lib.hid (HS.out rfl)
  clear HS HLp
  have HN := Lib.hid (Nat.le_trans HSm.out.nodes (show 60 ≤ 90000 by decide))
  have hdc := diag_code34
  go_wp2_with fail
  refine (HSt.out _ HB HN.out).mono ?_
  rintro e w2 ⟨rfl, hbN⟩
  replace HB := below_step HB hbN
  clear hbN
  have HBX := Lib.hid (show Below W.heap.size W ((w2.alloc (.cells (progCells (resize p p.tables.l (some ⟨g, of, none⟩) p.tables.c)) 31)).alloc (.cells #[] 52)) from below_step HB (below2 _ _ _))
  have HOX : Hid (((w2.alloc (.cells (progCells (resize p p.tables.l (some ⟨g, of, none⟩) p.tables.c)) 31)).alloc (.cells #[] 52)).ownsRow (w2.heap.size + 1) 52 6 (.slice (some ⟨w2.heap.size + 1, 0, none⟩) 0 0) 0 []) :=
    Lib.hid (by have := own_empty (w2.alloc (.cells (progCells (resize p p.tables.l (some ⟨g, of, none⟩) p.tables.c)) 31)) (w2.heap.size + 1) 52 6 (by simp); simpa using this)
  have HXX := Lib.hid (show Blk ((w2.alloc (.cells (progCells (resize p p.tables.l (some ⟨g, of, none⟩) p.tables.c)) 31)).alloc (.cells #[] 52)) w2.heap.size 31 (progCells (resize p p.tables.l (some ⟨g, of, none⟩) p.tables.c)) from (Blk.new _ _ _).alloc _)
  have HTn := Lib.hid HSm.out.tables
  have hb2 := fun o => below_alloc HB o
  have hb3' := fun o o2 => below_alloc (below_alloc HB o) o2
  have HSz := Lib.hid HB.size
  obtain ⟨i0, hi, hz0, hz1, hz2⟩ := info_parts info_tab
  go_wp2_with (first
    | (at_builtin; refine wpList_append_L rfl _ _ 26 rfl (w2.heap.size + 1) 52 i0 _ 6 104 Tryz.underlying26 hi hz0 hz1 hz2 rfl (by decide) _ _ _ rfl HOX.out ⟨p.tables.l, some ⟨g, of, none⟩, p.tables.c⟩ rfl (HTL.out.below HBX.out (Nat.le_refl _)) (fun e => by cases e) (fun _ => rfl) one_tab ?a3 ?a4 ?a5 ?_))
  case a3 => have := HTn.out; unfold maxLen; omega
  case a4 => have := HTn.out; omega
  case a5 => simp
  intro v3 w3 hown3 hgrow3
  have hb3 : Below (w2.heap.size + 1) ((w2.alloc (.cells (progCells (resize p p.tables.l (some ⟨g, of, none⟩) p.tables.c)) 31)).alloc (.cells #[] 52)) w3 := grown_below HOX.out hgrow3 (by simp)
  try rw [Nat.zero_add, List.nil_append] at hown3
  obtain ⟨A4, c4, rfl, _, hl4, _, had⟩ := own_list (cells := TabD.cells) (size := 6) (fun _ => rfl) hown3
  obtain ⟨g4, hg4, rfl⟩ : ∃ g4, w2.heap.size + 1 ≤ g4 ∧ A4 = some ⟨g4, 0, none⟩ := by
    rcases hl4.2 with h | ⟨g', o', e, _⟩
    · simp only at h
      have := HI.out
      rw [h] at this
      exact absurd this (by simp)
    · obtain ⟨h1, h2, h3⟩ := had _ e
      simp only at h1 h2 e
      subst h2
      exact ⟨g', h1, e⟩
  have HFr := Lib.hid (own_frozen hown3)
  have HQ3 := Lib.hid (HXX.out.below hb3 (Nat.lt_succ_self _))
  have HL4 := Lib.hid hl4
  have HB3 := Lib.hid (HBX.out.trans (hb3.mono (Nat.le_succ_of_le HSz.out)))
  have hk5 := fun j => HQ3.out.cell j
  have hkf := fun j => HQ3.out.frozen j
  have hBW3 := HB3.out
  clear hown3 hgrow3 hb3 hl4 had HXX HOX HBX HTL
  go_upto_region 5 with fail
  refine Exists.elim (⟨_, rfl⟩ : ∃ V, V = w3.setCell ⟨w2.heap.size, 5, none⟩ (.slice (some ⟨g4, 0, none⟩) p.tables.l.length c4)) fun V hV => ?_
  have HBV : Hid (Blk V w2.heap.size 31 (progCells (resize p p.tables.l (some ⟨g4, 0, none⟩) c4))) := Lib.hid (by
    rw [hV]
    have := HQ3.out.set_ 5 (.slice (some ⟨g4, 0, none⟩) p.tables.l.length c4)
    simpa [progCells, resize] using this)
  have HLV : Hid (LOk V 6 TabD.cells ⟨p.tables.l, some ⟨g4, 0, none⟩, c4⟩) := Lib.hid (by rw [hV]; exact lok_other HL4.out (by show g4 ≠ w2.heap.size; omega) _)
  have HFV : Hid (∀ j, V.frozen? ⟨g4, j, none⟩ = false) := Lib.hid (fun j => by
    rw [hV]
    have h := HFr.out j
    unfold World.frozen? at h ⊢
    rw [Below.heap_setCell _ _ _ _ (show g4 ≠ w2.heap.size by omega)]
    exact h)
  have HWV : Hid (Below W.heap.size W V) := Lib.hid (by rw [hV]; exact Below.setCell hBW3 HSz.out _)
  rw [← hV]
  have HpW := Lib.hid hp
  have HqW := Lib.hid hq
  clear hV hk5 hkf hBW3 HQ3 HL4 HFr HB3 hb2 hb3' HSt
  obtain ⟨s, HSs⟩ : ∃ s, Hid (p.tables.l[i].size = s) := ⟨_, Lib.hid rfl⟩
  have hsz : 1 ≤ s ∧ s ≤ 256 := by rw [← HSs.out]; exact HF.out.size
  have hq5 : V.cell? ⟨g, of + i * 6 + 5, none⟩ = some (.int .i64 s) := by rw [← HSs.out]; exact (hq V HWV.out).2.2.2.2.2
  have hv5 : V.cell? ⟨g4, i * 6 + 5, none⟩ = some (.int .i64 s) := by
    rcases HLV.out.2 with h | ⟨g', o', e, _, h⟩
    · have := HI.out
      simp only at h
      rw [h] at this
      exact absurd this (by simp)
    · simp only at e h
      injection e with e
      injection e with e1 e2
      subst e1 e2
      have h5 := h i HI.out 5 (by omega)
      rw [Nat.zero_add] at h5
      rw [← HSs.out]
      exact h5
  have hvf := HFV.out
  have hbox := hp V HWV.out
  have hqbox : V.cell? ⟨w2.heap.size, 5, none⟩ = some (.slice (some ⟨g4, 0, none⟩) p.tables.l.length c4) := HBV.out.cell 5
  have hn0 := Nat.zero_add (i * 6)
  obtain ⟨s1, s2⟩ := hsz
  obtain ⟨z1, z2⟩ := hz
  have hw1 : IntKind.i64.wrap z = z := IntWalk.i64_in _ (by omega)
  have hw2 : IntKind.i64.wrap (s + z) = s + z := IntWalk.i64_in _ (by omega)
  clear hp hq HB
  go_region
  go_upto_region 6 with fail
  have HM : Hid (1 ≤ min 256 (s + z) ∧ min 256 (s + z) ≤ 256 ∧ s ≤ min 256 (s + z)) := Lib.hid (by omega)
  generalize min 256 (s + z) = m at *
  refine Exists.elim (⟨_, rfl⟩ : ∃ X, X = (V.setCell ⟨g4, i * 6 + 5, none⟩ (.int .i64 m)).drew) fun X hX => ?_
  have bX : Blk X w2.heap.size 31 #[.string p.name, p.headers.v, p.metadata.v, p.registers.v, p.actions.v, .slice (some ⟨g4, 0, none⟩) p.tables.l.length c4, p.states.v, p.control.v, p.deparser.v] := by
    rw [hX]
    exact (HBV.out.far (p := ⟨g4, i * 6 + 5, none⟩) (show w2.heap.size ≠ g4 by omega) _).drew
  have lX : LOk X 6 TabD.cells ⟨p.tables.l.set i (sizedT p.tables.l[i] m), some ⟨g4, 0, none⟩, c4⟩ := by
    rw [hX]
    exact lok_sized HLV.out HI.out m
  have hBX : Below W.heap.size W X := by
    rw [hX]
    exact (Below.setCell HWV.out (show W.heap.size ≤ g4 by have := HSz.out; omega) _).drew
  rw [← hX]
  have HPX := Lib.hid (HP.out.below hBX)
  have HQX := Lib.hid (sized_ok HPX.out HI.out lX)
  have E1 : Hid (∀ u, Below X.heap.size X u → Calls Tryz.prog 13 #[.agg #[.string p.name, p.headers.v, p.metadata.v, p.registers.v, p.actions.v, .slice (some ⟨g, of, none⟩) p.tables.l.length p.tables.c, p.states.v, p.control.v, p.deparser.v], .int .i64 i] u fun e w' => e = .returned (resV (costP p i)) ∧ Below u.heap.size u w') := Lib.hid (fun u hb => HTc.out u (below_step hBX hb) HN.out)
  have E2 : Hid (∀ u, Below X.heap.size X u → Calls Tryz.prog 13 #[.agg #[.string p.name, p.headers.v, p.metadata.v, p.registers.v, p.actions.v, .slice (some ⟨g4, 0, none⟩) p.tables.l.length c4, p.states.v, p.control.v, p.deparser.v], .int .i64 i] u fun e w' => e = .returned (resV (costP (resize p (p.tables.l.set i (sizedT p.tables.l[i] m)) (some ⟨g4, 0, none⟩) c4) i)) ∧ Below u.heap.size u w') := Lib.hid (fun u hb => by
    have h := tcost_any (resize p (p.tables.l.set i (sizedT p.tables.l[i] m)) (some ⟨g4, 0, none⟩) c4) i u (HQX.out.below hb) (sized_cap HCap.out HI.out) HN.out
    have hl : (p.tables.l.set i (sizedT p.tables.l[i] m)).length = p.tables.l.length := by simp
    simpa only [progCells, resize, hl] using h)
  have HG := Lib.hid (cost_grows HC.out HI.out HM.out.1 HM.out.2.1 (Int.le_trans (Int.le_of_eq HSs.out) HM.out.2.2) (some ⟨g4, 0, none⟩) c4)
  generalize costP p i = r1 at *
  generalize costP (resize p (p.tables.l.set i (sizedT p.tables.l[i] m)) (some ⟨g4, 0, none⟩) c4) i = r2 at *
  obtain ⟨x1, y1⟩ := r1
  obtain ⟨x2, y2⟩ := r2
  simp only [resV] at E1 E2
  have HBXW := Lib.hid hBX
  have hpX := fun u (hb : Below X.heap.size X u) => HpW.out u (below_step HBXW.out hb)
  have hqX := fun u (hb : Below X.heap.size X u) => rblk_cells (n := 9) bX u hb
  have HK : Hid (∀ u, Below X.heap.size X u → u.cell? ⟨g, of + i * 6 + 1, none⟩ = some (.slice p.tables.l[i].keys.A p.tables.l[i].keys.l.length p.tables.l[i].keys.c)) := Lib.hid (fun u hb => (HqW.out u (below_step HBXW.out hb)).2.1)
  have H0 := Lib.hid (Below.refl X.heap.size X)
  have hB0 : Below X.heap.size X X := Below.refl _ _
  clear hX bX lX hBX hv5 hvf hbox hqbox hw1 hw2 hq5 HBV HLV HFV HWV HTc
  go_cut [8, 9] from 52 to 100 (fun v8 v9 wr => RG X x1 y1 x2 y2 v8 v9 wr)
  case first =>
    have hcl := @World.cell?_alloc_lt
    have hfl := @World.frozen?_alloc_old
    go_region_held3 (fun w' => Below X.heap.size X w')
      (((repeat (first | with_reducible assumption | with_reducible exact H0.out | with_reducible refine below_alloc ?_ _ | with_reducible refine below_drew ?_ | with_reducible refine below_step ?_ (by assumption) | with_reducible refine Below.setCell ?_ (by first | exact H0.out.size | exact Nat.le_succ_of_le H0.out.size | exact HBa.size | exact Nat.le_succ_of_le HBa.size | exact HBb.size | exact Nat.le_succ_of_le HBb.size) _)); done))
      (first
      | (go_at_call 13; with_reducible (refine (E1.out _ (by assumption)).mono ?_); clear E1; rintro e wa ⟨rfl, hna⟩; have HBa := below_step (by assumption) hna; have ca := below_cells hna; have fa := below_frozens hna; (try (have lwa1 : X.heap.size < wa.heap.size := (by have sa := Below.size hna; (try simp at sa); omega); have lwa1x := Nat.ne_of_lt lwa1; have lwa1y := Nat.ne_of_gt lwa1; have lwa1z := Nat.lt_succ_of_lt lwa1; have lwa1u := Nat.lt_succ_of_lt lwa1z)); (try (have lwa2 : X.heap.size + 1 < wa.heap.size := (by have sa := Below.size hna; (try simp at sa); omega); have lwa2x := Nat.ne_of_lt lwa2; have lwa2y := Nat.ne_of_gt lwa2; have lwa2z := Nat.lt_succ_of_lt lwa2; have lwa2u := Nat.lt_succ_of_lt lwa2z)); (try (have za1 : Blk wa X.heap.size 39 zero2 := (by first | exact Blk.below (Blk.drew (Blk.new _ _ _)) hna (rlt1 _ _) | exact Blk.below (Blk.drew (Blk.alloc (Blk.new _ _ _) _)) hna (rlt2 _ _ _)))); (try (have za2 : Blk wa (X.heap.size + 1) 39 zero2 := Blk.below (Blk.drew (Blk.at_ _ (rsz1 _ _) _ _)) hna (rlt3 _ _ _))))
      | (go_at_call 13; with_reducible (refine (E2.out _ (by assumption)).mono ?_); clear E2; rintro e wb ⟨rfl, hnb⟩; have HBb := below_step (by assumption) hnb; have cb := below_cells hnb; have fb := below_frozens hnb; (try (have lwb1 : X.heap.size < wb.heap.size := (by have sa := Below.size hnb; (try simp at sa); omega); have lwb1x := Nat.ne_of_lt lwb1; have lwb1y := Nat.ne_of_gt lwb1; have lwb1z := Nat.lt_succ_of_lt lwb1; have lwb1u := Nat.lt_succ_of_lt lwb1z)); (try (have lwb2 : X.heap.size + 1 < wb.heap.size := (by have sa := Below.size hnb; (try simp at sa); omega); have lwb2x := Nat.ne_of_lt lwb2; have lwb2y := Nat.ne_of_gt lwb2; have lwb2z := Nat.lt_succ_of_lt lwb2; have lwb2u := Nat.lt_succ_of_lt lwb2z)); (try (have lwb3 : wa.heap.size < wb.heap.size := (by have sa := Below.size hnb; (try simp at sa); omega); have lwb3x := Nat.ne_of_lt lwb3; have lwb3y := Nat.ne_of_gt lwb3; have lwb3z := Nat.lt_succ_of_lt lwb3; have lwb3u := Nat.lt_succ_of_lt lwb3z)); (try (have lwb4 : wa.heap.size + 1 < wb.heap.size := (by have sa := Below.size hnb; (try simp at sa); omega); have lwb4x := Nat.ne_of_lt lwb4; have lwb4y := Nat.ne_of_gt lwb4; have lwb4z := Nat.lt_succ_of_lt lwb4; have lwb4u := Nat.lt_succ_of_lt lwb4z)); have hab : Below wa.heap.size wa wb := (by first | exact hnb | exact below_step (below_alloc (Below.refl _ _) _) hnb | exact below_step (below_alloc (below_alloc (Below.refl _ _) _) _) hnb); (try have zb1 := Blk.below za1 hab lwa1); (try have zb2 := Blk.below za2 hab lwa2); (try (have zb3 : Blk wb wa.heap.size 39 zero2 := (by first | exact Blk.below (Blk.new _ _ _) hnb (rlt1 _ _) | exact Blk.below (Blk.alloc (Blk.new _ _ _) _) hnb (rlt2 _ _ _)))); (try (have zb4 : Blk wb (wa.heap.size + 1) 39 zero2 := Blk.below (Blk.at_ _ (rsz1 _ _) _ _) hnb (rlt3 _ _ _)))))
    all_goals
      have hLast : Hid (Below X.heap.size X _) := Lib.hid (by assumption)
      go_wp2_with fail
      go_meet
      case rel =>
        clear ca fa cb fb hcl hfl hpX hqX
        refine ⟨_, _, rfl, rfl, ?_, ?_, hLast.out⟩
        all_goals first
          | with_reducible exact (Blk.new _ _ _).alloc _
          | with_reducible exact Blk.at_ _ (rsz1 _ _) _ _
          | with_reducible exact (put_res (by assumption) _ _).alloc _
          | with_reducible exact Blk.at_ _ (by simp [World.setCell]) _ _
          | with_reducible exact blk_far2 (put_res (by assumption) _ _) (by omega) _ _
          | with_reducible exact put_res (blk_far2 (by assumption) (by omega) _ _) _ _
  case rest =>
  obtain ⟨ga, gb, rfl, rfl, bA, bB, hB⟩ := hcut
  have hpc := hpX _ hB
  have hkc := HK.out _ hB
  have hca := rblk_cells (n := 2) bA _ (Below.refl _ _)
  have hcb := rblk_cells (n := 2) bB _ (Below.refl _ _)
  have HBF := Lib.hid (below_step HW.out (below_step HBXW.out hB))
  have g1 : (0 : Int) ≤ x1 := Int.natCast_nonneg _
  have g2 : (0 : Int) ≤ y1 := Int.natCast_nonneg _
  have g3 : (x1 : Int) ≤ x2 := Int.ofNat_le.2 HG.out.1
  have g4' : (y1 : Int) ≤ y2 := Int.ofNat_le.2 HG.out.2.1
  have hd := eql_res 0 0
  have HGl := Lib.hid HG.out.2.2
  clear hpX hqX HG H0 hB0
  by_cases hk0 : p.tables.l[i].keys.l.length = 0
  · obtain ⟨rfl, rfl⟩ : x2 = 0 ∧ y2 = 0 := by have := HGl.out hk0; simpa using this
    have hk1 : ((p.tables.l[i].keys.l.length : Int) == 0) = true := by rw [beq_iff_eq]; omega
    clear hk0 HGl
    generalize p.tables.l[i].keys.l.length = n at *
    go_wp2_with fail
    refine (works34_any _).mono ?_
    rintro e w7 ⟨rfl, hbN⟩
    have HB7 := below_step HBF.out hbN
    go_wp2
    go_ret
    exact ⟨rfl, HB7⟩
  · have hk1 : ((p.tables.l[i].keys.l.length : Int) == 0) = false := by rw [beq_eq_false_iff_ne]; omega
    clear hk0 HGl
    generalize p.tables.l[i].keys.l.length = n at *
    go_wp2_with fail
    refine (works34_any _).mono ?_
    rintro e w7 ⟨rfl, hbN⟩
    have HB7 := below_step HBF.out hbN
    go_wp2
    go_ret
    exact ⟨rfl, HB7⟩
/-- the law, of every program -/
theorem law_grows (p : ProgD) (t z : Int) (hz : 0 ≤ z ∧ z ≤ 255) (w : World) (hp0 : ProgGood w p) :
    Calls Tryz.prog 4 #[.agg (progCells p), .int .i64 t, .int .u8 z] w fun e w' => e = .returned (.bool true) ∧ Below w.heap.size w w' := by
  by_cases hc : checkM p = none
  · by_cases h1 : t < 0
    · exact grows_out p t z w hp0 (.inl h1)
    · by_cases h2 : (p.tables.l.length : Int) ≤ t
      · exact grows_out p t z w hp0 (.inr (.inl ⟨by omega, h2⟩))
      · obtain ⟨i, rfl⟩ : ∃ i : Nat, t = i := ⟨t.toNat, by omega⟩
        exact grows_in p i z hz w hp0 (by omega) hc
  · exact grows_out p t z w hp0 (.inr (.inr hc))
end Go.Proofs.YtgfbikknkcaneaaGreat
