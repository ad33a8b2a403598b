/- The names of the elements of a valid program identify them: plain law. No condition. The law's plain programs, and what the checks answer at them. No condition. The walk of the law's fixed results. No condition. -/
import Derived.Test.YtgfbikknkcaneaaGreatGa
import Derived.Test.YtgfbikknkcaneaaGreatGe
namespace Go.Proofs.YtgfbikknkcaneaaGreat
open Go.RowKit

theorem lookM_first (l : List ByteArray) (i : Nat) (hi : i < l.length) (h : dupB l i = false) : lookM l l[i] = ((i : Int), true) := by
  have e : Lib.idxOfS l l[i] = (i : Int) := by
    have := Lib.idxOfS_hit l l.length i l[i] hi (Nat.le_refl _) (by simp [hi]) (fun j hj e => by
      have hj' : j < l.length := by omega
      have : dupB l i = true := (dupB_iff hi).2 ⟨j, hj', hj, by simpa [hj'] using e⟩
      rw [h] at this; cases this)
    rwa [List.take_length] at this
  rw [lookM, e, if_neg (by omega)]
theorem orE_none {α : Type} {a b : Option α} (h : orE a b = none) : a = none ∧ b = none := by
  cases a with
  | none => exact ⟨rfl, h⟩
  | some x => cases h
theorem firstE_mem {α : Type} {f : Nat → Option α} {r : α} : ∀ {n : Nat}, firstE n f = some r → ∃ j, j < n ∧ f j = some r
  | n + 1, h => by
    rw [firstE] at h
    split at h
    · rename_i r' hr
      cases h
      obtain ⟨j, hj, e⟩ := firstE_mem hr
      exact ⟨j, by omega, e⟩
    · exact ⟨n, by omega, h⟩
/-- every name of a valid program is the first of its part -/
theorem names_first {p : ProgD} (h : checkM p = none) (part : Int) (i : Nat) (hi : i < (namesOf p part).length) : lookM (namesOf p part) (namesOf p part)[i] = ((i : Int), true) := by
  refine lookM_first _ _ hi ?_
  rw [checkM] at h
  obtain ⟨h0, h⟩ := orE_none h
  obtain ⟨h1, h⟩ := orE_none h
  obtain ⟨h2, h⟩ := orE_none h
  obtain ⟨h3, h⟩ := orE_none h
  obtain ⟨h4, h⟩ := orE_none h
  obtain ⟨h5, h6⟩ := orE_none h
  simp only [namesOf] at hi ⊢
  by_cases p1 : part = 1
  · simp only [if_pos p1] at hi ⊢
    have hi' : i < p.headers.l.length := by simpa using hi
    have := firstE_inv h1 i hi'
    rw [hdrAtM, List.getElem?_eq_getElem hi'] at this
    simp only at this
    split at this
    · cases this
    · split at this
      · cases this
      · split at this
        · cases this
        · exact Bool.eq_false_iff.2 (by assumption)
  simp only [if_neg p1] at hi ⊢
  by_cases p2 : part = 2
  · simp only [if_pos p2] at hi ⊢
    have hi' : i < p.metadata.l.length := by simpa using hi
    rw [metaM] at h2
    split at h2
    · cases h2
    · split at h2
      · cases h2
      · rename_i hf
        have := firstE_inv hf i hi'
        rw [Option.map_eq_none_iff, fldM, List.getElem?_eq_getElem hi'] at this
        simp only at this
        split at this
        · cases this
        · split at this
          · cases this
          · split at this
            · cases this
            · exact Bool.eq_false_iff.2 (by assumption)
  simp only [if_neg p2] at hi ⊢
  by_cases p3 : part = 3
  · simp only [if_pos p3] at hi ⊢
    have hi' : i < p.registers.l.length := by simpa using hi
    have := firstE_inv h3 i hi'
    rw [regAtM, List.getElem?_eq_getElem hi'] at this
    simp only at this
    split at this
    · cases this
    · split at this
      · cases this
      · exact Bool.eq_false_iff.2 (by assumption)
  simp only [if_neg p3] at hi ⊢
  by_cases p4 : part = 4
  · simp only [if_pos p4] at hi ⊢
    have hi' : i < p.actions.l.length := by simpa using hi
    have := firstE_inv h4 i hi'
    rw [actAtM, List.getElem?_eq_getElem hi'] at this
    simp only at this
    split at this
    · cases this
    · split at this
      · cases this
      · exact Bool.eq_false_iff.2 (by assumption)
  simp only [if_neg p4] at hi ⊢
  by_cases p5 : part = 5
  · simp only [if_pos p5] at hi ⊢
    have hi' : i < p.tables.l.length := by simpa using hi
    have := firstE_inv h5 i hi'
    rw [tabAtM, List.getElem?_eq_getElem hi'] at this
    simp only at this
    split at this
    · cases this
    · split at this
      · cases this
      · exact Bool.eq_false_iff.2 (by assumption)
  simp only [if_neg p5] at hi ⊢
  by_cases p6 : part = 6
  · simp only [if_pos p6] at hi ⊢
    have hi' : i < p.states.l.length := by simpa using hi
    rw [flowM] at h6
    split at h6
    · cases h6
    · rename_i hp
      rw [parserM] at hp
      split at hp
      · simp at hp
      · split at hp
        · simp at hp
        · split at hp
          · rename_i r hr
            obtain ⟨j, hj, hj2⟩ : ∃ j, j < p.states.l.length ∧ stateAtM p j = some r := firstE_mem hr
            rw [stateAtM] at hj2
            split at hj2
            · cases hj2
            · try simp only at hj2
              split at hj2
              · cases hj2; simp at hp
              · split at hj2
                · cases hj2; simp at hp
                · split at hj2
                  · rename_i hne
                    cases hj2
                    exact absurd (by simpa using hp) hne
                  · cases hj2
          · rename_i hf
            have := firstE_inv hf i hi'
            rw [stateAtM, List.getElem?_eq_getElem hi'] at this
            simp only at this
            split at this
            · cases this
            · split at this
              · cases this
              · exact Bool.eq_false_iff.2 (by assumption)
  simp only [if_neg p6] at hi
  simp at hi

theorem orE_some {α : Type} {a b : Option α} {r : α} (h : orE a b = some r) : a = some r ∨ b = some r := by
  cases a with
  | none => exact .inr h
  | some x => exact .inl h
theorem fldM_code {l : List FieldD} {i : Nat} {e : Int} (h : fldM l i = some e) : e ≠ 0 := by
  rw [fldM] at h
  split at h
  · cases h
  · split at h
    · cases h; simp
    · split at h
      · cases h; simp
      · split at h
        · cases h; simp
        · cases h
/-- an error has a code -/
theorem checkM_code {p : ProgD} {d : DiagD} (h : checkM p = some d) : d.code ≠ 0 := by
  rw [checkM] at h
  rcases orE_some h with h | h
  · rw [limM] at h
    repeat' split at h
    all_goals first | (cases h; simp) | cases h
  rcases orE_some h with h | h
  · obtain ⟨j, _, h⟩ := firstE_mem h
    rw [hdrAtM] at h
    split at h
    · cases h
    · split at h
      · rename_i hc; cases h; exact hc
      · repeat' split at h
        all_goals first | (cases h; simp) | cases h
  rcases orE_some h with h | h
  · rw [metaM] at h
    split at h
    · cases h; simp
    · split at h
      · rename_i d' hd
        cases h
        obtain ⟨j, _, h⟩ := firstE_mem hd
        obtain ⟨e, he, rfl⟩ := Option.map_eq_some_iff.1 h
        exact fldM_code he
      · obtain ⟨j, _, h⟩ := firstE_mem h
        split at h
        · cases h; simp
        · cases h
  rcases orE_some h with h | h
  · obtain ⟨j, _, h⟩ := firstE_mem h
    rw [regAtM] at h
    split at h
    · cases h
    · split at h
      · rename_i hc; cases h; exact hc
      · split at h
        · cases h; simp
        · cases h
  rcases orE_some h with h | h
  · obtain ⟨j, _, h⟩ := firstE_mem h
    rw [actAtM] at h
    split at h
    · cases h
    · split at h
      · rename_i hc; cases h; exact hc
      · split at h
        · cases h; simp
        · cases h
  rcases orE_some h with h | h
  · obtain ⟨j, _, h⟩ := firstE_mem h
    rw [tabAtM] at h
    split at h
    · cases h
    · split at h
      · rename_i hc; cases h; exact hc
      · split at h
        · cases h; simp
        · cases h
  · rw [flowM] at h
    split at h
    · rename_i hc; cases h; exact hc
    · split at h
      · rename_i hc; cases h; exact hc
      · split at h
        · rename_i hc; cases h; exact hc
        · cases h
theorem diagM_ok {p : ProgD} (h : (diagM p).code = 0) : checkM p = none := by
  rw [diagM] at h
  cases hc : checkM p with
  | none => rfl
  | some d => rw [hc] at h; exact absurd h (checkM_code hc)
end Go.Proofs.YtgfbikknkcaneaaGreat
namespace Go.Proofs.YtgfbikknkcaneaaGreat
open Go.RowKit

def nilL {α : Type} : L α := ⟨[], none, 0⟩
def metaP (z : Int) : List FieldD := [⟨⟨#[105, 110]⟩, 8⟩, ⟨⟨#[111, 117, 116]⟩, 8⟩, ⟨⟨#[100, 114, 111, 112]⟩, z⟩]
def stateP : List StateD := [⟨⟨#[115]⟩, nilL, false, 0, 0, nilL, -1⟩]
/-- Plain, with the width of the third field -/
def plainD (z : Int) (g g2 : Nat) : ProgD := ⟨⟨#[112]⟩, nilL, ⟨metaP z, some ⟨g, 0, none⟩, 3⟩, nilL, nilL, nilL, ⟨stateP, some ⟨g2, 0, none⟩, 1⟩, nilL, nilL⟩
def emptyD : ProgD := ⟨⟨#[]⟩, nilL, nilL, nilL, nilL, nilL, nilL, nilL, nilL⟩
def metaCells (z : Int) : Array Value := #[.string ⟨#[105, 110]⟩, .int .i64 8, .string ⟨#[111, 117, 116]⟩, .int .i64 8, .string ⟨#[100, 114, 111, 112]⟩, .int .i64 z]
def stateCells : Array Value := #[.string ⟨#[115]⟩, .slice none 0 0, .bool false, .int .i64 0, .int .i64 0, .slice none 0 0, .int .i64 (-1)]
theorem nil_ok {α : Type} (w : World) (k : Nat) (cells : α → List Value) : LOk w k cells nilL := ⟨Nat.zero_le _, .inl rfl⟩
theorem plain_ok {w : World} {z : Int} {g g2 : Nat} (h : Blk w g 63 (metaCells z)) (h2 : Blk w g2 73 stateCells) : ProgOk w (plainD z g g2) where
  name := by show (1 : Nat) ≤ _; unfold maxLen; omega
  headers := nil_ok _ _ _
  hdr := fun _ h => by cases h
  metadata := by
    refine ⟨by show (3 : Nat) ≤ maxLen; unfold maxLen; omega, .inr ⟨g, 0, rfl, h.lt, fun i hi j hj => ?_⟩⟩
    have hi' : i < 3 := hi
    rw [h.cell]
    match i, hi', j, hj with
    | 0, _, 0, _ => rfl
    | 0, _, 1, _ => rfl
    | 1, _, 0, _ => rfl
    | 1, _, 1, _ => rfl
    | 2, _, 0, _ => rfl
    | 2, _, 1, _ => rfl
  mnames := fun f hf => by
    simp only [plainD, metaP, List.mem_cons, List.not_mem_nil, or_false] at hf
    rcases hf with rfl | rfl | rfl
    · show (2 : Nat) ≤ maxLen; unfold maxLen; omega
    · show (3 : Nat) ≤ maxLen; unfold maxLen; omega
    · show (4 : Nat) ≤ maxLen; unfold maxLen; omega
  registers := nil_ok _ _ _
  rnames := fun _ h => by cases h
  actions := nil_ok _ _ _
  act := fun _ h => by cases h
  tables := nil_ok _ _ _
  tab := fun _ h => by cases h
  states := by
    refine ⟨by show (1 : Nat) ≤ maxLen; unfold maxLen; omega, .inr ⟨g2, 0, rfl, h2.lt, fun i hi j hj => ?_⟩⟩
    have hi' : i < 1 := hi
    rw [h2.cell]
    match i, hi', j, hj with
    | 0, _, 0, _ => rfl
    | 0, _, 1, _ => rfl
    | 0, _, 2, _ => rfl
    | 0, _, 3, _ => rfl
    | 0, _, 4, _ => rfl
    | 0, _, 5, _ => rfl
    | 0, _, 6, _ => rfl
  state := fun s hs => by
    simp only [plainD, stateP, List.mem_cons, List.not_mem_nil, or_false] at hs
    subst hs
    exact ⟨by show (1 : Nat) ≤ maxLen; unfold maxLen; omega, nil_ok _ _ _, nil_ok _ _ _⟩
  control := nil_ok _ _ _
  ctl := by show CtlsOk w []; rw [CtlsOk]; trivial
  deparser := nil_ok _ _ _
theorem plain_cap (z : Int) (g g2 : Nat) : ProgCap (plainD z g g2) where
  fields := fun _ h => by cases h
  params := fun _ h => by cases h
  dep := Nat.le_refl _
  dflt := fun _ h => by cases h
  args := fun _ h => by cases h
  cases := fun s hs c hc => by
    simp only [plainD, stateP, List.mem_cons, List.not_mem_nil, or_false] at hs
    subst hs
    cases hc
theorem plain_fit (z : Int) (g g2 : Nat) : ProgFit (plainD z g g2) where
  headers := Nat.zero_le _
  hdr := fun _ h => by cases h
  metadata := by show (3 : Nat) ≤ 100; omega
  registers := Nat.zero_le _
  actions := Nat.zero_le _
  act := fun _ h => by cases h
  tables := Nat.zero_le _
  tab := fun _ h => by cases h
  states := by show (1 : Nat) ≤ 100; omega
  state := fun s hs => by
    simp only [plainD, stateP, List.mem_cons, List.not_mem_nil, or_false] at hs
    subst hs
    exact ⟨Nat.zero_le _, Nat.zero_le _⟩
  control := Nat.zero_le _
  conds := fun _ h => by cases h
  deparser := Nat.zero_le _
theorem plain_short (z : Int) (g g2 : Nat) : Short (plainD z g g2) := ⟨Nat.zero_le _, by show (3 : Nat) ≤ 100; omega, Nat.zero_le _, Nat.zero_le _, Nat.zero_le _, by show (1 : Nat) ≤ 100; omega⟩
theorem empty_ok (w : World) : ProgOk w emptyD := ⟨Nat.zero_le _, nil_ok _ _ _, fun _ h => (by cases h), nil_ok _ _ _, fun _ h => (by cases h), nil_ok _ _ _, fun _ h => (by cases h), nil_ok _ _ _, fun _ h => (by cases h), nil_ok _ _ _, fun _ h => (by cases h), nil_ok _ _ _, fun _ h => (by cases h), nil_ok _ _ _, (by show CtlsOk w []; rw [CtlsOk]; trivial), nil_ok _ _ _⟩
theorem empty_cap : ProgCap emptyD := ⟨fun _ h => (by cases h), fun _ h => (by cases h), Nat.le_refl _, fun _ h => (by cases h), fun _ h => (by cases h), fun _ h => (by cases h)⟩
theorem plain_diag (g g2 : Nat) : diagM (plainD 1 g g2) = ⟨0, 0, 0, 0⟩ := by kernel_rfl
theorem bad_diag (g g2 : Nat) : diagM (plainD 2 g g2) = ⟨5, 2, 2, 0⟩ := by kernel_rfl
theorem empty_diag : diagM emptyD = ⟨6, 0, 0, 0⟩ := by kernel_rfl
theorem plain_look (g g2 : Nat) : lookM (namesOf (plainD 1 g g2) 2) ⟨#[100, 114, 111, 112]⟩ = (2, true) := by kernel_rfl
theorem plain_bad (g g2 g3 g4 : Nat) : ¬ (plainD 1 g g2).bare = (plainD 2 g3 g4).bare := fun h => by
  have := congrArg ProgP.metadata h
  simp [ProgD.bare, plainD, metaP] at this

set_option maxRecDepth 100000 in
set_option maxHeartbeats 4000000 in
theorem plain_any (w : World) :
    Calls Tryz.prog 49 #[] w fun e w' => ∃ g g2, e = .returned (.agg (progCells (plainD 1 g g2))) ∧ Blk w' g 63 (metaCells 1) ∧ Blk w' g2 73 stateCells ∧ w.heap.size ≤ g ∧ w.heap.size ≤ g2 ∧ g ≠ g2 ∧ Below w.heap.size w w' := by
  go_enter Tryz.func49, Tryz.ntmps49
  go_wp2
  refine bodyPost_ret (v := .agg (progCells (plainD 1 (w.heap.size + 1) (w.heap.size + 1 + 1)))) ?_ rfl ?_
  · exact results_cell_row (fn := Tryz.f49) (p := 0) (ty := 31) rfl _ _ w.heap.size 31 (progCells (plainD 1 (w.heap.size + 1) (w.heap.size + 1 + 1))) (0, 0) _ rfl (((Blk.new _ _ _).alloc _).alloc _) Tryz.underlying31 rfl (by kernel_rfl)
  · refine ⟨_, _, rfl, ?_, ?_, Nat.le_succ _, by omega, by omega, below3 _ _ _ _⟩
    · have b1 : Blk ((w.alloc (.cells (progCells (plainD 1 (w.heap.size + 1) (w.heap.size + 1 + 1))) 31)).alloc (.cells (metaCells 1) 63)) (w.heap.size + 1) 63 (metaCells 1) := by
        simpa using Blk.new (w.alloc (.cells (progCells (plainD 1 (w.heap.size + 1) (w.heap.size + 1 + 1))) 31)) 63 (metaCells 1)
      exact b1.alloc _
    · have b2 : Blk (((w.alloc (.cells (progCells (plainD 1 (w.heap.size + 1) (w.heap.size + 1 + 1))) 31)).alloc (.cells (metaCells 1) 63)).alloc (.cells stateCells 73)) (w.heap.size + 1 + 1) 73 stateCells := by
        simpa using Blk.new ((w.alloc (.cells (progCells (plainD 1 (w.heap.size + 1) (w.heap.size + 1 + 1))) 31)).alloc (.cells (metaCells 1) 63)) 73 stateCells
      exact b2
end Go.Proofs.YtgfbikknkcaneaaGreat
namespace Go.Proofs.YtgfbikknkcaneaaGreat
open Go.RowKit

theorem box_cells {w1 U : World} {cs : Array Value} {t : TypeId} (h : U = w1.alloc (.cells cs t)) : Blk U w1.heap.size t cs ∧ Below w1.heap.size w1 U ∧ U.heap.size = w1.heap.size + 1 := by
  subst h
  exact ⟨Blk.new _ _ _, below1 _ _, by simp⟩
theorem blk_cells {w : World} {g n : Nat} {t : TypeId} {cs : Array Value} (h : Blk w g t cs) (w' : World) (hb : Below w.heap.size w w') : ∀ i, i < n → w'.cell? ⟨g, i, none⟩ = cs[i]? := fun i _ => (h.below hb h.lt).cell i
theorem eql_diag (a b c d : Int) (w : World) : Sem.run Tryz.prog (binOp .eql 45 (.agg #[.int .i64 a, .int .i64 b, .int .i64 c, .int .i64 d]) (.agg #[.int .i64 a, .int .i64 b, .int .i64 c, .int .i64 d])) w = .ok (.bool true) w := by
  have hS : Tryz.prog.underlying 45 = some (.struct (Tryz.prog.fieldsOf 45)) := by kernel_rfl
  have hp : Tryz.prog.stoodInHeld 45 = false := by kernel_rfl
  have u0 := Tryz.underlying3
  have a0 := Tryz.isAgg3
  have z0 := Tryz.sizeOf3
  have u1 := Tryz.underlying43
  have a1 := Tryz.isAgg43
  have z1 := Tryz.sizeOf43
  rw [run_eql_struct, show (10000 : Nat) = 9999 + 1 from rfl, run_equalIn_agg w 9999 45 _ _ hS hp]
  simp only [Program.fieldsOf, Tryz.underlying45]
  go_simp
theorem diag_code (a b c d : Int) (w : World) : (Instr.field 45 (.agg #[.int .i64 a, .int .i64 b, .int .i64 c, .int .i64 d]) 0).run Tryz.prog w = .ok (.int .i64 a) w := by kernel_rfl
theorem check_plain (g g2 : Nat) (w : World) (o : ProgOk w (plainD 1 g g2)) : Calls Tryz.prog 19 #[.agg (progCells (plainD 1 g g2))] w fun e w' => e = .returned (.agg #[.int .i64 0, .int .i64 0, .int .i64 0, .int .i64 0]) ∧ Below w.heap.size w w' := by
  have h := check_any (plainD 1 g g2) w o (plain_cap _ _ _) (Nat.zero_le _)
  rw [plain_diag] at h
  exact h
theorem check_bad (g g2 : Nat) (w : World) (o : ProgOk w (plainD 2 g g2)) : Calls Tryz.prog 19 #[.agg (progCells (plainD 2 g g2))] w fun e w' => e = .returned (.agg #[.int .i64 5, .int .i64 2, .int .i64 2, .int .i64 0]) ∧ Below w.heap.size w w' := by
  have h := check_any (plainD 2 g g2) w o (plain_cap _ _ _) (Nat.zero_le _)
  rw [bad_diag] at h
  exact h
theorem check_empty (w : World) : Calls Tryz.prog 19 #[.agg (progCells emptyD)] w fun e w' => e = .returned (.agg #[.int .i64 6, .int .i64 0, .int .i64 0, .int .i64 0]) ∧ Below w.heap.size w w' := by
  have h := check_any emptyD w (empty_ok w) empty_cap (Nat.zero_le _)
  rw [empty_diag] at h
  exact h
theorem look_plain (g g2 : Nat) (w : World) (o : ProgOk w (plainD 1 g g2)) : Calls Tryz.prog 23 #[.agg (progCells (plainD 1 g g2)), .int .i64 2, .string ⟨#[100, 114, 111, 112]⟩] w fun e w' => e = .returned (.tuple #[.int .i64 2, .bool true]) ∧ Below w.heap.size w w' := by
  have h := lookup_any (plainD 1 g g2) 2 ⟨#[100, 114, 111, 112]⟩ w o (plain_short _ _ _)
  rw [plain_look] at h
  exact h
set_option maxRecDepth 100000 in
set_option maxHeartbeats 16000000 in
theorem works_any (w : World) : Calls Tryz.prog 18 #[] w fun e w' => e = .returned (.bool true) ∧ Below w.heap.size w w' := by
  go_enter Tryz.func18, Tryz.ntmps18
  go_wp2_with fail
  refine (plain_any w).mono ?_
  rintro e w1 ⟨g, g2, rfl, hm, hs, hg, hg2, hgg, hb1⟩
  refine Exists.elim (⟨_, rfl⟩ : ∃ U, U = w1.alloc (.cells (progCells (plainD 1 g g2)) 31)) fun U hU => ?_
  obtain ⟨k1, hu, hsz⟩ := box_cells hU
  have HM := Lib.hid (hm.below hu hm.lt)
  have HS := Lib.hid (hs.below hu hs.lt)
  have HK := Lib.hid k1
  have HB := Lib.hid (below_step hb1 hu)
  have HG := Lib.hid (And.intro hm.lt (And.intro hs.lt (And.intro hsz hb1.size)))
  have hp := blk_cells (n := 9) k1 U (Below.refl _ _)
  clear hm hs k1 hu hsz hb1 hg hg2 hgg
  go_upto_region 2 with fail
  rw [← hU]
  clear hU
  go_wp2_with fail
  refine (clone_any (plainD 1 g g2) U (plain_ok HM.out HS.out) (plain_fit _ _ _)).mono ?_
  clear hp
  rintro e w2 ⟨q, rfl, hbare, hown, hb2⟩
  refine Exists.elim (⟨_, rfl⟩ : ∃ U2, U2 = w2.alloc (.cells (progCells q) 31)) fun U2 hU2 => ?_
  obtain ⟨k2, hu2, hsz2⟩ := box_cells hU2
  have HBare := Lib.hid hbare
  have HO : Hid (ProgOwn U2 (fun x => x < U2.heap.size) q) := Lib.hid (hown.moves (fun x hx _ => ⟨by show x < U2.heap.size; omega, hu2.block x hx⟩))
  have HM2 := Lib.hid (HM.out.below (below_step hb2 hu2) HM.out.lt)
  have HS2 := Lib.hid (HS.out.below (below_step hb2 hu2) HS.out.lt)
  have HK1 := Lib.hid (HK.out.below (below_step hb2 hu2) HK.out.lt)
  have HK2 := Lib.hid k2
  have HB2 := Lib.hid (below_step HB.out (below_step hb2 hu2))
  have HG2 := Lib.hid (And.intro hsz2 hb2.size)
  clear hbare hown hb2 k2 hu2 hsz2 HM HS HK HB
  go_upto_region 3 with fail
  rw [← hU2]
  clear hU2
  go_wp2_with fail
  refine (plain_any U2).mono ?_
  rintro e w3 ⟨g3, g4, rfl, hm, hs, hg, hg2, hgg, hb1⟩
  refine Exists.elim (⟨_, rfl⟩ : ∃ U3, U3 = w3.alloc (.cells (progCells (plainD 1 g3 g4)) 31)) fun U3 hU3 => ?_
  obtain ⟨k3, hu, hsz⟩ := box_cells hU3
  have HM3 := Lib.hid (hm.below hu hm.lt)
  have HS3 := Lib.hid (hs.below hu hs.lt)
  have HK3 := Lib.hid k3
  have HB3 := Lib.hid (below_step hb1 hu)
  have HG3 := Lib.hid (And.intro hm.lt (And.intro hs.lt (And.intro hsz (And.intro hb1.size (And.intro hg (And.intro hg2 hgg))))))
  have hp : U3.cell? ⟨w3.heap.size, 2, none⟩ = some (.slice (some ⟨g3, 0, none⟩) 3 3) := k3.cell 2
  have z0 : U3.cell? ⟨g3, 5, none⟩ = some (.int .i64 1) := HM3.out.cell 5
  have z1 : U3.frozen? ⟨g3, 5, none⟩ = false := HM3.out.frozen 5
  clear hm hs k3 hu hsz hb1 hg hg2 hgg
  go_upto_region 4 with fail
  rw [← hU3]
  clear hU3
  refine Exists.elim (⟨_, rfl⟩ : ∃ V, V = U3.setCell ⟨g3, 5, none⟩ (.int .i64 2)) fun V hV => ?_
  go_upto_region 5 with fail
  rw [← hV]
  have h1 := HG.out
  have h2 := HG2.out
  have h3 := HG3.out
  have s0 : U3.heap.size = V.heap.size := by rw [hV]; simp
  have m1 : Blk V g 63 (metaCells 1) := by rw [hV]; exact (HM2.out.below HB3.out HM2.out.lt).far (by show g ≠ g3; omega) _
  have m2 : Blk V g2 73 stateCells := by rw [hV]; exact (HS2.out.below HB3.out HS2.out.lt).far (by show g2 ≠ g3; omega) _
  have b1 : Blk V w1.heap.size 31 (progCells (plainD 1 g g2)) := by rw [hV]; exact (HK1.out.below HB3.out HK1.out.lt).far (by show w1.heap.size ≠ g3; omega) _
  have b2 : Blk V w2.heap.size 31 (progCells q) := by rw [hV]; exact (HK2.out.below HB3.out HK2.out.lt).far (by show w2.heap.size ≠ g3; omega) _
  have b3 : Blk V w3.heap.size 31 (progCells (plainD 2 g3 g4)) := by rw [hV]; exact HK3.out.far (by show w3.heap.size ≠ g3; omega) _
  have m3 : Blk V g3 63 (metaCells 2) := by rw [hV]; exact HM3.out.set_ 5 _
  have m4 : Blk V g4 73 stateCells := by rw [hV]; exact HS3.out.far (by show g4 ≠ g3; omega) _
  have ow : ProgOwn V (fun x => x < U2.heap.size) q := HO.out.moves (fun x hx hF => ⟨hF, by rw [hV, Below.heap_setCell _ _ _ x (by show x ≠ g3; omega)]; exact HB3.out.block x hx⟩)
  have HBV := Lib.hid (show Below w.heap.size w V by rw [hV]; exact Below.setCell (below_step HB2.out HB3.out) (by show w.heap.size ≤ g3; have := HB2.out.size; omega) _)
  have OP := Lib.hid (plain_ok m1 m2)
  have OQ := Lib.hid (ow.ok (plain_ok m1 m2) HBare.out)
  have OB := Lib.hid (plain_ok m3 m4)
  have hp1 := fun w' h => blk_cells (n := 9) b1 w' h
  have hp2 := fun w' h => blk_cells (n := 9) b2 w' h
  have hp3 := fun w' h => blk_cells (n := 9) b3 w' h
  have HC : Below V.heap.size V V := Below.refl _ _
  clear hV h1 h2 h3 s0 m1 m2 b1 b2 b3 m3 m4 ow z0 z1 hp HG HG2 HG3 HM2 HS2 HK1 HK2 HM3 HS3 HK3 HB2 HB3 HO
  go_wp2_with fail
  refine (look_plain g g2 V OP.out).mono ?_
  rintro e w5 ⟨rfl, hbN⟩
  replace HC := below_step HC hbN
  clear hbN
  have hd1 := eql_diag 0 0 0 0
  have hd2 := eql_diag 5 2 2 0
  have hd3 := diag_code 6 0 0 0
  go_wp2_with fail
  refine (check_plain g g2 _ (OP.out.below HC)).mono ?_
  rintro e w6 ⟨rfl, hbN⟩
  replace HC := below_step HC hbN
  clear hbN
  go_wp2_with fail
  refine (check_empty _).mono ?_
  rintro e w7 ⟨rfl, hbN⟩
  replace HC := below_step HC hbN
  clear hbN
  go_wp2_with fail
  refine (check_bad g3 g4 _ (OB.out.below HC)).mono ?_
  rintro e w8 ⟨rfl, hbN⟩
  replace HC := below_step HC hbN
  clear hbN
  go_wp2_with fail
  refine (equal_any (plainD 1 g g2) q _ (OP.out.below HC) (OQ.out.below HC)).mono ?_
  rintro e w9 ⟨⟨b, rfl, hb⟩, hbN⟩
  replace HC := below_step HC hbN
  obtain rfl : b = true := hb.2 HBare.out.symm
  clear hbN hb
  go_wp2_with fail
  refine (equal_any (plainD 1 g g2) (plainD 2 g3 g4) _ (OP.out.below HC) (OB.out.below HC)).mono ?_
  rintro e w10 ⟨⟨b, rfl, hb⟩, hbN⟩
  replace HC := below_step HC hbN
  obtain rfl : b = false := Bool.eq_false_iff.2 (fun h => plain_bad _ _ _ _ (hb.1 h))
  clear hbN hb
  go_wp2
  go_ret
  exact ⟨rfl, below_step HBV.out HC⟩
end Go.Proofs.YtgfbikknkcaneaaGreat
