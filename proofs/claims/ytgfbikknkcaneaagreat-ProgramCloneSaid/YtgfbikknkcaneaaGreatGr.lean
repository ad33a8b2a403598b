/- The walk of the law ProgramClone. No condition but that the program was read from memory. -/
import Derived.Test.YtgfbikknkcaneaaGreatGo
import Derived.Test.YtgfbikknkcaneaaGreatGq
import Derived.Deep.RegionHeld3
import Derived.Deep.CutBlock
namespace Go.Proofs.YtgfbikknkcaneaaGreat
open Go.RowKit

/-- a box that a program is stored into, cell by cell -/
@[reducible] def put9 (w : World) (g : Nat) (a : ProgD) : World := ((((((((w.setCell ⟨g, 0, none⟩ (.string a.name)).setCell ⟨g, 1, none⟩ (.slice a.headers.A a.headers.l.length a.headers.c)).setCell ⟨g, 2, none⟩ (.slice a.metadata.A a.metadata.l.length a.metadata.c)).setCell ⟨g, 3, none⟩ (.slice a.registers.A a.registers.l.length a.registers.c)).setCell ⟨g, 4, none⟩ (.slice a.actions.A a.actions.l.length a.actions.c)).setCell ⟨g, 5, none⟩ (.slice a.tables.A a.tables.l.length a.tables.c)).setCell ⟨g, 6, none⟩ (.slice a.states.A a.states.l.length a.states.c)).setCell ⟨g, 7, none⟩ (.slice a.control.A a.control.l.length a.control.c)).setCell ⟨g, 8, none⟩ (.slice a.deparser.A a.deparser.l.length a.deparser.c)
@[reducible] def zero9 : Array Value := #[.string ⟨#[]⟩, .slice none 0 0, .slice none 0 0, .slice none 0 0, .slice none 0 0, .slice none 0 0, .slice none 0 0, .slice none 0 0, .slice none 0 0]
theorem Blk.put {w : World} {g : Nat} {t : TypeId} (h : Blk w g t zero9) (a : ProgD) : Blk (put9 w g a) g t (progCells a) :=
  by
    have h8 := (((((((((h.set_ 0 (.string a.name)).set_ 1 (.slice a.headers.A a.headers.l.length a.headers.c)).set_ 2 (.slice a.metadata.A a.metadata.l.length a.metadata.c)).set_ 3 (.slice a.registers.A a.registers.l.length a.registers.c)).set_ 4 (.slice a.actions.A a.actions.l.length a.actions.c)).set_ 5 (.slice a.tables.A a.tables.l.length a.tables.c)).set_ 6 (.slice a.states.A a.states.l.length a.states.c)).set_ 7 (.slice a.control.A a.control.l.length a.control.c)).set_ 8 (.slice a.deparser.A a.deparser.l.length a.deparser.c))
    simp only [zero9, List.setIfInBounds_toArray, List.set_cons_zero, List.set_cons_succ] at h8
    exact h8
theorem Blk.farput {w : World} {g g' : Nat} {t : TypeId} {cs : Array Value} (h : Blk w g t cs) (hn : g ≠ g') (a : ProgD) : Blk (put9 w g' a) g t cs :=
  (((((((((h.far (p := ⟨g', 0, none⟩) hn _).far (p := ⟨g', 1, none⟩) hn _).far (p := ⟨g', 2, none⟩) hn _).far (p := ⟨g', 3, none⟩) hn _).far (p := ⟨g', 4, none⟩) hn _).far (p := ⟨g', 5, none⟩) hn _).far (p := ⟨g', 6, none⟩) hn _).far (p := ⟨g', 7, none⟩) hn _).far (p := ⟨g', 8, none⟩) hn _)
theorem put9_size (w : World) (g : Nat) (a : ProgD) : (put9 w g a).heap.size = w.heap.size := by simp [put9, World.setCell]
theorem put9_other {w : World} {g : Nat} (a : ProgD) {k : Nat} (h : k ≠ g) : (put9 w g a).heap[k]? = w.heap[k]? := by
  unfold put9
  rw [Below.heap_setCell _ _ _ k h, Below.heap_setCell _ _ _ k h, Below.heap_setCell _ _ _ k h, Below.heap_setCell _ _ _ k h, Below.heap_setCell _ _ _ k h, Below.heap_setCell _ _ _ k h, Below.heap_setCell _ _ _ k h, Below.heap_setCell _ _ _ k h, Below.heap_setCell _ _ _ k h]
theorem lt1 (w : World) (o : Obj) : w.heap.size < (w.alloc o).heap.size := by simp
theorem lt2 (w : World) (o o2 : Obj) : w.heap.size < ((w.alloc o).alloc o2).heap.size := by simp; omega
theorem lt3 (w : World) (o o2 : Obj) : w.heap.size + 1 < ((w.alloc o).alloc o2).heap.size := by simp
theorem sz1 (w : World) (o : Obj) : (w.alloc o).heap.size = w.heap.size + 1 := by simp
theorem Blk.at_ (w : World) {g : Nat} (h : w.heap.size = g) (t : TypeId) (cs : Array Value) : Blk (w.alloc (.cells cs t)) g t cs := h ▸ Blk.new w t cs
/-- two clones of p and their boxes -/
def RC (W : World) (p : ProgD) (v3 v4 : Value) (wr : World) : Prop :=
  ∃ (ga gb : Nat) (a b : ProgD) (m : Nat), v3 = .pointer (some ⟨ga, 0, none⟩) ∧ v4 = .pointer (some ⟨gb, 0, none⟩) ∧ a.bare = p.bare ∧ b.bare = p.bare ∧ Blk wr ga 31 (progCells a) ∧ Blk wr gb 31 (progCells b) ∧
    ProgOwn wr (fun g => W.heap.size ≤ g ∧ g < m ∧ g ≠ ga ∧ g ≠ gb) a ∧ ProgOwn wr (fun g => m ≤ g ∧ g ≠ ga ∧ g ≠ gb) b ∧ m ≤ wr.heap.size ∧ Below W.heap.size W wr
theorem RC.of {W wa wb wr : World} {p a b : ProgD} {ga gb x x2 : Nat} (hba : a.bare = p.bare) (hbb : b.bare = p.bare) (hoa : ProgOwn wa (fun g => x ≤ g) a) (hob : ProgOwn wb (fun g => x2 ≤ g) b) (hab : Below wa.heap.size wa wb)
    (k : ∀ g, g < wb.heap.size → g ≠ ga → g ≠ gb → wr.heap[g]? = wb.heap[g]?) (hs : wb.heap.size ≤ wr.heap.size) (hn : W.heap.size ≤ x ∧ wa.heap.size ≤ x2 ∧ (ga < x ∨ wa.heap.size ≤ ga) ∧ (gb < x ∨ wa.heap.size ≤ gb) ∧ (ga < x2 ∨ wb.heap.size ≤ ga) ∧ (gb < x2 ∨ wb.heap.size ≤ gb))
    (bA : Blk wr ga 31 (progCells a)) (bB : Blk wr gb 31 (progCells b)) (hW : Below W.heap.size W wr) : RC W p (.pointer (some ⟨ga, 0, none⟩)) (.pointer (some ⟨gb, 0, none⟩)) wr := by
  obtain ⟨n1, n2, n3, n4, n5, n6⟩ := hn
  have hsz := hab.size
  refine ⟨ga, gb, a, b, wa.heap.size, rfl, rfl, hba, hbb, bA, bB, ?_, ?_, by omega, hW⟩
  · refine ProgOwn.moves hoa fun g hg hx => ⟨⟨by omega, hg, by omega, by omega⟩, ?_⟩
    exact (k g (by omega) (by omega) (by omega)).trans (hab.block g hg)
  · exact ProgOwn.moves hob fun g hg hx => ⟨⟨by omega, by omega, by omega⟩, k g hg (by omega) (by omega)⟩
theorem RC.of1 {W wa wb : World} {p a b : ProgD} {x x2 : Nat} (hba : a.bare = p.bare) (hbb : b.bare = p.bare) (hoa : ProgOwn wa (fun g => x ≤ g) a) (hob : ProgOwn wb (fun g => x2 ≤ g) b) (hab : Below wa.heap.size wa wb) (hn : W.heap.size ≤ x ∧ x ≤ wa.heap.size ∧ wa.heap.size ≤ x2 ∧ x2 ≤ wb.heap.size) (hW : Below W.heap.size W ((wb.alloc (.cells (progCells a) 31)).alloc (.cells (progCells b) 31))) :
    RC W p (.pointer (some ⟨wb.heap.size, 0, none⟩)) (.pointer (some ⟨wb.heap.size + 1, 0, none⟩)) ((wb.alloc (.cells (progCells a) 31)).alloc (.cells (progCells b) 31)) :=
  RC.of hba hbb hoa hob hab (fun g h1 _ _ => (Below.heap_alloc _ _ g (by rw [sz1]; omega)).trans (Below.heap_alloc _ _ g h1)) (by rw [sz1, sz1]; omega) (by have := hab.size; omega) (Blk.alloc (Blk.new _ _ _) _) (Blk.at_ _ (sz1 _ _) _ _) hW
theorem RC.of2 {W wa wb : World} {p a b : ProgD} {x x2 : Nat} (hba : a.bare = p.bare) (hbb : b.bare = p.bare) (hoa : ProgOwn wa (fun g => x ≤ g) a) (hob : ProgOwn wb (fun g => x2 ≤ g) b) (hab : Below wa.heap.size wa wb) (hn : W.heap.size ≤ x ∧ x ≤ wa.heap.size ∧ wa.heap.size ≤ x2 ∧ x2 ≤ wb.heap.size) (hW : Below W.heap.size W ((wb.alloc (.cells (progCells b) 31)).alloc (.cells (progCells a) 31))) :
    RC W p (.pointer (some ⟨wb.heap.size + 1, 0, none⟩)) (.pointer (some ⟨wb.heap.size, 0, none⟩)) ((wb.alloc (.cells (progCells b) 31)).alloc (.cells (progCells a) 31)) :=
  RC.of hba hbb hoa hob hab (fun g h1 _ _ => (Below.heap_alloc _ _ g (by rw [sz1]; omega)).trans (Below.heap_alloc _ _ g h1)) (by rw [sz1, sz1]; omega) (by have := hab.size; omega) (Blk.at_ _ (sz1 _ _) _ _) (Blk.alloc (Blk.new _ _ _) _) hW
theorem RC.of3 {W wa wb : World} {p a b : ProgD} {x x2 : Nat} {ga : Nat} (hba : a.bare = p.bare) (hbb : b.bare = p.bare) (hoa : ProgOwn wa (fun g => x ≤ g) a) (hob : ProgOwn wb (fun g => x2 ≤ g) b) (hab : Below wa.heap.size wa wb) (z : Blk wb ga 31 zero9) (hn : W.heap.size ≤ x ∧ x ≤ wa.heap.size ∧ wa.heap.size ≤ x2 ∧ x2 ≤ wb.heap.size ∧ (ga < x ∨ wa.heap.size ≤ ga) ∧ (ga < x2 ∨ wb.heap.size ≤ ga)) (hW : Below W.heap.size W ((put9 wb ga a).alloc (.cells (progCells b) 31))) :
    RC W p (.pointer (some ⟨ga, 0, none⟩)) (.pointer (some ⟨wb.heap.size, 0, none⟩)) ((put9 wb ga a).alloc (.cells (progCells b) 31)) :=
  RC.of hba hbb hoa hob hab (fun g h1 h2 _ => (Below.heap_alloc _ _ g (by rw [put9_size]; exact h1)).trans (put9_other a h2)) (by rw [sz1, put9_size]; omega) (by have := hab.size; omega) (Blk.alloc (Blk.put z a) _) (Blk.at_ _ (put9_size _ _ _) _ _) hW
theorem RC.of4 {W wa wb : World} {p a b : ProgD} {x x2 : Nat} {gb : Nat} (hba : a.bare = p.bare) (hbb : b.bare = p.bare) (hoa : ProgOwn wa (fun g => x ≤ g) a) (hob : ProgOwn wb (fun g => x2 ≤ g) b) (hab : Below wa.heap.size wa wb) (z : Blk wb gb 31 zero9) (hn : W.heap.size ≤ x ∧ x ≤ wa.heap.size ∧ wa.heap.size ≤ x2 ∧ x2 ≤ wb.heap.size ∧ (gb < x ∨ wa.heap.size ≤ gb) ∧ (gb < x2 ∨ wb.heap.size ≤ gb)) (hW : Below W.heap.size W ((put9 wb gb b).alloc (.cells (progCells a) 31))) :
    RC W p (.pointer (some ⟨wb.heap.size, 0, none⟩)) (.pointer (some ⟨gb, 0, none⟩)) ((put9 wb gb b).alloc (.cells (progCells a) 31)) :=
  RC.of hba hbb hoa hob hab (fun g h1 _ h2 => (Below.heap_alloc _ _ g (by rw [put9_size]; exact h1)).trans (put9_other b h2)) (by rw [sz1, put9_size]; omega) (by have := hab.size; omega) (Blk.at_ _ (put9_size _ _ _) _ _) (Blk.alloc (Blk.put z b) _) hW
theorem RC.of5 {W wa wb : World} {p a b : ProgD} {x x2 : Nat} {ga gb : Nat} (hba : a.bare = p.bare) (hbb : b.bare = p.bare) (hoa : ProgOwn wa (fun g => x ≤ g) a) (hob : ProgOwn wb (fun g => x2 ≤ g) b) (hab : Below wa.heap.size wa wb) (z : Blk wb ga 31 zero9) (z2 : Blk wb gb 31 zero9) (hne : ga ≠ gb) (hn : W.heap.size ≤ x ∧ wa.heap.size ≤ x2 ∧ (ga < x ∨ wa.heap.size ≤ ga) ∧ (gb < x ∨ wa.heap.size ≤ gb) ∧ (ga < x2 ∨ wb.heap.size ≤ ga) ∧ (gb < x2 ∨ wb.heap.size ≤ gb)) (hW : Below W.heap.size W (put9 (put9 wb ga a) gb b)) :
    RC W p (.pointer (some ⟨ga, 0, none⟩)) (.pointer (some ⟨gb, 0, none⟩)) (put9 (put9 wb ga a) gb b) :=
  RC.of hba hbb hoa hob hab (fun g _ h1 h2 => (put9_other b h2).trans (put9_other a h1)) (by rw [put9_size, put9_size]; exact Nat.le_refl _) hn (Blk.farput (Blk.put z a) hne b) (Blk.put (Blk.farput z2 (Ne.symm hne) a) b) hW
theorem below_cells {B : Nat} {w w' : World} (h : Below B w w') : ∀ q : Addr, q.block < B → w'.cell? q = w.cell? q := fun _ hq => h.cell hq
theorem below_frozens {B : Nat} {w w' : World} (h : Below B w w') : ∀ q : Addr, q.block < B → w'.frozen? q = w.frozen? q := fun _ hq => h.frozen hq
set_option maxRecDepth 100000 in
set_option maxHeartbeats 16000000 in
theorem law_clone (p : ProgD) (w : World) (hp0 : ProgGood w p) :
    Calls Tryz.prog 10 #[.agg (progCells p)] w fun e w' => e = .returned (.bool true) ∧ Below w.heap.size w w' := by
  obtain ⟨W, hW, hw, HB, hp⟩ := box1 w (progCells p) 31
  have HW := Lib.hid hw
  have HP := Lib.hid (hp0.ok.below hw)
  have HLp := Lib.hid (fun u (hb : Below W.heap.size W u) => tooLarge_any p u (HP.out.below hb) (len_cap hp0.control (by decide)) hp0.caps)
  clear hp0 hw
  go_enter Tryz.func10, Tryz.ntmps10
  go_upto_region 1 with fail
  rw [← hW]
  clear hW
  go_wp2_with fail
  refine (HLp.out _ HB).mono ?_
  rintro e w1 ⟨⟨b, rfl, hb⟩, hbN⟩
  replace HB := below_step HB hbN
  have HS := Lib.hid hb
  clear hbN hb HLp
  cases b with
  | true =>
    go_wp2_with fail
    refine (works_any _).mono ?_
    rintro e w2 ⟨rfl, hbN⟩
    replace HB := below_step HB hbN
    clear hbN
    go_wp2
    go_ret
    exact ⟨rfl, below_step HW.out HB⟩
  | false =>
  have HSm := Lib.hid (HS.out rfl)
  clear HS
  have HC1 := Lib.hid (fun u (hb : Below W.heap.size W u) => clone_any p u (HP.out.below hb) HSm.out.fit)
  have HC2 := Lib.hid HC1.out
  have H0 := Lib.hid HB
  go_upto_region 3 with fail
  go_cut [3, 4] from 8 to 12 (fun v3 v4 wr => RC W p v3 v4 wr)
  case first =>
    have hcl := @World.cell?_alloc_lt
    have hfl := @World.frozen?_alloc_old
    go_region_held3 (fun w' => Below W.heap.size W w')
      (((repeat (first | with_reducible assumption | with_reducible exact H0.out | with_reducible refine below_alloc ?_ _ | with_reducible refine below_drew ?_ | with_reducible refine below_step ?_ (by assumption) | with_reducible refine Below.setCell ?_ (by first | exact H0.out.size | exact Nat.le_succ_of_le H0.out.size | exact HBa.size | exact Nat.le_succ_of_le HBa.size | exact HBb.size | exact Nat.le_succ_of_le HBb.size) _)); done))
      (first
      | (go_at_call 20; with_reducible (refine (HC1.out _ (by assumption)).mono ?_); clear HC1; rintro e wa ⟨a, rfl, hba, hoa, hna⟩; have HBa := below_step (by assumption) hna; have ca := below_cells hna; have fa := below_frozens hna; (try (have lwa1 : w1.heap.size < wa.heap.size := (by have sa := Below.size hna; (try simp at sa); omega); have lwa1x := Nat.ne_of_lt lwa1; have lwa1y := Nat.ne_of_gt lwa1; have lwa1z := Nat.lt_succ_of_lt lwa1; have lwa1u := Nat.lt_succ_of_lt lwa1z)); (try (have lwa2 : w1.heap.size + 1 < wa.heap.size := (by have sa := Below.size hna; (try simp at sa); omega); have lwa2x := Nat.ne_of_lt lwa2; have lwa2y := Nat.ne_of_gt lwa2; have lwa2z := Nat.lt_succ_of_lt lwa2; have lwa2u := Nat.lt_succ_of_lt lwa2z)); (try (have za1 : Blk wa w1.heap.size 31 zero9 := (by first | exact Blk.below (Blk.drew (Blk.new _ _ _)) hna (lt1 _ _) | exact Blk.below (Blk.drew (Blk.alloc (Blk.new _ _ _) _)) hna (lt2 _ _ _)))); (try (have za2 : Blk wa (w1.heap.size + 1) 31 zero9 := Blk.below (Blk.drew (Blk.at_ _ (sz1 _ _) _ _)) hna (lt3 _ _ _))))
      | (go_at_call 20; with_reducible (refine (HC2.out _ (by assumption)).mono ?_); clear HC2; rintro e wb ⟨b, rfl, hbb, hob, hnb⟩; have HBb := below_step (by assumption) hnb; have cb := below_cells hnb; have fb := below_frozens hnb; (try (have lwb1 : w1.heap.size < wb.heap.size := (by have sa := Below.size hnb; (try simp at sa); omega); have lwb1x := Nat.ne_of_lt lwb1; have lwb1y := Nat.ne_of_gt lwb1; have lwb1z := Nat.lt_succ_of_lt lwb1; have lwb1u := Nat.lt_succ_of_lt lwb1z)); (try (have lwb2 : w1.heap.size + 1 < wb.heap.size := (by have sa := Below.size hnb; (try simp at sa); omega); have lwb2x := Nat.ne_of_lt lwb2; have lwb2y := Nat.ne_of_gt lwb2; have lwb2z := Nat.lt_succ_of_lt lwb2; have lwb2u := Nat.lt_succ_of_lt lwb2z)); (try (have lwb3 : wa.heap.size < wb.heap.size := (by have sa := Below.size hnb; (try simp at sa); omega); have lwb3x := Nat.ne_of_lt lwb3; have lwb3y := Nat.ne_of_gt lwb3; have lwb3z := Nat.lt_succ_of_lt lwb3; have lwb3u := Nat.lt_succ_of_lt lwb3z)); (try (have lwb4 : wa.heap.size + 1 < wb.heap.size := (by have sa := Below.size hnb; (try simp at sa); omega); have lwb4x := Nat.ne_of_lt lwb4; have lwb4y := Nat.ne_of_gt lwb4; have lwb4z := Nat.lt_succ_of_lt lwb4; have lwb4u := Nat.lt_succ_of_lt lwb4z)); have hab : Below wa.heap.size wa wb := (by first | exact hnb | exact below_step (below_alloc (Below.refl _ _) _) hnb | exact below_step (below_alloc (below_alloc (Below.refl _ _) _) _) hnb); (try have zb1 := Blk.below za1 hab lwa1); (try have zb2 := Blk.below za2 hab lwa2); (try (have zb3 : Blk wb wa.heap.size 31 zero9 := (by first | exact Blk.below (Blk.new _ _ _) hnb (lt1 _ _) | exact Blk.below (Blk.alloc (Blk.new _ _ _) _) hnb (lt2 _ _ _)))); (try (have zb4 : Blk wb (wa.heap.size + 1) 31 zero9 := Blk.below (Blk.at_ _ (sz1 _ _) _ _) hnb (lt3 _ _ _)))))
    · have s1 := hna.size
      have s2 := hnb.size
      have s3 := H0.out.size
      have s4 : w1.drew.heap.size = w1.heap.size := rfl
      have hLast : Hid (Below W.heap.size W _) := Lib.hid (by assumption)
      go_wp2_with fail
      go_meet
      case rel =>
        (try simp at s1)
        (try simp at s2)
        clear ca fa cb fb hcl hfl hp
        refine RC.of1 (a := a) (b := b) (wb := wb) hba hbb hoa hob hab ?_ ?_
        · (try simp)
          omega
        · exact hLast.out
    · have s1 := hna.size
      have s2 := hnb.size
      have s3 := H0.out.size
      have s4 : w1.drew.heap.size = w1.heap.size := rfl
      have hLast : Hid (Below W.heap.size W _) := Lib.hid (by assumption)
      go_wp2_with fail
      go_meet
      case rel =>
        (try simp at s1)
        (try simp at s2)
        clear ca fa cb fb hcl hfl hp
        refine RC.of2 (a := a) (b := b) (wb := wb) hba hbb hoa hob hab ?_ ?_
        · (try simp)
          omega
        · exact hLast.out
    · have s1 := hna.size
      have s2 := hnb.size
      have s3 := H0.out.size
      have s4 : w1.drew.heap.size = w1.heap.size := rfl
      have hLast : Hid (Below W.heap.size W _) := Lib.hid (by assumption)
      go_wp2_with fail
      go_meet
      case rel =>
        (try simp at s1)
        (try simp at s2)
        clear ca fa cb fb hcl hfl hp
        refine RC.of3 (a := a) (b := b) (wb := wb) hba hbb hoa hob hab ?_ ?_ ?_
        · assumption
        · (try simp)
          omega
        · exact hLast.out
    · have s1 := hna.size
      have s2 := hnb.size
      have s3 := H0.out.size
      have s4 : w1.drew.heap.size = w1.heap.size := rfl
      have hLast : Hid (Below W.heap.size W _) := Lib.hid (by assumption)
      go_wp2_with fail
      go_meet
      case rel =>
        (try simp at s1)
        (try simp at s2)
        clear ca fa cb fb hcl hfl hp
        refine RC.of5 (a := a) (b := b) (wb := wb) hba hbb hoa hob hab ?_ ?_ ?_ ?_ ?_
        · assumption
        · assumption
        · omega
        · (try simp)
          omega
        · exact hLast.out
    · have s1 := hna.size
      have s2 := hnb.size
      have s3 := H0.out.size
      have s4 : w1.drew.heap.size = w1.heap.size := rfl
      have hLast : Hid (Below W.heap.size W _) := Lib.hid (by assumption)
      go_wp2_with fail
      go_meet
      case rel =>
        (try simp at s1)
        (try simp at s2)
        clear ca fa cb fb hcl hfl hp
        refine RC.of4 (a := a) (b := b) (wb := wb) hba hbb hoa hob hab ?_ ?_ ?_
        · assumption
        · (try simp)
          omega
        · exact hLast.out
    · have s1 := hna.size
      have s2 := hnb.size
      have s3 := H0.out.size
      have s4 : w1.drew.heap.size = w1.heap.size := rfl
      have hLast : Hid (Below W.heap.size W _) := Lib.hid (by assumption)
      go_wp2_with fail
      go_meet
      case rel =>
        (try simp at s1)
        (try simp at s2)
        clear ca fa cb fb hcl hfl hp
        refine RC.of5 (a := a) (b := b) (wb := wb) hba hbb hoa hob hab ?_ ?_ ?_ ?_ ?_
        · assumption
        · assumption
        · omega
        · (try simp)
          omega
        · exact hLast.out
    · have s1 := hna.size
      have s2 := hnb.size
      have s3 := H0.out.size
      have s4 : w1.drew.heap.size = w1.heap.size := rfl
      have hLast : Hid (Below W.heap.size W _) := Lib.hid (by assumption)
      go_wp2_with fail
      go_meet
      case rel =>
        (try simp at s1)
        (try simp at s2)
        clear ca fa cb fb hcl hfl hp
        refine RC.of3 (a := a) (b := b) (wb := wb) hba hbb hoa hob hab ?_ ?_ ?_
        · assumption
        · (try simp)
          omega
        · exact hLast.out
    · have s1 := hna.size
      have s2 := hnb.size
      have s3 := H0.out.size
      have s4 : w1.drew.heap.size = w1.heap.size := rfl
      have hLast : Hid (Below W.heap.size W _) := Lib.hid (by assumption)
      go_wp2_with fail
      go_meet
      case rel =>
        (try simp at s1)
        (try simp at s2)
        clear ca fa cb fb hcl hfl hp
        refine RC.of5 (a := a) (b := b) (wb := wb) hba hbb hoa hob hab ?_ ?_ ?_ ?_ ?_
        · assumption
        · assumption
        · omega
        · (try simp)
          omega
        · exact hLast.out
    · have s1 := hna.size
      have s2 := hnb.size
      have s3 := H0.out.size
      have s4 : w1.drew.heap.size = w1.heap.size := rfl
      have hLast : Hid (Below W.heap.size W _) := Lib.hid (by assumption)
      go_wp2_with fail
      go_meet
      case rel =>
        (try simp at s1)
        (try simp at s2)
        clear ca fa cb fb hcl hfl hp
        refine RC.of5 (a := a) (b := b) (wb := wb) hba hbb hoa hob hab ?_ ?_ ?_ ?_ ?_
        · assumption
        · assumption
        · omega
        · (try simp)
          omega
        · exact hLast.out
    · have s1 := hna.size
      have s2 := hnb.size
      have s3 := H0.out.size
      have s4 : w1.drew.heap.size = w1.heap.size := rfl
      have hLast : Hid (Below W.heap.size W _) := Lib.hid (by assumption)
      go_wp2_with fail
      go_meet
      case rel =>
        (try simp at s1)
        (try simp at s2)
        clear ca fa cb fb hcl hfl hp
        refine RC.of4 (a := a) (b := b) (wb := wb) hba hbb hoa hob hab ?_ ?_ ?_
        · assumption
        · (try simp)
          omega
        · exact hLast.out
    · have s1 := hna.size
      have s2 := hnb.size
      have s3 := H0.out.size
      have s4 : w1.drew.heap.size = w1.heap.size := rfl
      have hLast : Hid (Below W.heap.size W _) := Lib.hid (by assumption)
      go_wp2_with fail
      go_meet
      case rel =>
        (try simp at s1)
        (try simp at s2)
        clear ca fa cb fb hcl hfl hp
        refine RC.of5 (a := a) (b := b) (wb := wb) hba hbb hoa hob hab ?_ ?_ ?_ ?_ ?_
        · assumption
        · assumption
        · omega
        · (try simp)
          omega
        · exact hLast.out
    · have s1 := hna.size
      have s2 := hnb.size
      have s3 := H0.out.size
      have s4 : w1.drew.heap.size = w1.heap.size := rfl
      have hLast : Hid (Below W.heap.size W _) := Lib.hid (by assumption)
      go_wp2_with fail
      go_meet
      case rel =>
        (try simp at s1)
        (try simp at s2)
        clear ca fa cb fb hcl hfl hp
        refine RC.of5 (a := a) (b := b) (wb := wb) hba hbb hoa hob hab ?_ ?_ ?_ ?_ ?_
        · assumption
        · assumption
        · omega
        · (try simp)
          omega
        · exact hLast.out
  case rest =>
  clear HC1 HC2 H0 HB
  obtain ⟨ga, gb, a, b, m, rfl, rfl, hba, hbb, bA, bB, oA, oB, hm, hB⟩ := hcut
  have hca := fun w' (h : Below wc.heap.size wc w') => blk_cells (n := 9) bA w' h
  have hpc := fun w' (h : Below wc.heap.size wc w') => hp w' (below_step hB h)
  have HAc := Lib.hid (oA.ok HP.out hba)
  have HBA := Lib.hid hba
  have HBB := Lib.hid hbb
  have HbB := Lib.hid bB
  have HoA := Lib.hid oA
  have HoB := Lib.hid oB
  have HM := Lib.hid hm
  have HBW := Lib.hid hB
  have HpW := Lib.hid hp
  have hB0 : Below wc.heap.size wc wc := Below.refl _ _
  clear hba hbb bA bB oA oB hm hp hB
  go_wp2_with fail
  refine (requal_any a p _ HAc.out (HP.out.below HBW.out)).mono ?_
  rintro e w5 ⟨hs, hb5⟩
  obtain rfl := hs.is true (by simp [HBA.out])
  clear hs
  go_wp2_with fail
  have hF : ∀ g, (W.heap.size ≤ g ∧ g < m ∧ g ≠ ga ∧ g ≠ gb) → g < w5.heap.size := fun g hg => by have := hb5.size; have := HM.out; omega
  refine (spoil_any (F := fun g => W.heap.size ≤ g ∧ g < m ∧ g ≠ ga ∧ g ≠ gb) (w0 := w5) a _ (HoA.out.moves (Moves.below hb5 (Nat.le_refl _))) hF (Sp.refl _ _)).mono ?_
  rintro e w6 ⟨rfl, hS⟩
  have hWc := HBW.out.size
  have hW5 := hb5.size
  have hB6 : Below W.heap.size W w6 := (HBW.out.trans (hb5.mono hWc)).trans (hS.below (B := W.heap.size) (by omega) (fun g hg hx => by omega))
  have bB5 : Blk w5 gb 31 (progCells b) := HbB.out.below hb5 HbB.out.lt
  have bB6 : Blk w6 gb 31 (progCells b) := (hS.block gb bB5.lt (fun hx => hx.2.2.2 rfl)).trans bB5
  have oB6 : ProgOwn w6 (fun g => m ≤ g ∧ g ≠ ga ∧ g ≠ gb) b := (HoB.out.moves (Moves.below hb5 (Nat.le_refl _))).moves (hS.moves (fun g hg hx => by omega))
  have HPV := Lib.hid (HP.out.below hB6)
  have HBV := Lib.hid (oB6.ok HP.out HBB.out)
  have hpv := fun w' (h : Below w6.heap.size w6 w') => HpW.out w' (below_step hB6 h)
  have hbv := fun w' (h : Below w6.heap.size w6 w') => blk_cells (n := 9) bB6 w' h
  have HBF := Lib.hid (below_step HW.out hB6)
  clear hca hpc hB0 hb5 hF hS hWc hW5 hB6 bB5 bB6 oB6 HAc HbB HoA HoB HM HBW HpW
  have hB0 : Below w6.heap.size w6 w6 := Below.refl _ _
  have H0 := Lib.hid hB0
  have E1 : Hid (∀ u, Below w6.heap.size w6 u → Calls Tryz.prog 22 #[.agg (progCells b), .agg (progCells p)] u fun e w2 => e = .returned (.bool true) ∧ Below u.heap.size u w2) := Lib.hid (fun u hb => (requal_any b p u (HBV.out.below hb) (HPV.out.below hb)).mono fun e w2 ⟨h1, h2⟩ => ⟨h1.is true (by simp [HBB.out]), h2⟩)
  have E2 : Hid (∀ u, Below w6.heap.size w6 u → Calls Tryz.prog 20 #[.agg (progCells p)] u fun e w2 => ∃ c : ProgD, e = .returned (.agg (progCells c)) ∧
      Hid (∀ u', Below w2.heap.size w2 u' → Calls Tryz.prog 22 #[.agg (progCells c), .agg (progCells b)] u' fun e w3 => e = .returned (.bool true) ∧ Below u'.heap.size u' w3) ∧ Below u.heap.size u w2) :=
    Lib.hid (fun u hb => (clone_any p u (HPV.out.below hb) HSm.out.fit).mono fun e w2 ⟨c, h1, h2, h3, h4⟩ => ⟨c, h1, Lib.hid (fun u' hb' =>
      (requal_any c b u' ((h3.ok HP.out h2).below hb') (HBV.out.below (below_step hb (below_step h4 hb')))).mono fun e w3 ⟨k1, k2⟩ => ⟨k1.is true (by simp [h2, HBB.out]), k2⟩), h4⟩)
  go_upto_region 7 with fail
  go_region_held3 (fun w' => Below w6.heap.size w6 w') (first | exact H0.out | exact below_drew H0.out | (exact below_step (by assumption) (by assumption)) | assumption)
    (first
    | (go_at_call 22; with_reducible (refine (E1.out _ (by assumption)).mono ?_); rintro e w7 ⟨rfl, hb1⟩)
    | (go_at_call 20; with_reducible (refine (E2.out _ (by assumption)).mono ?_); rintro e w8 ⟨c, rfl, E3, hb1⟩)
    | (go_at_call 22; with_reducible (refine (E3.out _ (by first | exact Below.refl _ _ | exact below_drew (Below.refl _ _))).mono ?_); rintro e w9 ⟨rfl, hb1⟩)
    | (go_at_call 18; refine (works_any _).mono ?_; rintro e w9 ⟨rfl, hb1⟩))
  have HB5 : Hid (Below w6.heap.size w6 _) := Lib.hid (by assumption)
  go_wp2
  go_ret
  exact ⟨rfl, below_step HBF.out HB5.out⟩
end Go.Proofs.YtgfbikknkcaneaaGreat
