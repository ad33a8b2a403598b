/- Walks of package program's checks at the programs that the laws of chapter 34 build: no headers, no registers, the three metadata fields. -/
import Derived.Test.YtbfjknidinkafaaGreatPgB
import Derived.Test.YtbfjknidinkafaaGreatPgN
import Derived.Test.YtbfjknidinkafaaGreatShelf
import Derived.Deep.AppendLies
namespace Go.Proofs.YtbfjknidinkafaaGreat
open Go.RowKit

@[reducible] def progCells (p : ProgD) : Array Value := #[.string p.name, .slice p.headers.A p.headers.l.length p.headers.c, .slice p.metadata.A p.metadata.l.length p.metadata.c,
  .slice p.registers.A p.registers.l.length p.registers.c, .slice p.actions.A p.actions.l.length p.actions.c, .slice p.tables.A p.tables.l.length p.tables.c,
  .slice p.states.A p.states.l.length p.states.c, .slice p.control.A p.control.l.length p.control.c, .slice p.deparser.A p.deparser.l.length p.deparser.c]
/-- a parameter's own copy of a program, in every later world -/
theorem prog_box (w : World) (p : ProgD) (t : TypeId) : ∃ W, W = w.alloc (.cells #[.string p.name, .slice p.headers.A p.headers.l.length p.headers.c, .slice p.metadata.A p.metadata.l.length p.metadata.c,
      .slice p.registers.A p.registers.l.length p.registers.c, .slice p.actions.A p.actions.l.length p.actions.c, .slice p.tables.A p.tables.l.length p.tables.c,
      .slice p.states.A p.states.l.length p.states.c, .slice p.control.A p.control.l.length p.control.c, .slice p.deparser.A p.deparser.l.length p.deparser.c] t) ∧
    Below w.heap.size w W ∧ Below W.heap.size W W ∧ ∀ w', Below W.heap.size W w' →
      (w'.cell? ⟨w.heap.size, 0, none⟩ = some (.string p.name) ∧ w'.cell? ⟨w.heap.size, 1, none⟩ = some (.slice p.headers.A p.headers.l.length p.headers.c) ∧
       w'.cell? ⟨w.heap.size, 2, none⟩ = some (.slice p.metadata.A p.metadata.l.length p.metadata.c) ∧ w'.cell? ⟨w.heap.size, 3, none⟩ = some (.slice p.registers.A p.registers.l.length p.registers.c) ∧
       w'.cell? ⟨w.heap.size, 4, none⟩ = some (.slice p.actions.A p.actions.l.length p.actions.c) ∧ w'.cell? ⟨w.heap.size, 5, none⟩ = some (.slice p.tables.A p.tables.l.length p.tables.c) ∧
       w'.cell? ⟨w.heap.size, 6, none⟩ = some (.slice p.states.A p.states.l.length p.states.c) ∧ w'.cell? ⟨w.heap.size, 7, none⟩ = some (.slice p.control.A p.control.l.length p.control.c) ∧
       w'.cell? ⟨w.heap.size, 8, none⟩ = some (.slice p.deparser.A p.deparser.l.length p.deparser.c)) := by
  refine ⟨_, rfl, below1 _ _, Below.refl _ _, fun w' hb => ⟨?_, ?_, ?_, ?_, ?_, ?_, ?_, ?_, ?_⟩⟩ <;> exact below_cell hb (by simp)

theorem repeated_any (l : List ByteArray) (g c i : Nat) (w : World) (hi : i < l.length) (hm : l.length ≤ 1000) (hcap : l.length ≤ c) (hc : ∀ j, j < l.length → w.cell? ⟨g, 0 + j, none⟩ = some (.string (l.getD j ByteArray.empty))) :
    Calls Tryz.prog 122 #[.slice (some ⟨g, 0, none⟩) l.length c, .int .i64 i] w fun e w' => e = .returned (.bool (Lib.containsS (l.take i) (l.getD i ByteArray.empty))) ∧ Below w.heap.size w w' := by
  have h1 : (0 : Int) ≤ i := by omega
  have h2 : (i : Int) < (l.length : Int) := by omega
  have h3 : (i : Int) ≤ (c : Int) := by omega
  have hd : ∀ w', Below w.heap.size w w' → w'.cell? ⟨g, i, none⟩ = some (.string (l.getD i ByteArray.empty)) := fun w' hb => below_cell hb (by have := hc i hi; rwa [Nat.zero_add] at this)
  have H0 := Lib.hid (Below.refl w.heap.size w)
  have HC := Lib.hid hc
  clear hc
  generalize hx : l.getD i ByteArray.empty = x at *
  go_enter Tryz.func122, Tryz.ntmps122
  go_wp2
  go_region_held3 (fun w' => Below w.heap.size w w') (first | exact H0.out | exact below_drew H0.out | (exact below_step (by assumption) (by assumption)) | assumption)
    (first | (go_at_call 168; refine (Tryz.slices_Contains_string g 0 i c l x _ (by omega) (by omega) (fun j hj => below_cell (by assumption) (HC.out j hj))).mono ?_; rintro e w1 ⟨rfl, rfl⟩))
  go_wp2
  go_ret
  exact ⟨rfl, by assumption⟩

theorem when_false (b : Bool) (c : Int) (w : World) (h : b = false) :
    Calls Tryz.prog 117 #[.bool b, .int .i64 c] w fun e w' => e = .returned (.int .i64 0) ∧ w = w' := by
  subst h; exact when_any false c w
structure LimitsOk (p : ProgD) : Prop where
  name : ident p.name = true
  h : p.headers.l.length ≤ 8
  r : p.registers.l.length ≤ 4
  a : p.actions.l.length ≤ 16
  t : p.tables.l.length ≤ 12

set_option maxHeartbeats 1000000 in
theorem checkLimits_ok (p : ProgD) (w : World) (hs : p.name.size ≤ maxLen) (o : LimitsOk p) :
    Calls Tryz.prog 84 #[p.val] w fun e w' => e = .returned (.tuple #[]) ∧ Below w.heap.size w w' := by
  have HN := Lib.hid o.name
  have HS := Lib.hid hs
  have h1 := o.h
  have h2 := o.r
  have h3 := o.a
  have h4 := o.t
  clear o hs
  obtain ⟨W, hW, hb, H0, hp⟩ := prog_box w p 31
  have HB := Lib.hid hb
  clear hb
  simp only [ProgD.val, L.v]
  go_enter Tryz.func84, Tryz.ntmps84
  go_wp2_with fail
  rw [← hW]
  clear hW
  refine (identifier_any p.name _ HS.out).mono ?_
  rintro e w1 ⟨rfl, rfl⟩
  rw [HN.out]
  go_wp2_with fail
  refine (when_any _ _ _).mono ?_
  rintro e w1 ⟨rfl, rfl⟩
  go_wp2_with fail
  refine (require_ok _ _ _ _).mono ?_
  rintro e w1 ⟨rfl, rfl⟩
  go_wp2_with fail
  refine (when_false _ _ _ (by simp; omega)).mono ?_
  rintro e w1 ⟨rfl, rfl⟩
  go_wp2_with fail
  refine (require_ok _ _ _ _).mono ?_
  rintro e w1 ⟨rfl, rfl⟩
  go_wp2_with fail
  refine (when_false _ _ _ (by simp; omega)).mono ?_
  rintro e w1 ⟨rfl, rfl⟩
  go_wp2_with fail
  refine (require_ok _ _ _ _).mono ?_
  rintro e w1 ⟨rfl, rfl⟩
  go_wp2_with fail
  refine (when_false _ _ _ (by simp; omega)).mono ?_
  rintro e w1 ⟨rfl, rfl⟩
  go_wp2_with fail
  refine (require_ok _ _ _ _).mono ?_
  rintro e w1 ⟨rfl, rfl⟩
  go_wp2_with fail
  refine (when_false _ _ _ (by simp; omega)).mono ?_
  rintro e w1 ⟨rfl, rfl⟩
  go_wp2_with fail
  refine (require_ok _ _ _ _).mono ?_
  rintro e w1 ⟨rfl, rfl⟩
  go_wp2
  go_end0
  exact ⟨rfl, HB.out⟩

theorem OwnStrs.form {w : World} {B c : Nat} {A : Option Addr} {l : List ByteArray} (h : OwnStrs w B A c l) (h0 : 0 < l.length) :
    ∃ g, A = some ⟨g, 0, none⟩ ∧ g < w.heap.size ∧ l.length ≤ c ∧ ∀ j, j < l.length → w.cell? ⟨g, 0 + j, none⟩ = some (.string (l.getD j ByteArray.empty)) := by
  have h' : w.ownsRow B 9 1 (.slice A l.length c) l.length (strs l) := h
  rcases h'.2 with ⟨_, h1⟩ | ⟨g, cap, cur, hv, _, hblk, hle, _, _, _⟩
  · omega
  · have hA : A = some ⟨g, 0, none⟩ := by injection hv
    have hc : c = cap := by injection hv
    subst hA
    refine ⟨g, rfl, ?_, by omega, fun j hj => ?_⟩
    · rcases Nat.lt_or_ge g w.heap.size with h2 | h2
      · exact h2
      · rw [Array.getElem?_eq_none h2] at hblk; cases hblk
    · rw [Nat.zero_add, h'.cellAt j (by omega)]
      simp [strs, List.getD, hj]

set_option maxHeartbeats 1000000 in
theorem checkHeaders_none (p : ProgD) (w : World) (o : ProgOk w p) (h0 : p.headers.l = []) :
    Calls Tryz.prog 85 #[p.val] w fun e w' => e = .returned (.tuple #[]) ∧ Below w.heap.size w w' := by
  have HO := Lib.hid o
  clear o
  have hlen : p.headers.l.length = 0 := by rw [h0]; rfl
  have HE := Lib.hid hlen
  obtain ⟨W, hW, hb, H0, hp⟩ := prog_box w p 31
  have HB := Lib.hid hb
  clear hb h0 hlen
  simp only [ProgD.val, L.v]
  go_enter Tryz.func85, Tryz.ntmps85
  go_wp2_with fail
  rw [← hW]
  clear hW
  have hn := names_header p.headers W (HO.out.headers.below HB.out (Nat.le_refl _)) (by rw [HE.out]; omega)
  simp only [L.v] at hn
  refine hn.mono ?_
  rintro e w1 ⟨A, c, rfl, _, hb1⟩
  have hlen := HE.out
  go_wp2
  refine wp_loop_rounds 1 ?_
  rw [rounds_succ]
  go_wp2
  go_end0
  exact ⟨rfl, below_step HB.out hb1⟩

theorem repeated_at (l : List ByteArray) (n g c i : Nat) (w0 w : World) (hn : l.length = n) (hi : i < n) (hm : n ≤ 1000)
    (hg : g < w0.heap.size ∧ l.length ≤ c ∧ ∀ j, j < l.length → w0.cell? ⟨g, 0 + j, none⟩ = some (.string (l.getD j ByteArray.empty))) (hb : Below w0.heap.size w0 w)
    (hnew : Lib.containsS (l.take i) (l.getD i ByteArray.empty) = false) :
    Calls Tryz.prog 122 #[.slice (some ⟨g, 0, none⟩) n c, .int .i64 i] w fun e w' => e = .returned (.bool false) ∧ Below w.heap.size w w' := by
  subst hn
  have := repeated_any l g c i w hi hm hg.2.1 (fun j hj => below_cell hb (hg.2.2 j hj))
  rw [hnew] at this
  exact this

/-- field i of a list of fields passes: its name, its width, no earlier one of its name -/
structure FieldPass (l : List FieldD) (i : Nat) (f : FieldD) : Prop where
  size : f.name.size ≤ maxLen
  name : ident f.name = true
  lo : 1 ≤ f.width
  hi : f.width ≤ 32
  new : Lib.containsS ((l.map FieldD.name).take i) ((l.map FieldD.name).getD i ByteArray.empty) = false
def metaL : List FieldD := [⟨⟨#[105, 110]⟩, 8⟩, ⟨⟨#[111, 117, 116]⟩, 8⟩, ⟨⟨#[100, 114, 111, 112]⟩, 1⟩]

theorem meta_pass : ∀ i (h : i < metaL.length), FieldPass metaL i metaL[i] := by
  intro i h
  match i, h with
  | 0, _ => exact show FieldPass metaL 0 ⟨⟨#[105, 110]⟩, 8⟩ from ⟨by decide, by decide +kernel, by decide, by decide, by decide +kernel⟩
  | 1, _ => exact show FieldPass metaL 1 ⟨⟨#[111, 117, 116]⟩, 8⟩ from ⟨by decide, by decide +kernel, by decide, by decide, by decide +kernel⟩
  | 2, _ => exact show FieldPass metaL 2 ⟨⟨#[100, 114, 111, 112]⟩, 1⟩ from ⟨by decide, by decide +kernel, by decide, by decide, by decide +kernel⟩

theorem i95_0 (x0 x1 x2 : ByteArray) (n0 n1 n2 : Int) (w : World) : (Instr.index 179 (.agg #[.string x0, .int .i64 n0, .string x1, .int .i64 n1, .string x2, .int .i64 n2]) (.int .i64 0)).run Tryz.prog w = .ok (.agg #[.string x0, .int .i64 n0]) w := by kernel_rfl
theorem i95_1 (x0 x1 x2 : ByteArray) (n0 n1 n2 : Int) (w : World) : (Instr.index 179 (.agg #[.string x0, .int .i64 n0, .string x1, .int .i64 n1, .string x2, .int .i64 n2]) (.int .i64 1)).run Tryz.prog w = .ok (.agg #[.string x1, .int .i64 n1]) w := by kernel_rfl
theorem i95_2 (x0 x1 x2 : ByteArray) (n0 n1 n2 : Int) (w : World) : (Instr.index 179 (.agg #[.string x0, .int .i64 n0, .string x1, .int .i64 n1, .string x2, .int .i64 n2]) (.int .i64 2)).run Tryz.prog w = .ok (.agg #[.string x2, .int .i64 n2]) w := by kernel_rfl

theorem field_box (w : World) (s : ByteArray) (n : Int) (t : TypeId) : ∃ W, W = w.alloc (.cells #[.string s, .int .i64 n] t) ∧ Below w.heap.size w W ∧
    ∀ w', Below W.heap.size W w' → w'.cell? ⟨w.heap.size, 0, none⟩ = some (.string s) ∧ w'.cell? ⟨w.heap.size, 1, none⟩ = some (.int .i64 n) :=
  ⟨_, rfl, below1 _ _, fun w' hb => ⟨below_cell hb (by simp), below_cell hb (by simp)⟩⟩

set_option maxRecDepth 100000 in
set_option maxHeartbeats 4000000 in
theorem checkMetadata_ok (p : ProgD) (w : World) (o : ProgOk w p) (hm : p.metadata.l = metaL) :
    Calls Tryz.prog 86 #[p.val] w fun e w' => e = .returned (.tuple #[]) ∧ Below w.heap.size w w' := by
  obtain ⟨nm, hs, ⟨ml, mA, mc⟩, rs, acs, ts, ss, cs, ds⟩ := p
  simp only at hm
  subst hm
  obtain ⟨g', o', hA, _, _⟩ := FieldD.at (x := ⟨metaL, mA, mc⟩) o.metadata (show 0 < metaL.length by decide)
  simp only at hA
  subst hA
  have HM : Hid (LOk w 2 FieldD.cells (⟨metaL, some ⟨g', o', none⟩, mc⟩ : L FieldD)) := Lib.hid o.metadata
  obtain ⟨W, hW, hb, H0, hp⟩ := prog_box w (⟨nm, hs, ⟨metaL, some ⟨g', o', none⟩, mc⟩, rs, acs, ts, ss, cs, ds⟩ : ProgD) 31
  have HB := Lib.hid hb
  have e3 : metaL.length = 3 := rfl
  simp only [e3] at hW hp
  simp only [ProgD.val, L.v, e3]
  clear hb o e3
  go_enter Tryz.func86, Tryz.ntmps86
  go_wp2_with fail
  rw [← hW]
  clear hW
  refine (when_false _ _ _ (by simp)).mono ?_
  rintro e w1 ⟨rfl, rfl⟩
  go_wp2_with fail
  refine (require_ok _ _ _ _).mono ?_
  rintro e w1 ⟨rfl, rfl⟩
  go_wp2_with fail
  have hn := names_field _ W (HM.out.below HB.out (Nat.le_refl _)) (show (3 : Nat) ≤ 100 by omega)
  simp only [L.v, show metaL.length = 3 from rfl] at hn
  refine hn.mono ?_
  clear hn
  rintro e w1 ⟨A, c, rfl, hown, hb1⟩
  have HN := Lib.hid (OwnStrs.form hown (by decide))
  have HB1 := Lib.hid hb1
  clear hown
  obtain ⟨g, rfl, hg⟩ := HN.out
  have HG := Lib.hid hg
  clear HN hg
  go_wp2
  go_loopw [3, 4, 19] (fun _ _ iv wr => ∃ k : Nat, k ≤ 3 ∧ iv = .int .i64 k ∧ Below w1.heap.size w1 wr) (fun _ _ i _ => 3 - (intOf i).toNat)
  case atStart => exact ⟨0, Nat.zero_le _, rfl, Below.refl _ _⟩
  case round =>
    obtain ⟨k, hk, rfl, hbel⟩ := hrel
    have H2 := below_step HB1.out hbel
    by_cases hlt : k < 3
    · obtain ⟨g2, o2, hA, d0, d1⟩ := FieldD.at (HM.out.below (below_step HB.out H2) (Nat.le_refl _)) (show k < metaL.length from hlt)
      simp only [Option.some.injEq, Addr.mk.injEq, and_true] at hA
      obtain ⟨rfl, rfl⟩ := hA
      have HF := Lib.hid (meta_pass k hlt)
      simp only at d0 d1
      generalize metaL[k]'hlt = y at *
      go_wp2_with fail
      refine (identifier_any y.name _ HF.out.size).mono ?_
      rintro e w2 ⟨rfl, rfl⟩
      rw [show ident y.name = true from HF.out.name]
      go_wp2_with fail
      refine (when_false _ _ _ rfl).mono ?_
      rintro e w2 ⟨rfl, rfl⟩
      go_wp2_with fail
      refine (require_ok _ _ _ _).mono ?_
      rintro e w2 ⟨rfl, rfl⟩
      go_wp2_with fail
      refine (widthInvalid_any _ _).mono ?_
      rintro e w2 ⟨rfl, rfl⟩
      go_wp2_with fail
      refine (when_false _ _ _ (by have h1 := HF.out.lo; have h2 := HF.out.hi; simp; omega)).mono ?_
      rintro e w2 ⟨rfl, rfl⟩
      go_wp2_with fail
      refine (require_ok _ _ _ _).mono ?_
      rintro e w2 ⟨rfl, rfl⟩
      go_wp2_with fail
      refine (repeated_at _ 3 g c k w1 _ (by decide) hlt (by omega) HG.out (below_alloc hbel _) HF.out.new).mono ?_
      rintro e w2 ⟨rfl, hb2⟩
      have HB2 := Lib.hid (below_step (below_alloc hbel _) hb2)
      clear hb2
      go_wp2_with fail
      refine (when_false _ _ _ rfl).mono ?_
      rintro e w3 ⟨rfl, rfl⟩
      go_wp2_with fail
      refine (require_ok _ _ _ _).mono ?_
      rintro e w3 ⟨rfl, rfl⟩
      go_wp2
      go_roundw
      case rel => exact ⟨k + 1, by omega, by go_num, HB2.out⟩
      case measure => simp [intOf]; omega
    · have HB2 := Lib.hid hbel
      go_wp2
      go_loopw [5, 6, 47] (fun _ _ iv wx => ∃ k : Nat, k ≤ 3 ∧ iv = .int .i64 k ∧ Below w1.heap.size w1 wx) (fun _ _ i _ => 3 - (intOf i).toNat)
      case atStart => exact ⟨0, Nat.zero_le _, rfl, HB2.out⟩
      case round =>
        clear hbel H2 HB2 hk hlt
        obtain ⟨k, hk, rfl, hbel⟩ := hrel
        have F2 := Lib.hid hbel
        rcases (show k = 0 ∨ k = 1 ∨ k = 2 ∨ k = 3 by omega) with rfl | rfl | rfl | rfl
        case inr.inr.inr =>
          go_wp2
          go_end0
          exact ⟨rfl, below_step HB.out (below_step HB1.out hbel)⟩
        case inl =>
          have hix := i95_0
          obtain ⟨g2, o2, hA, d0, d1⟩ := FieldD.at (HM.out.below (below_step HB.out (below_step HB1.out hbel)) (Nat.le_refl _)) (show 0 < metaL.length by decide)
          simp only [Option.some.injEq, Addr.mk.injEq, and_true] at hA
          obtain ⟨rfl, rfl⟩ := hA
          simp only [metaL, List.getElem_cons_zero, Nat.zero_mul, Nat.add_zero] at d0 d1
          obtain ⟨W4, hW4, f0, hf0⟩ := field_box wr ⟨#[105, 110]⟩ 8 135
          have F0 := Lib.hid f0
          have D0 := Lib.hid d0
          have D1 := Lib.hid d1
          have hf1 : ∀ w', Below W4.heap.size W4 w' → Below W.heap.size W w' := fun w' h => below_step HB1.out (below_step F2.out (below_step F0.out h))
          have hf2 : ∀ w', Below W4.heap.size W4 w' → w'.cell? ⟨g', o', none⟩ = some (.string ⟨#[105, 110]⟩) ∧ w'.cell? ⟨g', o' + 1, none⟩ = some (.int .i64 8) := fun w' h => And.intro (below_cell (below_step F0.out h) D0.out) (below_cell (below_step F0.out h) D1.out)
          have F1 := Lib.hid (Below.refl W4.heap.size W4)
          clear d0 d1 f0
          go_wp2
          rw [← hW4]
          clear hW4
          go_region_held3 (fun w' => Below W4.heap.size W4 w') (first | exact F1.out | exact below_drew F1.out | assumption)
            (first | (go_at_call 117; refine (when_false _ _ _ (by first | rfl | simp)).mono ?_; rintro e w5 ⟨rfl, rfl⟩) | (go_at_call 116; refine (require_ok _ _ _ _).mono ?_; rintro e w5 ⟨rfl, rfl⟩))
          have HB5 : Hid (Below W4.heap.size W4 _) := Lib.hid (by assumption)
          clear hf1 hf2 hf0 hix
          go_wp2
          go_roundw
          case rel => exact ⟨1, by omega, by go_num, below_step F2.out (below_step F0.out HB5.out)⟩
          case measure => simp [intOf]
        case inr.inl =>
          have hix := i95_1
          obtain ⟨g2, o2, hA, d0, d1⟩ := FieldD.at (HM.out.below (below_step HB.out (below_step HB1.out hbel)) (Nat.le_refl _)) (show 1 < metaL.length by decide)
          simp only [Option.some.injEq, Addr.mk.injEq, and_true] at hA
          obtain ⟨rfl, rfl⟩ := hA
          simp only [metaL, List.getElem_cons_zero, List.getElem_cons_succ, Nat.reduceMul] at d0 d1
          obtain ⟨W4, hW4, f0, hf0⟩ := field_box wr ⟨#[111, 117, 116]⟩ 8 135
          have F0 := Lib.hid f0
          have D0 := Lib.hid d0
          have D1 := Lib.hid d1
          have hf1 : ∀ w', Below W4.heap.size W4 w' → Below W.heap.size W w' := fun w' h => below_step HB1.out (below_step F2.out (below_step F0.out h))
          have hf2 : ∀ w', Below W4.heap.size W4 w' → w'.cell? ⟨g', o' + 2, none⟩ = some (.string ⟨#[111, 117, 116]⟩) ∧ w'.cell? ⟨g', o' + 2 + 1, none⟩ = some (.int .i64 8) := fun w' h => And.intro (below_cell (below_step F0.out h) D0.out) (below_cell (below_step F0.out h) D1.out)
          have F1 := Lib.hid (Below.refl W4.heap.size W4)
          clear d0 d1 f0
          go_wp2
          rw [← hW4]
          clear hW4
          go_region_held3 (fun w' => Below W4.heap.size W4 w') (first | exact F1.out | exact below_drew F1.out | assumption)
            (first | (go_at_call 117; refine (when_false _ _ _ (by first | rfl | simp)).mono ?_; rintro e w5 ⟨rfl, rfl⟩) | (go_at_call 116; refine (require_ok _ _ _ _).mono ?_; rintro e w5 ⟨rfl, rfl⟩))
          have HB5 : Hid (Below W4.heap.size W4 _) := Lib.hid (by assumption)
          clear hf1 hf2 hf0 hix
          go_wp2
          go_roundw
          case rel => exact ⟨2, by omega, by go_num, below_step F2.out (below_step F0.out HB5.out)⟩
          case measure => simp [intOf]
        case inr.inr.inl =>
          have hix := i95_2
          obtain ⟨g2, o2, hA, d0, d1⟩ := FieldD.at (HM.out.below (below_step HB.out (below_step HB1.out hbel)) (Nat.le_refl _)) (show 2 < metaL.length by decide)
          simp only [Option.some.injEq, Addr.mk.injEq, and_true] at hA
          obtain ⟨rfl, rfl⟩ := hA
          simp only [metaL, List.getElem_cons_zero, List.getElem_cons_succ, Nat.reduceMul] at d0 d1
          obtain ⟨W4, hW4, f0, hf0⟩ := field_box wr ⟨#[100, 114, 111, 112]⟩ 1 135
          have F0 := Lib.hid f0
          have D0 := Lib.hid d0
          have D1 := Lib.hid d1
          have hf1 : ∀ w', Below W4.heap.size W4 w' → Below W.heap.size W w' := fun w' h => below_step HB1.out (below_step F2.out (below_step F0.out h))
          have hf2 : ∀ w', Below W4.heap.size W4 w' → w'.cell? ⟨g', o' + 4, none⟩ = some (.string ⟨#[100, 114, 111, 112]⟩) ∧ w'.cell? ⟨g', o' + 4 + 1, none⟩ = some (.int .i64 1) := fun w' h => And.intro (below_cell (below_step F0.out h) D0.out) (below_cell (below_step F0.out h) D1.out)
          have F1 := Lib.hid (Below.refl W4.heap.size W4)
          clear d0 d1 f0
          go_wp2
          rw [← hW4]
          clear hW4
          go_region_held3 (fun w' => Below W4.heap.size W4 w') (first | exact F1.out | exact below_drew F1.out | assumption)
            (first | (go_at_call 117; refine (when_false _ _ _ (by first | rfl | simp)).mono ?_; rintro e w5 ⟨rfl, rfl⟩) | (go_at_call 116; refine (require_ok _ _ _ _).mono ?_; rintro e w5 ⟨rfl, rfl⟩))
          have HB5 : Hid (Below W4.heap.size W4 _) := Lib.hid (by assumption)
          clear hf1 hf2 hf0 hix
          go_wp2
          go_roundw
          case rel => exact ⟨3, by omega, by go_num, below_step F2.out (below_step F0.out HB5.out)⟩
          case measure => simp [intOf]
end Go.Proofs.YtbfjknidinkafaaGreat

