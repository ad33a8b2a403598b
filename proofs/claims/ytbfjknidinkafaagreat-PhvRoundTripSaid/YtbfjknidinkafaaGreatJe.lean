/- The walk of phv.Load. No condition but that program, slots, environment and bits lie in memory and the lists are short. Walks of the checks of chips, of the counts of cells, of the taking of a container. No condition but that the program lies in memory and its lists are short. The walk of the program's taking of a container. No condition but that the pool lies in memory. A valid program's cells have widths from 1 to 32. No code in sight. No condition. The walk of phv.Allocate. No condition but that the program lies in memory and its lists are short. The walks of law36.equalSlots, ref02.EqualUint32s, law36.equalBits. No condition but that the lists lie in memory. The law's fixed program and chip, and what the functions answer at them. No condition. The walk of the law's fixed results. No condition. -/
import Derived.Test.YtbfjknidinkafaaGreatJc
import Derived.Deep.CutRange
import Derived.Deep.CutBlock
import Derived.ScopeJumps
import Derived.WalkMore
import Derived.Test.YtbfjknidinkafaaGreatJa
import Derived.Test.YtbfjknidinkafaaGreatMov
import Derived.Laws.StructEq
import Derived.BigQuiet
namespace Go.Proofs.YtbfjknidinkafaaGreat
open Go.RowKit

/-- a list of the containers grown by an append -/
theorem ConOwn.grow {w w6 : World} {o : Obj} {B g : Nat} {x : ConD} (h : ConOwn w B g x) (z : Int) {l' : List Int} {A1 : Option Addr} {c1 : Nat} (hown : OwnL w6 B 83 ucell ⟨l', A1, c1⟩)
    (hg : (w.alloc o).grownBy w6 (conL x z).v.ownBlock) (hat : (Value.slice A1 l'.length c1).ownBlock = (conL x z).v.ownBlock ∨ (Value.slice A1 l'.length c1).ownBlock = some (w.heap.size + 1)) :
    ConOwn (w6.setCell ⟨g, cix z, none⟩ (.slice A1 l'.length c1)) B g (conS x z ⟨l', A1, c1⟩) := by
  have hlt8 := fun b e => (own_lt h.o8 b e).2
  have hlt16 := fun b e => (own_lt h.o16 b e).2
  have hlt32 := fun b e => (own_lt h.o32 b e).2
  have hB8 := fun b e => (own_lt h.o8 b e).1
  have hB16 := fun b e => (own_lt h.o16 b e).1
  have hB32 := fun b e => (own_lt h.o32 b e).1
  have hB' := fun b e => (own_lt hown b e).1
  obtain ⟨hb, o8, o16, o32, hlt, a1, a2, a3⟩ := h
  have hgb : Blk w6 g 64 #[x.c8.v, x.c16.v, x.c32.v] := (hb.alloc o).grown hg (fun e => by
    unfold conL at e
    split at e
    · have := hB8 g e.symm; omega
    · split at e
      · have := hB16 g e.symm; omega
      · have := hB32 g e.symm; omega)
  unfold conL at hg hat
  unfold conS cix
  have far : ∀ {y : L Int} (v : Value) (j : Nat), OwnL w6 B 83 ucell y → (∀ b, y.v.ownBlock = some b → B ≤ b) → OwnL (w6.setCell ⟨g, j, none⟩ v) B 83 ucell y := fun v j hy hyB => hy.far v (fun e => by have := hyB _ e; simp only at this; omega)
  by_cases h8 : z = 8
  · subst h8
    simp only [if_true] at hg hat ⊢
    have k16 := (o16.alloc o).kept hg (by rcases hx : x.c16.v.ownBlock with _ | b; (· exact .inl rfl); (· exact .inr (fun e => a1 b e.symm hx)))
    have k32 := (o32.alloc o).kept hg (by rcases hx : x.c32.v.ownBlock with _ | b; (· exact .inl rfl); (· exact .inr (fun e => a2 b e.symm hx)))
    refine ⟨hgb.set_ 0 _, far _ _ hown hB', far _ _ k16 hB16, far _ _ k32 hB32, hlt, fun b e => ?_, fun b e => ?_, a3⟩
    · rcases hat with h1 | h1
      · exact a1 b (h1 ▸ e)
      · have h2 : b = w.heap.size + 1 := by have := h1.symm.trans e; injection this with this; exact this.symm
        exact fun e2 => by have := hlt16 b e2; omega
    · rcases hat with h1 | h1
      · exact a2 b (h1 ▸ e)
      · have h2 : b = w.heap.size + 1 := by have := h1.symm.trans e; injection this with this; exact this.symm
        exact fun e2 => by have := hlt32 b e2; omega
  · by_cases h16 : z = 16
    · subst h16
      simp only [if_true, if_neg (show ¬ (16 : Int) = 8 by decide)] at hg hat ⊢
      have k8 := (o8.alloc o).kept hg (by rcases hx : x.c8.v.ownBlock with _ | b; (· exact .inl rfl); (· exact .inr (fun e => a1 b hx e.symm)))
      have k32 := (o32.alloc o).kept hg (by rcases hx : x.c32.v.ownBlock with _ | b; (· exact .inl rfl); (· exact .inr (fun e => a3 b e.symm hx)))
      refine ⟨hgb.set_ 1 _, far _ _ k8 hB8, far _ _ hown hB', far _ _ k32 hB32, hlt, fun b e e2 => ?_, a2, fun b e => ?_⟩
      · rcases hat with h1 | h1
        · exact a1 b e (h1 ▸ e2)
        · have h2 : b = w.heap.size + 1 := by have := h1.symm.trans e2; injection this with this; exact this.symm
          have := hlt8 b e; omega
      · rcases hat with h1 | h1
        · exact a3 b (h1 ▸ e)
        · have h2 : b = w.heap.size + 1 := by have := h1.symm.trans e; injection this with this; exact this.symm
          exact fun e2 => by have := hlt32 b e2; omega
    · simp only [h8, h16, if_false] at hg hat ⊢
      have k8 := (o8.alloc o).kept hg (by rcases hx : x.c8.v.ownBlock with _ | b; (· exact .inl rfl); (· exact .inr (fun e => a2 b hx e.symm)))
      have k16 := (o16.alloc o).kept hg (by rcases hx : x.c16.v.ownBlock with _ | b; (· exact .inl rfl); (· exact .inr (fun e => a3 b hx e.symm)))
      refine ⟨hgb.set_ 2 _, far _ _ k8 hB8, far _ _ k16 hB16, far _ _ hown hB', hlt, a1, fun b e e2 => ?_, fun b e e2 => ?_⟩
      · rcases hat with h1 | h1
        · exact a2 b e (h1 ▸ e2)
        · have h2 : b = w.heap.size + 1 := by have := h1.symm.trans e2; injection this with this; exact this.symm
          have := hlt8 b e; omega
      · rcases hat with h1 | h1
        · exact a3 b e (h1 ▸ e2)
        · have h2 : b = w.heap.size + 1 := by have := h1.symm.trans e2; injection this with this; exact this.symm
          have := hlt16 b e; omega
/-- the empty containers that the first k slots need -/
def conK (l : List SlotD) : ConM := con0 l
theorem con_snoc_bad {l : List SlotD} {s : SlotD} (h : validS s = false) : con0 (l ++ [s]) = con0 l := by
  unfold con0
  rw [count_snoc, count_snoc, count_snoc, if_neg (by simp [h]), if_neg (by simp [h]), if_neg (by simp [h])]
theorem con_snoc {l : List SlotD} {s : SlotD} (h : validS s = true) : con0 (l ++ [s]) = setC (con0 l) s.size (List.replicate (max (countM l s.size) (s.index.toNat + 1)) 0) := by
  unfold con0
  rw [count_snoc, count_snoc, count_snoc]
  have hz := sizes_of h
  rcases hz with e | e | e
  · simp [h, e, setC]
  · simp [h, e, setC]
  · simp [h, e, setC]
theorem setC_same (c : ConM) (z : Int) (a b : List Int) : setC (setC c z a) z b = setC c z b := by
  unfold setC
  split
  · rfl
  · split <;> rfl
theorem setC_own (c : ConM) (z : Int) : setC c z (ofC c z) = c := by
  unfold setC ofC
  split
  · rfl
  · split <;> rfl
theorem con_cell {w : World} {g : Nat} {x : ConD} (h : Blk w g 64 #[x.c8.v, x.c16.v, x.c32.v]) (z : Int) : w.cell? ⟨g, cix z, none⟩ = some (.slice (conL x z).A (conL x z).l.length (conL x z).c) := by
  rw [h.cell]
  unfold cix conL
  split
  · rfl
  · split <;> rfl
theorem blk_cells' {w : World} {g n : Nat} {t : TypeId} {cs : Array Value} (h : Blk w g t cs) (w' : World) (hb : Below w.heap.size w w') : ∀ i, i < n → w'.cell? ⟨g, i, none⟩ = cs[i]? := fun i _ => (h.below hb h.lt).cell i
theorem conL_conS (x : ConD) (z : Int) (y : L Int) : conL (conS x z y) z = y := by
  unfold conL conS
  by_cases h8 : z = 8
  · simp only [h8, if_true]
  · by_cases h16 : z = 16
    · subst h16; rfl
    · simp only [h8, h16, if_false]
def emptyC : ConD := ⟨⟨[], none, 0⟩, ⟨[], none, 0⟩, ⟨[], none, 0⟩⟩
theorem empty_con (w : World) (B g : Nat) (h : Blk w g 64 #[.slice none 0 0, .slice none 0 0, .slice none 0 0]) (hg : g < B) : ConOwn w B g emptyC :=
  ⟨h, World.ownsRow_nil _ _ _ _, World.ownsRow_nil _ _ _ _, World.ownsRow_nil _ _ _ _, hg, fun _ h => (by cases h), fun _ h => (by cases h), fun _ h => (by cases h)⟩
/-- how much the list at a cell lacks of n -/
def lackOf (n : Nat) (g i : Nat) (w : World) : Nat := match w.cell? ⟨g, i, none⟩ with
  | some (.slice _ m _) => n - m
  | _ => 0
set_option maxRecDepth 100000 in
set_option maxHeartbeats 16000000 in
theorem pload_any (p : ProgD) (x : L SlotD) (e : EnvD) (b : L Bool) (w : World) (o : ProgOk w p) (hs : AccSm p) (hx : LOk w 4 SlotD.cells x) (hl : x.l.length ≤ 1000) (oe : EnvOk w e) (hb : LOk w 1 bcell b) :
    Calls Tryz.prog 22 #[.agg (progCells p), .slice x.A x.l.length x.c, .agg (envCells e), .slice b.A b.l.length b.c] w fun r w' =>
      ∃ y : ConD, r = .returned (.agg #[.slice y.c8.A y.c8.l.length y.c8.c, .slice y.c16.A y.c16.l.length y.c16.c, .slice y.c32.A y.c32.l.length y.c32.c]) ∧ y.bare = loadM x.l (valsM p e.bare ++ b.l.map bitI) ∧ (LOkN w' 1 ucell y.c8 ∧ LOkN w' 1 ucell y.c16 ∧ LOkN w' 1 ucell y.c32) ∧ Below w.heap.size w w' := by
  obtain ⟨W, hW⟩ : ∃ W, W = ((w.alloc (.cells (progCells p) 31)).alloc (.cells (envCells e) 56)).alloc (.cells #[.slice none 0 0, .slice none 0 0, .slice none 0 0] 64) := ⟨_, rfl⟩
  have hw : Below w.heap.size w W := by rw [hW]; exact below3 _ _ _ _
  have HW := Lib.hid hw
  have hszW : W.heap.size = w.heap.size + 1 + 1 + 1 := by rw [hW]; simp
  have HSz := Lib.hid hszW
  have HP0 : Hid (Blk W w.heap.size 31 (progCells p)) := Lib.hid (by rw [hW]; exact ((Blk.new _ _ _).alloc _).alloc _)
  have HP1 : Hid (Blk W (w.heap.size + 1) 56 (envCells e)) := Lib.hid (by rw [hW]; exact (by simpa using Blk.new (w.alloc (.cells (progCells p) 31)) 56 (envCells e) : Blk _ (w.heap.size + 1) _ _).alloc _)
  have HP2 : Hid (Blk W (w.heap.size + 1 + 1) 64 #[.slice none 0 0, .slice none 0 0, .slice none 0 0]) := Lib.hid (by rw [hW]; simpa using Blk.new ((w.alloc (.cells (progCells p) 31)).alloc (.cells (envCells e) 56)) 64 #[.slice none 0 0, .slice none 0 0, .slice none 0 0])
  have hp0 := fun w' (h : Below W.heap.size W w') => blk_cells' (n := 9) HP0.out w' h
  have hp1 := fun w' (h : Below W.heap.size W w') => blk_cells' (n := 4) HP1.out w' h
  have HV := Lib.hid (fun u (hb : Below W.heap.size W u) => pvalues_any p e u (o.below (below_step hw hb)) hs (oe.below (below_step hw hb)))
  have HXo := Lib.hid (hx.below hw (Nat.le_refl _))
  have HBo := Lib.hid (hb.below hw (Nat.le_refl _))
  have HVL := Lib.hid (vals_len p e.bare)
  have hcl : cellsN p ≤ 10200 := by have := fN_le hs; have := hs.headers; have := hs.metadata; unfold cellsN; omega
  clear o hs oe hx hb hw hszW
  obtain ⟨l, A, c⟩ := x
  obtain ⟨bl, bA, bc⟩ := b
  simp only at hl HXo HBo ⊢
  obtain ⟨U, hU⟩ : ∃ U, U = W.alloc (.cells #[.slice none 0 0, .slice none 0 0, .slice none 0 0] 64) := ⟨_, rfl⟩
  have HBU : Hid (Below W.heap.size W U) := Lib.hid (by rw [hU]; exact below1 _ _)
  have HSU : Hid (U.heap.size = W.heap.size + 1) := Lib.hid (by rw [hU]; simp)
  have hgU : W.heap.size < U.heap.size := by have := HSU.out; omega
  have HC0 : Hid (ConOwn U U.heap.size W.heap.size emptyC) := Lib.hid (empty_con _ _ _ (by rw [hU]; exact Blk.new _ _ _) hgU)
  go_enter Tryz.func22, Tryz.ntmps22
  go_upto_region 1 with fail
  rw [← hW]
  clear hW
  go_upto_region 2 with fail
  rw [← hU]
  clear hU
  obtain ⟨i0, hi, hz0, hz1, hz2⟩ := info_parts info_u32
  go_wp2
  go_loopw [11, 12, 20] (fun _ _ iv wr => ∃ (k : Nat) (y : ConD), k ≤ l.length ∧ iv = .int .i64 k ∧ Hid (y.bare = con0 (l.take k)) ∧ Hid (ConOwn wr U.heap.size W.heap.size y) ∧ U.heap.size ≤ wr.heap.size ∧ Below W.heap.size W wr) (fun _ _ i _ => l.length - (intOf i).toNat)
  case atStart => exact ⟨0, emptyC, Nat.zero_le _, rfl, Lib.hid rfl, HC0, Nat.le_refl _, HBU.out⟩
  case round =>
  obtain ⟨k, y, hk, rfl, HY, HO, hsz, HB⟩ := hrel
  by_cases hlt : k < l.length
  case pos =>
    obtain ⟨g0, of0, hA, hall⟩ := SlotD.atA HXo.out hlt
    simp only at hA
    subst hA
    have HT : Hid (l.take (k + 1) = l.take k ++ [l[k]]) := Lib.hid (take_one l k hlt)
    obtain ⟨d0, d1, d2, d3⟩ := hall wr HB
    clear hall
    generalize l[k] = s at *
    obtain ⟨z, i, f, d⟩ := s
    simp only at d0 d1 d2 d3
    have hca := @World.cell?_alloc_some
    refine Exists.elim (⟨_, rfl⟩ : ∃ V, V = wr.alloc (.cells #[.int .i64 z, .int .i64 i, .int .i64 f, .int .i64 d] 48)) fun V hV => ?_
    have HCp : Hid (Blk V wr.heap.size 48 #[.int .i64 z, .int .i64 i, .int .i64 f, .int .i64 d]) := Lib.hid (by rw [hV]; exact Blk.new _ _ _)
    have hBr : Below wr.heap.size wr V := by rw [hV]; exact below1 _ _
    have HOV := Lib.hid (HO.out.below hBr)
    have HBV := Lib.hid (below_step HB hBr)
    have hszV : wr.heap.size < V.heap.size := HCp.out.lt
    have HNb : Hid (∀ z, (conL y z).v.ownBlock ≠ some wr.heap.size) := Lib.hid (fun z e => by have := (own_lt (HO.out.list z) _ e).2; omega)
    clear HB HO hBr
    go_upto_region 5 with fail
    rw [← hV]
    clear hV d0 d1 d2 d3 hca
    have s0 : V.cell? ⟨wr.heap.size, 0, none⟩ = some (.int .i64 z) := HCp.out.cell 0
    have s1 : V.cell? ⟨wr.heap.size, 1, none⟩ = some (.int .i64 i) := HCp.out.cell 1
    have s2 : V.cell? ⟨wr.heap.size, 2, none⟩ = some (.int .i64 f) := HCp.out.cell 2
    have s3 : V.cell? ⟨wr.heap.size, 3, none⟩ = some (.int .i64 d) := HCp.out.cell 3
    go_wp2_with fail
    refine (valid_any z i f d V).mono ?_
    rintro r w1 ⟨rfl, hbN⟩
    have HC1 := Lib.hid (HCp.out.below hbN HCp.out.lt)
    have HO1 := Lib.hid (HOV.out.below hbN)
    have HB1 := Lib.hid (below_step HBV.out hbN)
    have hsz1 : wr.heap.size < w1.heap.size := HC1.out.lt
    have hszU : U.heap.size ≤ w1.heap.size := by omega
    clear hbN s0 s1 s2 s3 HCp HOV HBV hszV
    cases hv : validS ⟨z, i, f, d⟩ with
    | false =>
      have HY2 : Hid (y.bare = con0 (l.take (k + 1))) := Lib.hid (by rw [HT.out, con_snoc_bad hv]; exact HY.out)
      clear hv HT HY
      go_wp2
      go_roundw
      case rel => exact ⟨k + 1, y, by omega, by go_num, HY2, HO1, hszU, HB1.out⟩
      case measure => simp [intOf]; omega
    | true =>
      have hbs := validS_iff.1 hv
      simp only at hbs
      obtain ⟨n, rfl⟩ : ∃ n : Nat, i = n := ⟨i.toNat, by omega⟩
      have hn64 : n < 64 := by omega
      have HZ := Lib.hid hbs.1
      have HY2 := Lib.hid (con_snoc (l := l.take k) hv)
      have hcn := count_le (l.take k) z
      have HLz : Hid ((conL y z).l = List.replicate (countM (l.take k) z) 0) := Lib.hid (by
        rw [conL_l, HY.out]
        have hz := HZ.out
        rcases hz with e | e | e <;> subst e <;> rfl)
      simp only at HY2
      clear hv hbs
      generalize hcc : countM (l.take k) z = cn at *
      have s0 : w1.cell? ⟨wr.heap.size, 0, none⟩ = some (.int .i64 z) := HC1.out.cell 0
      go_wp2_with fail
      refine (clist_any W.heap.size z w1).mono ?_
      rintro r w' ⟨rfl, rfl⟩
      clear s0
      have HB1' := HB1.out
      obtain ⟨cb, hcb⟩ : ∃ cb, wr.heap.size = cb := ⟨_, rfl⟩
      rw [hcb] at HC1 hsz1 HNb hsz ⊢
      clear hcb
      go_wp2
      go_loopw [] (fun wq => ∃ (m : Nat) (y' : ConD), cn ≤ m ∧ m ≤ max cn (n + 1) ∧ Hid ((conL y' z).l = List.replicate m 0 ∧ y'.bare = setC y.bare z (List.replicate m 0)) ∧ Hid (ConOwn wq U.heap.size W.heap.size y' ∧ (conL y' z).v.ownBlock ≠ some cb) ∧ Blk wq cb 48 #[.int .i64 z, .int .i64 n, .int .i64 f, .int .i64 d] ∧ cb < wq.heap.size ∧ Below W.heap.size W wq) (fun wq => lackOf (n + 1) W.heap.size (cix z) wq)
      case atStart => exact ⟨cn, y, Nat.le_refl _, by omega, Lib.hid ⟨HLz.out, by rw [← HLz.out, conL_l, setC_own]⟩, Lib.hid ⟨HO1.out, HNb.out z⟩, HC1.out, hsz1, HB1'⟩
      case round =>
        obtain ⟨m, y', hm1, hm2, HL', HO', hCp, hsq, HB⟩ := hrel
        have s1 : wr.cell? ⟨cb, 1, none⟩ = some (.int .i64 n) := hCp.cell 1
        have c0 := con_cell HO'.out.1.blk z
        have HLn : Hid ((conL y' z).l.length = m) := Lib.hid (by rw [HL'.out.1]; simp)
        have hm100 : m ≤ 200 := by omega
        have HBb := Lib.hid HB
        have HCb := Lib.hid hCp
        clear hCp HB
        rw [HLn.out] at c0
        have hown : wr.ownsRow U.heap.size 83 1 (.slice (conL y' z).A m (conL y' z).c) m ((List.replicate m 0).flatMap ucell) := by
          have h := HO'.out.1.list z
          unfold OwnL at h
          rw [HL'.out.1] at h
          simp only [L.v, HL'.out.1, List.length_replicate] at h
          exact h
        by_cases hmn : m ≤ n
        · have hmn' : (m : Int) ≤ (n : Int) := by omega
          go_wp2
          go_quiet (fail)
          have hown0 : (wr.drewN nq).ownsRow U.heap.size 83 1 (.slice (conL y' z).A m (conL y' z).c) m ((List.replicate m 0).flatMap ucell) := hown
          have HO0 : Hid (ConOwn (wr.drewN nq) U.heap.size W.heap.size y' ∧ (conL y' z).v.ownBlock ≠ some cb) := Lib.hid ⟨HO'.out.1.below (below_drewN (Below.refl _ _) _), HO'.out.2⟩
          have HB0 : Hid (Below W.heap.size W (wr.drewN nq)) := Lib.hid (below_drewN HBb.out _)
          have HC0 : Hid (Blk (wr.drewN nq) cb 48 #[.int .i64 z, .int .i64 n, .int .i64 f, .int .i64 d]) := Lib.hid (HCb.out.drewN _)
          have c1 : (wr.drewN nq).cell? ⟨W.heap.size, cix z, none⟩ = some (.slice (conL y' z).A m (conL y' z).c) := c0
          have hs0 : cb < (wr.drewN nq).heap.size := hsq
          have hlk : lackOf (n + 1) W.heap.size (cix z) wr = n + 1 - m := by unfold lackOf; rw [c0]
          clear hown HO' HBb HCb c0 hsq s1
          generalize wr.drewN nq = wq at *
          have hU64 : U.heap.size ≤ wq.heap.size := by omega
          go_wp2_with (first
            | (at_builtin; refine wpList_append_own_at _ rfl _ _ 53 rfl U.heap.size 83 i0 _ 1 4 Tryz.underlying53 hi hz0 hz1 hz2 rfl (by decide) _ _ _ rfl (hown0.alloc _) ⟨wq.heap.size, 0, none⟩ 1 1 [.int .u32 0] rfl rfl ?g01 ?g02 ?g03 ?g04 ?g05 ?_))
          case g01 => exact new_cells _ _ _
          case g02 => intro u hu; simp only [List.mem_cons, List.not_mem_nil, or_false] at hu; subst hu; rfl
          case g03 => unfold maxLen; omega
          case g04 => omega
          case g05 => first | omega | (simp; omega)
          intro v1 w6 hown2 hgrow _ hat
          obtain ⟨A1, c1', rfl⟩ := row_slice1 hown2
          have hv : (conL y' z).v = .slice (conL y' z).A m (conL y' z).c := by unfold L.v; rw [HLn.out]
          rw [← hv] at hgrow hat
          have hrep : (List.replicate m (0 : Int)).flatMap ucell ++ [.int .u32 0] = (List.replicate (m + 1) (0 : Int)).flatMap ucell := by
            rw [List.replicate_succ', List.flatMap_append]; rfl
          rw [hrep] at hown2
          have hlr : (List.replicate (m + 1) (0 : Int)).length = m + 1 := by simp
          have hown3 : OwnL w6 U.heap.size 83 ucell ⟨List.replicate (m + 1) 0, A1, c1'⟩ := by
            unfold OwnL
            simp only [L.v, hlr]
            exact hown2
          have hat3 : (Value.slice A1 (List.replicate (m + 1) (0 : Int)).length c1').ownBlock = (conL y' z).v.ownBlock ∨ (Value.slice A1 (List.replicate (m + 1) (0 : Int)).length c1').ownBlock = some (wq.heap.size + 1) := by rw [hlr]; exact hat
          have hG := ConOwn.grow HO0.out.1 z hown3 hgrow hat3
          rw [hlr] at hG
          have HG := Lib.hid hG
          have HC6 := Lib.hid ((HC0.out.alloc _).grown hgrow (fun e => HO0.out.2 e.symm))
          have hoa : ∀ j, (conL y' z).v.ownBlock = some j → W.heap.size ≤ j := fun j hj => by have := (own_lt (HO0.out.1.list z) j hj).1; omega
          have HB6 : Hid (Below W.heap.size W w6) := Lib.hid ((below_alloc HB0.out _).grown hgrow (below_alloc HB0.out _).size hoa)
          have hs6 : cb < w6.heap.size := by have := hgrow.size; simp at this; omega
          have hA1 : (Value.slice A1 (m + 1) c1').ownBlock ≠ some cb := fun e => by
            rcases hat with h1 | h1
            · exact HO0.out.2 (h1 ▸ e)
            · have := h1.symm.trans e; injection this with this; omega
          have HBk : Blk w6 W.heap.size 64 #[y'.c8.v, y'.c16.v, y'.c32.v] := (HO0.out.1.blk.alloc _).grown hgrow (fun e => by have := (own_lt (HO0.out.1.list z) _ e.symm).1; omega)
          have c6 : w6.cell? ⟨W.heap.size, cix z, none⟩ = some (.slice (conL y' z).A m (conL y' z).c) := by have := con_cell HBk z; rw [HLn.out] at this; exact this
          have f6 : w6.frozen? ⟨W.heap.size, cix z, none⟩ = false := HBk.frozen _
          have hlk2 : lackOf (n + 1) W.heap.size (cix z) (w6.setCell ⟨W.heap.size, cix z, none⟩ (.slice A1 (m + 1) c1')) = n + 1 - (m + 1) := by
            have h7 := con_cell HG.out.blk z
            rw [conL_conS] at h7
            simp only [List.length_replicate] at h7
            unfold lackOf
            rw [h7]
          have HR : Hid ((conL (conS y' z ⟨List.replicate (m + 1) 0, A1, c1'⟩) z).l = List.replicate (m + 1) 0 ∧ (conS y' z ⟨List.replicate (m + 1) 0, A1, c1'⟩).bare = setC y.bare z (List.replicate (m + 1) 0)) := Lib.hid ⟨by rw [conL_conS], by rw [conS_bare, HL'.out.2, setC_same]⟩
          have hA2 : (conL (conS y' z ⟨List.replicate (m + 1) 0, A1, c1'⟩) z).v.ownBlock ≠ some cb := by rw [conL_conS]; unfold L.v; rw [hlr]; exact hA1
          clear hgrow hat hat3 hown2 hown3 hown0 hrep hlr hG HO0 HB0 HC0 hoa hs0 hU64 hv HBk
          go_wp2
          go_roundw
          case rel => exact ⟨m + 1, conS y' z ⟨List.replicate (m + 1) 0, A1, c1'⟩, by omega, by omega, HR, Lib.hid ⟨HG.out, hA2⟩, HC6.out.far (by show cb ≠ W.heap.size; omega) _, by simpa using hs6, HB6.out.setCell (p := ⟨W.heap.size, cix z, none⟩) (Nat.le_refl _) _⟩
          case measure => omega
        · have hmn' : ¬ (m : Int) ≤ (n : Int) := by omega
          have em : m = max cn (n + 1) := by omega
          have HY3 : Hid (y'.bare = con0 (l.take (k + 1))) := Lib.hid (by
            rw [HT.out, HY2.out, HL'.out.2, ← HY.out, em]
            rfl)
          clear em
          go_wp2
          go_quiet (fail)
          go_wp2
          go_roundw
          case rel => exact ⟨k + 1, y', by omega, by go_num, HY3, Lib.hid (HO'.out.1.below (below_drewN (Below.refl _ _) _)), by show U.heap.size ≤ wr.heap.size; omega, below_drewN HBb.out _⟩
          case measure => simp [intOf]; omega
  case neg =>
    have hkl : k = l.length := by omega
    subst hkl
    have HY0 : Hid (y.bare = con0 l) := Lib.hid (by rw [HY.out, List.take_length])
    clear HY hk hlt
    have hp3 := And.intro (hp0 wr HB) (hp1 wr HB)
    have HB1 := Lib.hid HB
    have HlB : Hid (∀ z b, (conL y z).v.ownBlock = some b → b < wr.heap.size) := Lib.hid (fun z b e => (own_lt (HO.out.list z) b e).2)
    obtain ⟨cs0, hcs0⟩ : ∃ cs0, progCells p = cs0 := ⟨_, rfl⟩
    obtain ⟨cs1, hcs1⟩ : ∃ cs1, envCells e = cs1 := ⟨_, rfl⟩
    simp only [progCells] at hcs0
    simp only [envCells] at hcs1
    subst hcs0 hcs1
    simp only [progCells, envCells] at hp3 HV ⊢
    go_upto_region 11 with fail
    refine (HV.out wr HB1.out).mono ?_
    rintro r w2 ⟨A2, c2, rfl, hown, hb2⟩
    obtain ⟨vs, hvs⟩ : ∃ vs, valsM p e.bare = vs := ⟨_, rfl⟩
    rw [hvs] at hown HVL
    have HVS := Lib.hid hvs
    obtain ⟨N, hN⟩ : ∃ N, cellsN p = N := ⟨_, rfl⟩
    rw [hN] at hown HVL hcl ⊢
    have HOW := Lib.hid (OwnL.ok (x := ⟨vs, A2, c2⟩) (B := wr.heap.size) (t := 83) (cells := ucell) (fun _ => rfl) (by unfold OwnL; simp only [L.v]; rw [HVL.out]; exact hown))
    have HOV : Hid (OwnL w2 wr.heap.size 83 ucell ⟨vs, A2, c2⟩) := Lib.hid (by unfold OwnL; simp only [L.v]; rw [HVL.out]; exact hown)
    have HO2 := Lib.hid (HO.out.below hb2)
    have HB2 := Lib.hid (below_step HB1.out hb2)
    have hsz2 : U.heap.size ≤ w2.heap.size := by have := hb2.size; omega
    have HUw : Hid (U.heap.size ≤ wr.heap.size) := Lib.hid hsz
    obtain ⟨bw, hbw⟩ : ∃ bw, wr.heap.size = bw := ⟨_, rfl⟩
    rw [hbw] at HOV HlB HUw
    clear hbw hvs hN hown hb2 hp3 hp0 hp1 HB HB1 HV HO hsz HOW HC0 HBU HSU HP0 HP1
    go_wp2
    go_loopw [15, 16, 17, 51] (fun _ _ _ iv wq => ∃ (k : Nat) (y' : ConD), k ≤ l.length ∧ iv = .int .i64 k ∧ Hid (y'.bare = loadK l (vs ++ bl.map bitI) k) ∧ Hid (ConOwn wq U.heap.size W.heap.size y' ∧ ∀ z, (conL y' z).v.ownBlock = (conL y z).v.ownBlock) ∧ Hid (OwnL wq bw 83 ucell ⟨vs, A2, c2⟩) ∧ Below W.heap.size W wq ∧ U.heap.size ≤ wq.heap.size) (fun _ _ _ i _ => l.length - (intOf i).toNat)
    case atStart => exact ⟨0, y, Nat.zero_le _, rfl, HY0, Lib.hid ⟨HO2.out, fun _ => rfl⟩, HOV, HB2.out, hsz2⟩
    case round =>
    obtain ⟨k, y', hk, rfl, HY, HO, HV, HB, hsz⟩ := hrel
    by_cases hlt : k < l.length
    case pos =>
      obtain ⟨g0, of0, hA, hall⟩ := SlotD.atA HXo.out hlt
      simp only at hA
      subst hA
      have HT := Lib.hid (loadK_at l (vs ++ bl.map bitI) k hlt)
      have HMc : Hid (validS l[k] = true → l[k].index < ((ofC (loadK l (vs ++ bl.map bitI) k) l[k].size).length : Int)) := Lib.hid (fun hv => by
        rw [loadK_len _ _ (sizes_of hv)]
        have := count_gt hv (List.getElem_mem hlt)
        omega)
      obtain ⟨d0, d1, d2, d3⟩ := hall wr HB
      clear hall
      generalize l[k] = s at *
      obtain ⟨z, i, f, d⟩ := s
      simp only at d0 d1 d2 d3
      have hca := @World.cell?_alloc_some
      refine Exists.elim (⟨_, rfl⟩ : ∃ V, V = wr.alloc (.cells #[.int .i64 z, .int .i64 i, .int .i64 f, .int .i64 d] 48)) fun V hV => ?_
      have HCp : Hid (Blk V wr.heap.size 48 #[.int .i64 z, .int .i64 i, .int .i64 f, .int .i64 d]) := Lib.hid (by rw [hV]; exact Blk.new _ _ _)
      have hBr : Below wr.heap.size wr V := by rw [hV]; exact below1 _ _
      have HOb : Hid (ConOwn V U.heap.size W.heap.size y' ∧ ∀ z, (conL y' z).v.ownBlock = (conL y z).v.ownBlock) := Lib.hid ⟨HO.out.1.below hBr, HO.out.2⟩
      have HVb := Lib.hid (HV.out.below hBr)
      have HBb := Lib.hid (below_step HB hBr)
      have hszb : U.heap.size ≤ V.heap.size := by have := hBr.size; omega
      clear hBr HB HO HV
      go_upto_region 15 with fail
      rw [← hV]
      clear hV d0 d1 d2 d3 hca
      go_upto_block 6 with fail
      have HVl : Hid (vs.length = N) := HVL
      have HVk : Hid (OwnL V bw 83 ucell ⟨vs, A2, c2⟩) := HVb
      have HVB := HBb.out
      generalize hnv : (vs ++ bl.map bitI).getD k 0 = nv at *
      go_cut [17] from 52 to 78 (fun v wx => v = .int .u32 nv ∧ V = wx)
      case first =>
        by_cases hkn : k < N
        case pos =>
          have hkn' : (k : Int) < (N : Int) := by omega
          have hkv : k < vs.length := by rw [HVl.out]; exact hkn
          have hn2 : nv = vs[k] := by rw [← hnv, List.getD_eq_getElem?_getD, List.getElem?_append_left hkv, List.getElem?_eq_getElem hkv]; rfl
          obtain ⟨gv, ov, hgv, hcv⟩ := ucell_atA (OwnL.ok (fun _ => rfl) HVk.out).1 hkv
          simp only at hgv hcv
          subst hgv
          have d5 := hcv V (Below.refl _ _)
          rw [← hn2] at d5
          clear hcv hn2 hkv hnv
          go_wp2
          go_meet
          case rel => exact ⟨rfl, rfl⟩
        case neg =>
          have hkn' : ¬ (k : Int) < (N : Int) := by omega
          by_cases hkb : k - N < bl.length
          case pos =>
            have hkb' : (k : Int) - (N : Int) < (bl.length : Int) := by omega
            have hn2 : nv = bitI (bl[k - N]) := by
              rw [← hnv, List.getD_eq_getElem?_getD, List.getElem?_append_right (by rw [HVl.out]; omega), HVl.out, List.getElem?_map, List.getElem?_eq_getElem hkb]; rfl
            obtain ⟨gv, ov, hgv, hcv⟩ := bcell_atA HBo.out hkb
            simp only at hgv hcv
            subst hgv
            have d5 := hcv V HVB
            obtain ⟨q, hq⟩ : ∃ q, k - N = q := ⟨_, rfl⟩
            have hkN : k = N + q := by omega
            have hqb : q < bl.length := by omega
            clear hcv hnv
            generalize bl[k - N] = bv at *
            rw [hq] at d5
            have hsub : (k : Int) - (N : Int) = (q : Int) := by omega
            have hnb : Hid (nv = bitI bv) := Lib.hid hn2
            rw [hsub] at hkb'
            clear hq hkN hn2
            go_upto_region 18 with fail
            go_upto_region 19 with fail
            go_wp2_with fail
            refine (pbit_any bv _).mono ?_
            rintro r w' ⟨rfl, rfl⟩
            have hbv : (if bv = true then (1 : Int) else 0) = nv := hnb.out.symm
            rw [hbv]
            clear hbv hnb hsub d5
            go_wp2
            go_meet
            case rel => exact ⟨rfl, rfl⟩
          case neg =>
            have hkb' : ¬ (k : Int) - (N : Int) < (bl.length : Int) := by omega
            have hn2 : nv = 0 := by
              rw [← hnv, List.getD_eq_getElem?_getD, List.getElem?_eq_none (by rw [List.length_append, List.length_map, HVl.out]; omega)]; rfl
            subst hn2
            clear hnv
            go_wp2
            go_meet
            case rel => exact ⟨rfl, rfl⟩
      case rest =>
      obtain ⟨rfl, hwc⟩ := hcut
      subst hwc
      have s0 : V.cell? ⟨wr.heap.size, 0, none⟩ = some (.int .i64 z) := HCp.out.cell 0
      have s1 : V.cell? ⟨wr.heap.size, 1, none⟩ = some (.int .i64 i) := HCp.out.cell 1
      have s2 : V.cell? ⟨wr.heap.size, 2, none⟩ = some (.int .i64 f) := HCp.out.cell 2
      have s3 : V.cell? ⟨wr.heap.size, 3, none⟩ = some (.int .i64 d) := HCp.out.cell 3
      clear hnv HVB HVk
      go_wp2_with fail
      refine (valid_any z i f d V).mono ?_
      rintro r w5 ⟨rfl, hbN⟩
      have HC5 := Lib.hid (HCp.out.below hbN HCp.out.lt)
      have HO5 : Hid (ConOwn w5 U.heap.size W.heap.size y' ∧ ∀ z, (conL y' z).v.ownBlock = (conL y z).v.ownBlock) := Lib.hid ⟨HOb.out.1.below hbN, HOb.out.2⟩
      have HB5 := Lib.hid (below_step HBb.out hbN)
      have HV5 := Lib.hid (HVb.out.below hbN)
      have hsz5 : U.heap.size ≤ w5.heap.size := by have := hbN.size; omega
      clear hbN s0 s1 s2 s3 HCp HOb HBb HVb hszb
      cases hv : validS ⟨z, i, f, d⟩ with
      | false =>
        have HY5 : Hid (y'.bare = loadK l (vs ++ bl.map bitI) (k + 1)) := Lib.hid (by rw [HT.out, hv]; exact HY.out)
        clear hv HT HY HMc
        go_wp2
        go_roundw
        case rel => exact ⟨k + 1, y', by omega, by go_num, HY5, HO5, HV5, HB5.out, hsz5⟩
        case measure => simp [intOf]; omega
      | true =>
        have hi5 : i < ((ofC y'.bare z).length : Int) := by rw [HY.out]; exact HMc.out hv
        have HS := Lib.hid (cset_any y' ⟨z, i, f, d⟩ nv U.heap.size W.heap.size w5 HO5.out.1 hv hi5)
        have HY5 : Hid (loadK l (vs ++ bl.map bitI) (k + 1) = putC y'.bare ⟨z, i, f, d⟩ nv) := Lib.hid (by rw [HT.out, hv, HY.out]; rfl)
        clear hv HT HY HMc hi5
        have s0 : w5.cell? ⟨wr.heap.size, 0, none⟩ = some (.int .i64 z) := HC5.out.cell 0
        have s1 : w5.cell? ⟨wr.heap.size, 1, none⟩ = some (.int .i64 i) := HC5.out.cell 1
        have s2 : w5.cell? ⟨wr.heap.size, 2, none⟩ = some (.int .i64 f) := HC5.out.cell 2
        have s3 : w5.cell? ⟨wr.heap.size, 3, none⟩ = some (.int .i64 d) := HC5.out.cell 3
        go_wp2_with fail
        refine HS.out.mono ?_
        rintro r w6 ⟨rfl, ⟨x', hbx, hox, hzx⟩, hg⟩
        have HY6 : Hid (x'.bare = loadK l (vs ++ bl.map bitI) (k + 1)) := Lib.hid (by rw [HY5.out]; exact hbx)
        have HO6 : Hid (ConOwn w6 U.heap.size W.heap.size x' ∧ ∀ z, (conL x' z).v.ownBlock = (conL y z).v.ownBlock) := Lib.hid ⟨hox, fun z' => (hzx z').trans (HO5.out.2 z')⟩
        have HV6 := Lib.hid (HV5.out.grown hg (fun g e e2 => by
          have h1 := (own_lt HV5.out g e).1
          have h2 := HlB.out z g ((HO5.out.2 z).symm.trans e2)
          omega))
        have HB6 : Hid (Below W.heap.size W w6) := Lib.hid (HB5.out.grown hg HB5.out.size (fun j hj => by have := (own_lt (HO5.out.1.list z) j hj).1; omega))
        have hsz6 : U.heap.size ≤ w6.heap.size := by have := hg.size; omega
        clear hbx hox hzx hg HS HY5 s0 s1 s2 s3 HO5 HV5 HB5 HC5
        go_wp2
        go_roundw
        case rel => exact ⟨k + 1, x', by omega, by go_num, HY6, HO6, HV6, HB6.out, hsz6⟩
        case measure => simp [intOf]; omega
    case neg =>
      have hkl : k = l.length := by omega
      subst hkl
      have HF : Hid (y'.bare = loadM l (valsM p e.bare ++ bl.map bitI)) := Lib.hid (by rw [HY.out, HVS.out]; rfl)
      clear HY HV
      have c0 : wr.cell? ⟨W.heap.size, 0, none⟩ = some y'.c8.v := HO.out.1.blk.cell 0
      have c1 : wr.cell? ⟨W.heap.size, 1, none⟩ = some y'.c16.v := HO.out.1.blk.cell 1
      have c2' : wr.cell? ⟨W.heap.size, 2, none⟩ = some y'.c32.v := HO.out.1.blk.cell 2
      have HR := Lib.hid (HP2.out.below HB HP2.out.lt)
      have f0 : wr.frozen? ⟨w.heap.size + 1 + 1, 0, none⟩ = false := HR.out.frozen 0
      have f1 : wr.frozen? ⟨w.heap.size + 1 + 1, 1, none⟩ = false := HR.out.frozen 1
      have f2 : wr.frozen? ⟨w.heap.size + 1 + 1, 2, none⟩ = false := HR.out.frozen 2
      have g0 : wr.cell? ⟨w.heap.size + 1 + 1, 0, none⟩ = some (.slice none 0 0) := HR.out.cell 0
      have g1 : wr.cell? ⟨w.heap.size + 1 + 1, 1, none⟩ = some (.slice none 0 0) := HR.out.cell 1
      have g2 : wr.cell? ⟨w.heap.size + 1 + 1, 2, none⟩ = some (.slice none 0 0) := HR.out.cell 2
      have HBF := Lib.hid HB
      have hne : w.heap.size + 1 + 1 < W.heap.size := by have := HSz.out; omega
      have HX : Hid (∀ (q : L Int) (u v x : Value), OwnL wr U.heap.size 83 ucell q → LOkN (((wr.setCell ⟨w.heap.size + 1 + 1, 0, none⟩ u).setCell ⟨w.heap.size + 1 + 1, 1, none⟩ v).setCell ⟨w.heap.size + 1 + 1, 2, none⟩ x) 1 ucell q) := Lib.hid (fun q u v x hq => by
        have hq' : ∀ j, q.v.ownBlock = some j → U.heap.size ≤ j := fun j hj => (own_lt hq j hj).1
        have hn : q.v.ownBlock ≠ some (w.heap.size + 1 + 1) := fun e => by have := hq' _ e; omega
        exact OwnL.ok (fun _ => rfl) (((hq.far u (by exact hn)).far v (by exact hn)).far x (by exact hn)))
      clear HB hk hlt
      go_wp2
      refine bodyPost_ret (v := .agg #[y'.c8.v, y'.c16.v, y'.c32.v]) ?_ rfl ?_
      · exact results_cell_row (fn := Tryz.f22) (p := 8) (ty := 64) rfl _ _ (w.heap.size + 1 + 1) 64 #[y'.c8.v, y'.c16.v, y'.c32.v] (0, 0) _ rfl (((HR.out.set_ 0 _).set_ 1 _).set_ 2 _) Tryz.underlying64 rfl (by kernel_rfl)
      · exact ⟨y', rfl, HF.out, ⟨HX.out _ _ _ _ HO.out.1.o8, HX.out _ _ _ _ HO.out.1.o16, HX.out _ _ _ _ HO.out.1.o32⟩, (((below_step HW.out HBF.out).setCell (p := ⟨w.heap.size + 1 + 1, 0, none⟩) (by show w.heap.size ≤ w.heap.size + 1 + 1; omega) _).setCell (p := ⟨w.heap.size + 1 + 1, 1, none⟩) (by show w.heap.size ≤ w.heap.size + 1 + 1; omega) _).setCell (p := ⟨w.heap.size + 1 + 1, 2, none⟩) (by show w.heap.size ≤ w.heap.size + 1 + 1; omega) _⟩
end Go.Proofs.YtbfjknidinkafaaGreat
namespace Go.Proofs.YtbfjknidinkafaaGreat
open Go.RowKit

theorem arr5_0 (a b c d e : Int) (w : World) : (Instr.index 140 (.agg #[.int .i64 a, .int .i64 b, .int .i64 c, .int .i64 d, .int .i64 e]) (.int .i64 0)).run Tryz.prog w = .ok (.int .i64 a) w := by kernel_rfl
theorem arr5_1 (a b c d e : Int) (w : World) : (Instr.index 140 (.agg #[.int .i64 a, .int .i64 b, .int .i64 c, .int .i64 d, .int .i64 e]) (.int .i64 1)).run Tryz.prog w = .ok (.int .i64 b) w := by kernel_rfl
theorem arr5_2 (a b c d e : Int) (w : World) : (Instr.index 140 (.agg #[.int .i64 a, .int .i64 b, .int .i64 c, .int .i64 d, .int .i64 e]) (.int .i64 2)).run Tryz.prog w = .ok (.int .i64 c) w := by kernel_rfl
theorem arr5_3 (a b c d e : Int) (w : World) : (Instr.index 140 (.agg #[.int .i64 a, .int .i64 b, .int .i64 c, .int .i64 d, .int .i64 e]) (.int .i64 3)).run Tryz.prog w = .ok (.int .i64 d) w := by kernel_rfl
theorem arr5_4 (a b c d e : Int) (w : World) : (Instr.index 140 (.agg #[.int .i64 a, .int .i64 b, .int .i64 c, .int .i64 d, .int .i64 e]) (.int .i64 4)).run Tryz.prog w = .ok (.int .i64 e) w := by kernel_rfl
theorem chip_ok {c : ChipD} (h : (1 ≤ c.stages ∧ c.stages ≤ 16) ∧ in64 c.tables ∧ in64 c.gates ∧ in64 c.c8 ∧ in64 c.c16 ∧ in64 c.c32 ∧ (0 ≤ c.sram ∧ c.sram ≤ 4096) ∧ (0 ≤ c.tcam ∧ c.tcam ≤ 4096)) : chipM c = 0 := if_pos h
theorem chip_bad {c : ChipD} (h : ¬ ((1 ≤ c.stages ∧ c.stages ≤ 16) ∧ in64 c.tables ∧ in64 c.gates ∧ in64 c.c8 ∧ in64 c.c16 ∧ in64 c.c32 ∧ (0 ≤ c.sram ∧ c.sram ≤ 4096) ∧ (0 ≤ c.tcam ∧ c.tcam ≤ 4096))) : chipM c = 9 := if_neg h
set_option maxHeartbeats 16000000 in
theorem chip_any (st ta ga sr tc c8 c16 c32 : Int) (w : World) : Calls Tryz.prog 38 #[.agg #[.int .i64 st, .int .i64 ta, .int .i64 ga, .int .i64 sr, .int .i64 tc, .int .i64 c8, .int .i64 c16, .int .i64 c32]] w fun e w' => e = .returned (.int .i64 (chipM ⟨st, ta, ga, sr, tc, c8, c16, c32⟩)) ∧ Below w.heap.size w w' := by
  have i0 := arr5_0
  have i1 := arr5_1
  have i2 := arr5_2
  have i3 := arr5_3
  have i4 := arr5_4
  by_cases h0 : 1 ≤ st
  case neg =>
    have HR : Hid (chipM ⟨st, ta, ga, sr, tc, c8, c16, c32⟩ = 9) := Lib.hid (chip_bad (by simp only [in64]; omega))
    go_enter Tryz.func38, Tryz.ntmps38
    go_wp2
    go_ret
    exact ⟨by rw [HR.out]; rfl, below1 _ _⟩
  by_cases h1 : st ≤ 16
  case neg =>
    have HR : Hid (chipM ⟨st, ta, ga, sr, tc, c8, c16, c32⟩ = 9) := Lib.hid (chip_bad (by simp only [in64]; omega))
    go_enter Tryz.func38, Tryz.ntmps38
    go_wp2
    go_ret
    exact ⟨by rw [HR.out]; rfl, below1 _ _⟩
  by_cases h2 : 0 ≤ ta
  case neg =>
    have HR : Hid (chipM ⟨st, ta, ga, sr, tc, c8, c16, c32⟩ = 9) := Lib.hid (chip_bad (by simp only [in64]; omega))
    go_enter Tryz.func38, Tryz.ntmps38
    go_wp2
    refine wp_loop_rounds 6 ?_
    rw [rounds_succ]
    go_wp2
    go_ret
    exact ⟨by rw [HR.out]; rfl, below1 _ _⟩
  by_cases h3 : ta ≤ 64
  case neg =>
    have HR : Hid (chipM ⟨st, ta, ga, sr, tc, c8, c16, c32⟩ = 9) := Lib.hid (chip_bad (by simp only [in64]; omega))
    go_enter Tryz.func38, Tryz.ntmps38
    go_wp2
    refine wp_loop_rounds 6 ?_
    rw [rounds_succ]
    go_wp2
    go_ret
    exact ⟨by rw [HR.out]; rfl, below1 _ _⟩
  by_cases h4 : 0 ≤ ga
  case neg =>
    have HR : Hid (chipM ⟨st, ta, ga, sr, tc, c8, c16, c32⟩ = 9) := Lib.hid (chip_bad (by simp only [in64]; omega))
    go_enter Tryz.func38, Tryz.ntmps38
    go_wp2
    refine wp_loop_rounds 6 ?_
    rw [rounds_succ]
    go_wp2
    rw [rounds_succ]
    go_wp2
    go_ret
    exact ⟨by rw [HR.out]; rfl, below1 _ _⟩
  by_cases h5 : ga ≤ 64
  case neg =>
    have HR : Hid (chipM ⟨st, ta, ga, sr, tc, c8, c16, c32⟩ = 9) := Lib.hid (chip_bad (by simp only [in64]; omega))
    go_enter Tryz.func38, Tryz.ntmps38
    go_wp2
    refine wp_loop_rounds 6 ?_
    rw [rounds_succ]
    go_wp2
    rw [rounds_succ]
    go_wp2
    go_ret
    exact ⟨by rw [HR.out]; rfl, below1 _ _⟩
  by_cases h6 : 0 ≤ c8
  case neg =>
    have HR : Hid (chipM ⟨st, ta, ga, sr, tc, c8, c16, c32⟩ = 9) := Lib.hid (chip_bad (by simp only [in64]; omega))
    go_enter Tryz.func38, Tryz.ntmps38
    go_wp2
    refine wp_loop_rounds 6 ?_
    rw [rounds_succ]
    go_wp2
    rw [rounds_succ]
    go_wp2
    rw [rounds_succ]
    go_wp2
    go_ret
    exact ⟨by rw [HR.out]; rfl, below1 _ _⟩
  by_cases h7 : c8 ≤ 64
  case neg =>
    have HR : Hid (chipM ⟨st, ta, ga, sr, tc, c8, c16, c32⟩ = 9) := Lib.hid (chip_bad (by simp only [in64]; omega))
    go_enter Tryz.func38, Tryz.ntmps38
    go_wp2
    refine wp_loop_rounds 6 ?_
    rw [rounds_succ]
    go_wp2
    rw [rounds_succ]
    go_wp2
    rw [rounds_succ]
    go_wp2
    go_ret
    exact ⟨by rw [HR.out]; rfl, below1 _ _⟩
  by_cases h8 : 0 ≤ c16
  case neg =>
    have HR : Hid (chipM ⟨st, ta, ga, sr, tc, c8, c16, c32⟩ = 9) := Lib.hid (chip_bad (by simp only [in64]; omega))
    go_enter Tryz.func38, Tryz.ntmps38
    go_wp2
    refine wp_loop_rounds 6 ?_
    rw [rounds_succ]
    go_wp2
    rw [rounds_succ]
    go_wp2
    rw [rounds_succ]
    go_wp2
    rw [rounds_succ]
    go_wp2
    go_ret
    exact ⟨by rw [HR.out]; rfl, below1 _ _⟩
  by_cases h9 : c16 ≤ 64
  case neg =>
    have HR : Hid (chipM ⟨st, ta, ga, sr, tc, c8, c16, c32⟩ = 9) := Lib.hid (chip_bad (by simp only [in64]; omega))
    go_enter Tryz.func38, Tryz.ntmps38
    go_wp2
    refine wp_loop_rounds 6 ?_
    rw [rounds_succ]
    go_wp2
    rw [rounds_succ]
    go_wp2
    rw [rounds_succ]
    go_wp2
    rw [rounds_succ]
    go_wp2
    go_ret
    exact ⟨by rw [HR.out]; rfl, below1 _ _⟩
  by_cases h10 : 0 ≤ c32
  case neg =>
    have HR : Hid (chipM ⟨st, ta, ga, sr, tc, c8, c16, c32⟩ = 9) := Lib.hid (chip_bad (by simp only [in64]; omega))
    go_enter Tryz.func38, Tryz.ntmps38
    go_wp2
    refine wp_loop_rounds 6 ?_
    rw [rounds_succ]
    go_wp2
    rw [rounds_succ]
    go_wp2
    rw [rounds_succ]
    go_wp2
    rw [rounds_succ]
    go_wp2
    rw [rounds_succ]
    go_wp2
    go_ret
    exact ⟨by rw [HR.out]; rfl, below1 _ _⟩
  by_cases h11 : c32 ≤ 64
  case neg =>
    have HR : Hid (chipM ⟨st, ta, ga, sr, tc, c8, c16, c32⟩ = 9) := Lib.hid (chip_bad (by simp only [in64]; omega))
    go_enter Tryz.func38, Tryz.ntmps38
    go_wp2
    refine wp_loop_rounds 6 ?_
    rw [rounds_succ]
    go_wp2
    rw [rounds_succ]
    go_wp2
    rw [rounds_succ]
    go_wp2
    rw [rounds_succ]
    go_wp2
    rw [rounds_succ]
    go_wp2
    go_ret
    exact ⟨by rw [HR.out]; rfl, below1 _ _⟩
  by_cases h12 : 0 ≤ sr
  case neg =>
    have HR : Hid (chipM ⟨st, ta, ga, sr, tc, c8, c16, c32⟩ = 9) := Lib.hid (chip_bad (by simp only [in64]; omega))
    go_enter Tryz.func38, Tryz.ntmps38
    go_wp2
    refine wp_loop_rounds 6 ?_
    rw [rounds_succ]
    go_wp2
    rw [rounds_succ]
    go_wp2
    rw [rounds_succ]
    go_wp2
    rw [rounds_succ]
    go_wp2
    rw [rounds_succ]
    go_wp2
    rw [rounds_succ]
    go_wp2
    go_ret
    exact ⟨by rw [HR.out]; rfl, below1 _ _⟩
  by_cases h13 : sr ≤ 4096
  case neg =>
    have HR : Hid (chipM ⟨st, ta, ga, sr, tc, c8, c16, c32⟩ = 9) := Lib.hid (chip_bad (by simp only [in64]; omega))
    go_enter Tryz.func38, Tryz.ntmps38
    go_wp2
    refine wp_loop_rounds 6 ?_
    rw [rounds_succ]
    go_wp2
    rw [rounds_succ]
    go_wp2
    rw [rounds_succ]
    go_wp2
    rw [rounds_succ]
    go_wp2
    rw [rounds_succ]
    go_wp2
    rw [rounds_succ]
    go_wp2
    go_ret
    exact ⟨by rw [HR.out]; rfl, below1 _ _⟩
  by_cases h14 : 0 ≤ tc
  case neg =>
    have HR : Hid (chipM ⟨st, ta, ga, sr, tc, c8, c16, c32⟩ = 9) := Lib.hid (chip_bad (by simp only [in64]; omega))
    go_enter Tryz.func38, Tryz.ntmps38
    go_wp2
    refine wp_loop_rounds 6 ?_
    rw [rounds_succ]
    go_wp2
    rw [rounds_succ]
    go_wp2
    rw [rounds_succ]
    go_wp2
    rw [rounds_succ]
    go_wp2
    rw [rounds_succ]
    go_wp2
    rw [rounds_succ]
    go_wp2
    go_ret
    exact ⟨by rw [HR.out]; rfl, below1 _ _⟩
  by_cases h15 : tc ≤ 4096
  case neg =>
    have HR : Hid (chipM ⟨st, ta, ga, sr, tc, c8, c16, c32⟩ = 9) := Lib.hid (chip_bad (by simp only [in64]; omega))
    go_enter Tryz.func38, Tryz.ntmps38
    go_wp2
    refine wp_loop_rounds 6 ?_
    rw [rounds_succ]
    go_wp2
    rw [rounds_succ]
    go_wp2
    rw [rounds_succ]
    go_wp2
    rw [rounds_succ]
    go_wp2
    rw [rounds_succ]
    go_wp2
    rw [rounds_succ]
    go_wp2
    go_ret
    exact ⟨by rw [HR.out]; rfl, below1 _ _⟩
  have HR : Hid (chipM ⟨st, ta, ga, sr, tc, c8, c16, c32⟩ = 0) := Lib.hid (chip_ok (by simp only [in64]; omega))
  go_enter Tryz.func38, Tryz.ntmps38
  go_wp2
  refine wp_loop_rounds 6 ?_
  rw [rounds_succ]
  go_wp2
  rw [rounds_succ]
  go_wp2
  rw [rounds_succ]
  go_wp2
  rw [rounds_succ]
  go_wp2
  rw [rounds_succ]
  go_wp2
  rw [rounds_succ]
  go_wp2
  go_ret
  exact ⟨by rw [HR.out]; rfl, below1 _ _⟩
theorem rin_any (x a b : Int) (w : World) : Calls Tryz.prog 52 #[.int .i64 x, .int .i64 a, .int .i64 b] w fun e w' => e = .returned (.bool (decide (a ≤ x) && decide (x ≤ b))) ∧ w = w' := by
  by_cases h : a ≤ x
  · by_cases h2 : x ≤ b
    all_goals
      have HR := Lib.hid (show (decide (a ≤ x) && decide (x ≤ b)) = _ from by rw [decide_eq_true h, Bool.true_and])
      go_enter Tryz.func52, Tryz.ntmps52
      go_wp2
      go_ret
      exact ⟨by first | (rw [HR.out]; simp [h2]; done) | (simp [h2]; done) | rfl, rfl⟩
  · have HR : Hid ((decide (a ≤ x) && decide (x ≤ b)) = false) := Lib.hid (by simp [h])
    go_enter Tryz.func52, Tryz.ntmps52
    go_wp2
    go_ret
    exact ⟨by rw [HR.out]; rfl, rfl⟩
theorem in_yes {x a b : Int} (h : a ≤ x ∧ x ≤ b) : (decide (a ≤ x) && decide (x ≤ b)) = true := by simp [h.1, h.2]
theorem in_no {x a b : Int} (h : ¬ (a ≤ x ∧ x ≤ b)) : (decide (a ≤ x) && decide (x ≤ b)) = false := by
  refine Bool.eq_false_iff.2 fun h2 => h ?_
  simpa using h2
set_option maxHeartbeats 16000000 in
theorem rchip_any (st ta ga sr tc c8 c16 c32 : Int) (w : World) : Calls Tryz.prog 16 #[.agg #[.int .i64 st, .int .i64 ta, .int .i64 ga, .int .i64 sr, .int .i64 tc, .int .i64 c8, .int .i64 c16, .int .i64 c32]] w fun e w' => e = .returned (.int .i64 (chipM ⟨st, ta, ga, sr, tc, c8, c16, c32⟩)) ∧ Below w.heap.size w w' := by
  by_cases h0 : 1 ≤ st ∧ st ≤ 16
  case neg =>
    have HR : Hid (chipM ⟨st, ta, ga, sr, tc, c8, c16, c32⟩ = 9) := Lib.hid (chip_bad (by simp only [in64]; omega))
    go_enter Tryz.func16, Tryz.ntmps16
    go_wp2_with fail
    refine (rin_any st 1 16 _).mono ?_
    rintro e w' ⟨rfl, rfl⟩
    rw [in_no h0]
    go_wp2
    go_ret
    exact ⟨by rw [HR.out]; rfl, below1 _ _⟩
  by_cases h1 : 0 ≤ ta ∧ ta ≤ 64
  case neg =>
    have HR : Hid (chipM ⟨st, ta, ga, sr, tc, c8, c16, c32⟩ = 9) := Lib.hid (chip_bad (by simp only [in64]; omega))
    go_enter Tryz.func16, Tryz.ntmps16
    go_wp2_with fail
    refine (rin_any st 1 16 _).mono ?_
    rintro e w' ⟨rfl, rfl⟩
    rw [in_yes h0]
    go_wp2_with fail
    refine (rin_any ta 0 64 _).mono ?_
    rintro e w' ⟨rfl, rfl⟩
    rw [in_no h1]
    go_wp2
    go_ret
    exact ⟨by rw [HR.out]; rfl, below1 _ _⟩
  by_cases h2 : 0 ≤ ga ∧ ga ≤ 64
  case neg =>
    have HR : Hid (chipM ⟨st, ta, ga, sr, tc, c8, c16, c32⟩ = 9) := Lib.hid (chip_bad (by simp only [in64]; omega))
    go_enter Tryz.func16, Tryz.ntmps16
    go_wp2_with fail
    refine (rin_any st 1 16 _).mono ?_
    rintro e w' ⟨rfl, rfl⟩
    rw [in_yes h0]
    go_wp2_with fail
    refine (rin_any ta 0 64 _).mono ?_
    rintro e w' ⟨rfl, rfl⟩
    rw [in_yes h1]
    go_wp2_with fail
    refine (rin_any ga 0 64 _).mono ?_
    rintro e w' ⟨rfl, rfl⟩
    rw [in_no h2]
    go_wp2
    go_ret
    exact ⟨by rw [HR.out]; rfl, below1 _ _⟩
  by_cases h3 : 0 ≤ sr ∧ sr ≤ 4096
  case neg =>
    have HR : Hid (chipM ⟨st, ta, ga, sr, tc, c8, c16, c32⟩ = 9) := Lib.hid (chip_bad (by simp only [in64]; omega))
    go_enter Tryz.func16, Tryz.ntmps16
    go_wp2_with fail
    refine (rin_any st 1 16 _).mono ?_
    rintro e w' ⟨rfl, rfl⟩
    rw [in_yes h0]
    go_wp2_with fail
    refine (rin_any ta 0 64 _).mono ?_
    rintro e w' ⟨rfl, rfl⟩
    rw [in_yes h1]
    go_wp2_with fail
    refine (rin_any ga 0 64 _).mono ?_
    rintro e w' ⟨rfl, rfl⟩
    rw [in_yes h2]
    go_wp2_with fail
    refine (rin_any sr 0 4096 _).mono ?_
    rintro e w' ⟨rfl, rfl⟩
    rw [in_no h3]
    go_wp2
    go_ret
    exact ⟨by rw [HR.out]; rfl, below1 _ _⟩
  by_cases h4 : 0 ≤ tc ∧ tc ≤ 4096
  case neg =>
    have HR : Hid (chipM ⟨st, ta, ga, sr, tc, c8, c16, c32⟩ = 9) := Lib.hid (chip_bad (by simp only [in64]; omega))
    go_enter Tryz.func16, Tryz.ntmps16
    go_wp2_with fail
    refine (rin_any st 1 16 _).mono ?_
    rintro e w' ⟨rfl, rfl⟩
    rw [in_yes h0]
    go_wp2_with fail
    refine (rin_any ta 0 64 _).mono ?_
    rintro e w' ⟨rfl, rfl⟩
    rw [in_yes h1]
    go_wp2_with fail
    refine (rin_any ga 0 64 _).mono ?_
    rintro e w' ⟨rfl, rfl⟩
    rw [in_yes h2]
    go_wp2_with fail
    refine (rin_any sr 0 4096 _).mono ?_
    rintro e w' ⟨rfl, rfl⟩
    rw [in_yes h3]
    go_wp2_with fail
    refine (rin_any tc 0 4096 _).mono ?_
    rintro e w' ⟨rfl, rfl⟩
    rw [in_no h4]
    go_wp2
    go_ret
    exact ⟨by rw [HR.out]; rfl, below1 _ _⟩
  by_cases h5 : 0 ≤ c8 ∧ c8 ≤ 64
  case neg =>
    have HR : Hid (chipM ⟨st, ta, ga, sr, tc, c8, c16, c32⟩ = 9) := Lib.hid (chip_bad (by simp only [in64]; omega))
    go_enter Tryz.func16, Tryz.ntmps16
    go_wp2_with fail
    refine (rin_any st 1 16 _).mono ?_
    rintro e w' ⟨rfl, rfl⟩
    rw [in_yes h0]
    go_wp2_with fail
    refine (rin_any ta 0 64 _).mono ?_
    rintro e w' ⟨rfl, rfl⟩
    rw [in_yes h1]
    go_wp2_with fail
    refine (rin_any ga 0 64 _).mono ?_
    rintro e w' ⟨rfl, rfl⟩
    rw [in_yes h2]
    go_wp2_with fail
    refine (rin_any sr 0 4096 _).mono ?_
    rintro e w' ⟨rfl, rfl⟩
    rw [in_yes h3]
    go_wp2_with fail
    refine (rin_any tc 0 4096 _).mono ?_
    rintro e w' ⟨rfl, rfl⟩
    rw [in_yes h4]
    go_wp2_with fail
    refine (rin_any c8 0 64 _).mono ?_
    rintro e w' ⟨rfl, rfl⟩
    rw [in_no h5]
    go_wp2
    go_ret
    exact ⟨by rw [HR.out]; rfl, below1 _ _⟩
  by_cases h6 : 0 ≤ c16 ∧ c16 ≤ 64
  case neg =>
    have HR : Hid (chipM ⟨st, ta, ga, sr, tc, c8, c16, c32⟩ = 9) := Lib.hid (chip_bad (by simp only [in64]; omega))
    go_enter Tryz.func16, Tryz.ntmps16
    go_wp2_with fail
    refine (rin_any st 1 16 _).mono ?_
    rintro e w' ⟨rfl, rfl⟩
    rw [in_yes h0]
    go_wp2_with fail
    refine (rin_any ta 0 64 _).mono ?_
    rintro e w' ⟨rfl, rfl⟩
    rw [in_yes h1]
    go_wp2_with fail
    refine (rin_any ga 0 64 _).mono ?_
    rintro e w' ⟨rfl, rfl⟩
    rw [in_yes h2]
    go_wp2_with fail
    refine (rin_any sr 0 4096 _).mono ?_
    rintro e w' ⟨rfl, rfl⟩
    rw [in_yes h3]
    go_wp2_with fail
    refine (rin_any tc 0 4096 _).mono ?_
    rintro e w' ⟨rfl, rfl⟩
    rw [in_yes h4]
    go_wp2_with fail
    refine (rin_any c8 0 64 _).mono ?_
    rintro e w' ⟨rfl, rfl⟩
    rw [in_yes h5]
    go_wp2_with fail
    refine (rin_any c16 0 64 _).mono ?_
    rintro e w' ⟨rfl, rfl⟩
    rw [in_no h6]
    go_wp2
    go_ret
    exact ⟨by rw [HR.out]; rfl, below1 _ _⟩
  by_cases h7 : 0 ≤ c32 ∧ c32 ≤ 64
  case neg =>
    have HR : Hid (chipM ⟨st, ta, ga, sr, tc, c8, c16, c32⟩ = 9) := Lib.hid (chip_bad (by simp only [in64]; omega))
    go_enter Tryz.func16, Tryz.ntmps16
    go_wp2_with fail
    refine (rin_any st 1 16 _).mono ?_
    rintro e w' ⟨rfl, rfl⟩
    rw [in_yes h0]
    go_wp2_with fail
    refine (rin_any ta 0 64 _).mono ?_
    rintro e w' ⟨rfl, rfl⟩
    rw [in_yes h1]
    go_wp2_with fail
    refine (rin_any ga 0 64 _).mono ?_
    rintro e w' ⟨rfl, rfl⟩
    rw [in_yes h2]
    go_wp2_with fail
    refine (rin_any sr 0 4096 _).mono ?_
    rintro e w' ⟨rfl, rfl⟩
    rw [in_yes h3]
    go_wp2_with fail
    refine (rin_any tc 0 4096 _).mono ?_
    rintro e w' ⟨rfl, rfl⟩
    rw [in_yes h4]
    go_wp2_with fail
    refine (rin_any c8 0 64 _).mono ?_
    rintro e w' ⟨rfl, rfl⟩
    rw [in_yes h5]
    go_wp2_with fail
    refine (rin_any c16 0 64 _).mono ?_
    rintro e w' ⟨rfl, rfl⟩
    rw [in_yes h6]
    go_wp2_with fail
    refine (rin_any c32 0 64 _).mono ?_
    rintro e w' ⟨rfl, rfl⟩
    rw [in_no h7]
    go_wp2
    go_ret
    exact ⟨by rw [HR.out]; rfl, below1 _ _⟩
  have HR : Hid (chipM ⟨st, ta, ga, sr, tc, c8, c16, c32⟩ = 0) := Lib.hid (chip_ok (by simp only [in64]; omega))
  go_enter Tryz.func16, Tryz.ntmps16
  go_wp2_with fail
  refine (rin_any st 1 16 _).mono ?_
  rintro e w' ⟨rfl, rfl⟩
  rw [in_yes h0]
  go_wp2_with fail
  refine (rin_any ta 0 64 _).mono ?_
  rintro e w' ⟨rfl, rfl⟩
  rw [in_yes h1]
  go_wp2_with fail
  refine (rin_any ga 0 64 _).mono ?_
  rintro e w' ⟨rfl, rfl⟩
  rw [in_yes h2]
  go_wp2_with fail
  refine (rin_any sr 0 4096 _).mono ?_
  rintro e w' ⟨rfl, rfl⟩
  rw [in_yes h3]
  go_wp2_with fail
  refine (rin_any tc 0 4096 _).mono ?_
  rintro e w' ⟨rfl, rfl⟩
  rw [in_yes h4]
  go_wp2_with fail
  refine (rin_any c8 0 64 _).mono ?_
  rintro e w' ⟨rfl, rfl⟩
  rw [in_yes h5]
  go_wp2_with fail
  refine (rin_any c16 0 64 _).mono ?_
  rintro e w' ⟨rfl, rfl⟩
  rw [in_yes h6]
  go_wp2_with fail
  refine (rin_any c32 0 64 _).mono ?_
  rintro e w' ⟨rfl, rfl⟩
  rw [in_yes h7]
  go_wp2
  go_ret
  exact ⟨by rw [HR.out]; rfl, below1 _ _⟩
set_option maxRecDepth 100000 in
set_option maxHeartbeats 2000000 in
theorem pcells_any (p : ProgD) (w : World) (o : ProgOk w p) (hs : AccSm p) :
    Calls Tryz.prog 39 #[.agg (progCells p)] w fun e w' => e = .returned (.int .i64 (cellsN p : Nat)) ∧ Below w.heap.size w w' := by
  obtain ⟨W, hW, hw, HB, hp⟩ := box1 w (progCells p) 31
  have HW := Lib.hid hw
  have HC := Lib.hid (fun u (hb : Below W.heap.size W u) => accCells_any p u (o.below (below_step hw hb)) hs)
  have hb := fN_le hs
  have h1 := hs.headers
  have h2 := hs.metadata
  have h3 := hs.registers
  have H0 := Lib.hid (Below.refl W.heap.size W)
  have HE : Hid (IntKind.i64.wrap (((firstN p 4 : Nat) : Int) - (p.registers.l.length : Int)) = ((cellsN p : Nat) : Int)) := Lib.hid (by simp only [firstN, cellsN]; rw [IntWalk.i64_in _ (by omega)]; omega)
  have hb4 : firstN p 4 ≤ 10300 := by simp only [firstN]; omega
  clear o hs hw hb h1 h2
  generalize firstN p 4 = n4 at *
  go_enter Tryz.func39, Tryz.ntmps39
  go_upto_region 1 with fail
  rw [← hW]
  clear hW
  go_region_held3 (fun w' => Below W.heap.size W w') (first | exact H0.out | exact below_drew H0.out | (exact below_step (by assumption) (by assumption)) | assumption)
    (first | (go_at_call 89; refine (HC.out _ (by assumption)).mono ?_; rintro e w1 ⟨rfl, hb1⟩))
  have HB5 : Hid (Below W.heap.size W _) := Lib.hid (by assumption)
  go_wp2
  go_ret
  exact ⟨by rw [← HE.out]; rfl, below_step HW.out HB5.out⟩
end Go.Proofs.YtbfjknidinkafaaGreat
namespace Go.Proofs.YtbfjknidinkafaaGreat
open Go.RowKit

/-- the pool of the program: used and available, of each size -/
@[reducible] def poolCells (c : ChipD) (s : AllocS) : Array Value := #[.int .i64 s.u0, .int .i64 s.u1, .int .i64 s.u2, .int .i64 c.c8, .int .i64 c.c16, .int .i64 c.c32]
theorem grow_set {a w : World} {g : Nat} (h : a.grownBy w (some g)) {p : Addr} (hp : p.block = g ∨ a.heap.size ≤ p.block) (v : Value) : a.grownBy (w.setCell p v) (some g) :=
  ⟨h.os, h.tape, h.output, by simpa using h.size, fun i hi hne => (Below.heap_setCell w p v i (by rcases hp with e | e; exact (fun e2 => hne (by rw [e2, e])); omega)).trans (h.block i hi hne)⟩
theorem grow_put4 {a w : World} {g k : Nat} (h : a.grownBy w (some g)) (hk : a.heap.size ≤ k) (x y z u : Value) : a.grownBy ((((w.setCell ⟨k, 0, none⟩ x).setCell ⟨k, 1, none⟩ y).setCell ⟨k, 2, none⟩ z).setCell ⟨k, 3, none⟩ u) (some g) :=
  grow_set (grow_set (grow_set (grow_set h (.inr hk) x) (.inr hk) y) (.inr hk) z) (.inr hk) u
/-- what 'take' ends with -/
def TakeEnd (c : ChipD) (r : Option (Int × Int × AllocS)) (s : AllocS) (ws : Int) (g : Nat) (w : World) (e : Ending) (w' : World) : Prop :=
  w.grownBy w' (some g) ∧ match r with
  | none => e = .returned (.tuple #[.agg #[.int .i64 0, .int .i64 0, .int .i64 0, .int .i64 0], .bool false]) ∧ Blk w' g 87 (poolCells c s)
  | some (z, n, t) => e = .returned (.tuple #[.agg #[.int .i64 z, .int .i64 n, .int .i64 0, .int .i64 ws], .bool true]) ∧ Blk w' g 87 (poolCells c t)
theorem put4b {w : World} {k : Nat} {t : TypeId} {a b c d : Value} (h : Blk w k t #[a, b, c, d]) (x y z u : Value) :
    Blk ((((w.setCell ⟨k, 0, none⟩ x).setCell ⟨k, 1, none⟩ y).setCell ⟨k, 2, none⟩ z).setCell ⟨k, 3, none⟩ u) k t #[x, y, z, u] := (((h.set_ 0 x).set_ 1 y).set_ 2 z).set_ 3 u
theorem far4 {w : World} {g k : Nat} {t : TypeId} {cs : Array Value} (h : Blk w g t cs) (hk : g ≠ k) (x y z u : Value) :
    Blk ((((w.setCell ⟨k, 0, none⟩ x).setCell ⟨k, 1, none⟩ y).setCell ⟨k, 2, none⟩ z).setCell ⟨k, 3, none⟩ u) g t cs := (((h.far (by exact hk) x).far (by exact hk) y).far (by exact hk) z).far (by exact hk) u
set_option maxRecDepth 100000 in
set_option maxHeartbeats 16000000 in
theorem ptake_any (c : ChipD) (s : AllocS) (ws : Int) (g : Nat) (w : World) (hb : Blk w g 87 (poolCells c s)) (h0 : 0 ≤ s.u0 ∧ s.u0 ≤ 64) (h1 : 0 ≤ s.u1 ∧ s.u1 ≤ 64) (h2 : 0 ≤ s.u2 ∧ s.u2 ≤ 64) :
    Calls Tryz.prog 41 #[.pointer (some ⟨g, 0, none⟩), .int .i64 ws] w fun e w' => TakeEnd c (takeC c s ws) s ws g w e w' := by
  obtain ⟨u0, u1, u2, op⟩ := s
  simp only [poolCells] at hb h0 h1 h2
  obtain ⟨V, hV⟩ : ∃ V, V = w.alloc (.cells #[.int .i64 0, .int .i64 0, .int .i64 0, .int .i64 0] 48) := ⟨_, rfl⟩
  have hgw := hb.lt
  have HP : Hid (Blk V g 87 #[.int .i64 u0, .int .i64 u1, .int .i64 u2, .int .i64 c.c8, .int .i64 c.c16, .int .i64 c.c32]) := Lib.hid (by rw [hV]; exact hb.alloc _)
  have HS : Hid (Blk V w.heap.size 48 #[.int .i64 0, .int .i64 0, .int .i64 0, .int .i64 0]) := Lib.hid (by rw [hV]; exact Blk.new _ _ _)
  have HBV : Hid (w.grownBy V (some g)) := Lib.hid (by rw [hV]; exact only_of_below (below1 _ _) _)
  have p0 : V.cell? ⟨g, 0, none⟩ = some (.int .i64 u0) := HP.out.cell 0
  have p1 : V.cell? ⟨g, 1, none⟩ = some (.int .i64 u1) := HP.out.cell 1
  have p2 : V.cell? ⟨g, 2, none⟩ = some (.int .i64 u2) := HP.out.cell 2
  have p3 : V.cell? ⟨g, 3, none⟩ = some (.int .i64 c.c8) := HP.out.cell 3
  have p4 : V.cell? ⟨g, 4, none⟩ = some (.int .i64 c.c16) := HP.out.cell 4
  have p5 : V.cell? ⟨g, 5, none⟩ = some (.int .i64 c.c32) := HP.out.cell 5
  have f0 : ∀ j, V.frozen? ⟨g, j, none⟩ = false := fun j => HP.out.frozen j
  have q0 : V.cell? ⟨w.heap.size, 0, none⟩ = some (.int .i64 0) := HS.out.cell 0
  have q1 : V.cell? ⟨w.heap.size, 1, none⟩ = some (.int .i64 0) := HS.out.cell 1
  have q2 : V.cell? ⟨w.heap.size, 2, none⟩ = some (.int .i64 0) := HS.out.cell 2
  have q3 : V.cell? ⟨w.heap.size, 3, none⟩ = some (.int .i64 0) := HS.out.cell 3
  have e0 : ∀ j, V.frozen? ⟨w.heap.size, j, none⟩ = false := fun j => HS.out.frozen j
  clear hb
  have HT := Lib.hid (takeC.eq_1 c ⟨u0, u1, u2, op⟩ ws)
  simp only at HT
  generalize takeC c ⟨u0, u1, u2, op⟩ ws = R at *
  go_enter Tryz.func41, Tryz.ntmps41
  go_wp2
  rw [← hV]
  clear hV
  refine wp_scope_jumps 0 (fun a' w' => ∃ (k n : Nat) (v7 v8 v9 v10 v11 v12 v13 v14 v15 v16 v17 v18 v19 v20 v21 v22 v23 v24 v25 v26 v27 v28 v29 v30 v31 v32 v33 v34 v35 v36 v37 v38 v39 v40 v41 v42 v43 v44 v45 v46 v47 v48 v49 v50 v51 v52 : Value), (k = 1 ∨ k = 2 ∨ k = 3) ∧ Hid (¬ (ws ≤ 8 ∧ u0 < c.c8)) ∧ Hid (1 < k → ¬ (ws ≤ 16 ∧ u1 < c.c16)) ∧ Hid (2 < k → ¬ (ws ≤ 32 ∧ u2 < c.c32)) ∧ w' = V.drewN n ∧ a' = { tmps := #[.pointer (some ⟨g, 0, none⟩), .int .i64 ws, undef, undef, .pointer (some ⟨w.heap.size, 0, none⟩), .bool false, .int .i64 (k : Nat), v7, v8, v9, v10, v11, v12, v13, v14, v15, v16, v17, v18, v19, v20, v21, v22, v23, v24, v25, v26, v27, v28, v29, v30, v31, v32, v33, v34, v35, v36, v37, v38, v39, v40, v41, v42, v43, v44, v45, v46, v47, v48, v49, v50, v51, v52], defers := [] }) (fun a' _ => 3 - (intOf (a'.tmps.getD 6 undef)).toNat) rfl ?_ ?_

  · go_wp2
    go_step3
    go_upto_region 5 with fail
    by_cases ha : (8 : Int) < ws
    · skip
      have b0 : decide ((8 : Int) < ws) = true := decide_eq_true (by omega)
      go_quiet (fail)
      go_wp2
      go_step3
      exact ⟨rfl, ⟨1, _, _, _, _, _, _, _, _, _, _, _, _, _, _, _, _, _, _, _, _, _, _, _, _, _, _, _, _, _, _, _, _, _, _, _, _, _, _, _, _, _, _, _, _, _, _, _, by omega, Lib.hid (by omega), Lib.hid (fun h => (by omega)), Lib.hid (fun h => (by omega)), rfl, rfl⟩⟩
    by_cases hc : c.c8 ≤ u0
    · skip
      have b0 : decide ((8 : Int) < ws) = false := decide_eq_false (by omega)
      have b1 : decide (c.c8 ≤ u0) = true := decide_eq_true (by omega)
      go_quiet (fail)
      go_wp2
      go_step3
      exact ⟨rfl, ⟨1, _, _, _, _, _, _, _, _, _, _, _, _, _, _, _, _, _, _, _, _, _, _, _, _, _, _, _, _, _, _, _, _, _, _, _, _, _, _, _, _, _, _, _, _, _, _, _, by omega, Lib.hid (by omega), Lib.hid (fun h => (by omega)), Lib.hid (fun h => (by omega)), rfl, rfl⟩⟩
    · skip
      have HR : Hid (R = some (8, u0, ⟨u0 + 1, u1, u2, op⟩)) := Lib.hid (by rw [HT.out]; simp only [if_pos (show ws ≤ 8 ∧ u0 < c.c8 from ⟨by omega, by omega⟩)])
      have b0 : decide ((8 : Int) < ws) = false := decide_eq_false (by omega)
      have b1 : decide (c.c8 ≤ u0) = false := decide_eq_false (by omega)
      go_quiet (fail)
      go_upto_region 7 with fail
      go_region
      go_wp2
      try rw [Exit.noGoto_ret]
      try simp only [Exit.jump]
      refine bodyPost_ret (v := .tuple #[.agg #[.int .i64 8, .int .i64 u0, .int .i64 0, .int .i64 ws], .bool true]) ?_ rfl ?_
      · refine results_row_tmp (fn := Tryz.f41) (p := 4) (u := 5) (ty := 48) rfl _ _ w.heap.size 48 #[.int .i64 8, .int .i64 u0, .int .i64 0, .int .i64 ws] _ rfl ?_ Tryz.underlying48 rfl (by kernel_rfl)
        exact put4b ((HS.out.drewN _).far (by show w.heap.size ≠ g; omega) _) _ _ _ _
      · refine ⟨grow_put4 (grow_set (only_drewN HBV.out _) (p := ⟨g, 0, none⟩) (.inl rfl) _) (Nat.le_refl _) _ _ _ _, ?_⟩
        rw [HR.out]
        exact ⟨rfl, far4 ((HP.out.drewN _).set_ 0 _) (by omega) _ _ _ _⟩
  · rintro a' w' ⟨k, n, v7, v8, v9, v10, v11, v12, v13, v14, v15, v16, v17, v18, v19, v20, v21, v22, v23, v24, v25, v26, v27, v28, v29, v30, v31, v32, v33, v34, v35, v36, v37, v38, v39, v40, v41, v42, v43, v44, v45, v46, v47, v48, v49, v50, v51, v52, hk, X0, X1, X2, rfl, rfl⟩
    have hx0 := X0.out
    rcases hk with rfl | rfl | rfl
    · skip
      go_upto_region 5 with fail
      by_cases ha : (16 : Int) < ws
      · skip
        have b0 : decide ((16 : Int) < ws) = true := decide_eq_true (by omega)
        go_quiet (fail)
        go_wp2
        go_step3
        refine ⟨rfl, ⟨2, _, _, _, _, _, _, _, _, _, _, _, _, _, _, _, _, _, _, _, _, _, _, _, _, _, _, _, _, _, _, _, _, _, _, _, _, _, _, _, _, _, _, _, _, _, _, _, by omega, X0, Lib.hid (fun _ => (by omega)), Lib.hid (fun h => (by omega)), rfl, rfl⟩, ?_⟩
        simp [intOf]
      by_cases hc : c.c16 ≤ u1
      · skip
        have b0 : decide ((16 : Int) < ws) = false := decide_eq_false (by omega)
        have b1 : decide (c.c16 ≤ u1) = true := decide_eq_true (by omega)
        go_quiet (fail)
        go_wp2
        go_step3
        refine ⟨rfl, ⟨2, _, _, _, _, _, _, _, _, _, _, _, _, _, _, _, _, _, _, _, _, _, _, _, _, _, _, _, _, _, _, _, _, _, _, _, _, _, _, _, _, _, _, _, _, _, _, _, by omega, X0, Lib.hid (fun _ => (by omega)), Lib.hid (fun h => (by omega)), rfl, rfl⟩, ?_⟩
        simp [intOf]
      · skip
        have HR : Hid (R = some (16, u1, ⟨u0, u1 + 1, u2, op⟩)) := Lib.hid (by rw [HT.out]; simp only [if_neg hx0, if_pos (show ws ≤ 16 ∧ u1 < c.c16 from ⟨by omega, by omega⟩)])
        have b0 : decide ((16 : Int) < ws) = false := decide_eq_false (by omega)
        have b1 : decide (c.c16 ≤ u1) = false := decide_eq_false (by omega)
        go_quiet (fail)
        go_upto_region 7 with fail
        go_region
        go_wp2
        try rw [Exit.noGoto_ret]
        try simp only [Exit.jump]
        refine bodyPost_ret (v := .tuple #[.agg #[.int .i64 16, .int .i64 u1, .int .i64 0, .int .i64 ws], .bool true]) ?_ rfl ?_
        · refine results_row_tmp (fn := Tryz.f41) (p := 4) (u := 5) (ty := 48) rfl _ _ w.heap.size 48 #[.int .i64 16, .int .i64 u1, .int .i64 0, .int .i64 ws] _ rfl ?_ Tryz.underlying48 rfl (by kernel_rfl)
          exact put4b ((HS.out.drewN _).far (by show w.heap.size ≠ g; omega) _) _ _ _ _
        · refine ⟨grow_put4 (grow_set (only_drewN HBV.out _) (p := ⟨g, 1, none⟩) (.inl rfl) _) (Nat.le_refl _) _ _ _ _, ?_⟩
          rw [HR.out]
          exact ⟨rfl, far4 ((HP.out.drewN _).set_ 1 _) (by omega) _ _ _ _⟩
    · have hx1 := X1.out
      replace hx1 := hx1 (by omega)
      go_upto_region 5 with fail
      by_cases ha : (32 : Int) < ws
      · skip
        have b0 : decide ((32 : Int) < ws) = true := decide_eq_true (by omega)
        go_quiet (fail)
        go_wp2
        go_step3
        refine ⟨rfl, ⟨3, _, _, _, _, _, _, _, _, _, _, _, _, _, _, _, _, _, _, _, _, _, _, _, _, _, _, _, _, _, _, _, _, _, _, _, _, _, _, _, _, _, _, _, _, _, _, _, by omega, X0, Lib.hid (fun _ => hx1), Lib.hid (fun _ => (by omega)), rfl, rfl⟩, ?_⟩
        simp [intOf]
      by_cases hc : c.c32 ≤ u2
      · skip
        have b0 : decide ((32 : Int) < ws) = false := decide_eq_false (by omega)
        have b1 : decide (c.c32 ≤ u2) = true := decide_eq_true (by omega)
        go_quiet (fail)
        go_wp2
        go_step3
        refine ⟨rfl, ⟨3, _, _, _, _, _, _, _, _, _, _, _, _, _, _, _, _, _, _, _, _, _, _, _, _, _, _, _, _, _, _, _, _, _, _, _, _, _, _, _, _, _, _, _, _, _, _, _, by omega, X0, Lib.hid (fun _ => hx1), Lib.hid (fun _ => (by omega)), rfl, rfl⟩, ?_⟩
        simp [intOf]
      · skip
        have HR : Hid (R = some (32, u2, ⟨u0, u1, u2 + 1, op⟩)) := Lib.hid (by rw [HT.out]; simp only [if_neg hx0, if_neg hx1, if_pos (show ws ≤ 32 ∧ u2 < c.c32 from ⟨by omega, by omega⟩)])
        have b0 : decide ((32 : Int) < ws) = false := decide_eq_false (by omega)
        have b1 : decide (c.c32 ≤ u2) = false := decide_eq_false (by omega)
        go_quiet (fail)
        go_upto_region 7 with fail
        go_region
        go_wp2
        try rw [Exit.noGoto_ret]
        try simp only [Exit.jump]
        refine bodyPost_ret (v := .tuple #[.agg #[.int .i64 32, .int .i64 u2, .int .i64 0, .int .i64 ws], .bool true]) ?_ rfl ?_
        · refine results_row_tmp (fn := Tryz.f41) (p := 4) (u := 5) (ty := 48) rfl _ _ w.heap.size 48 #[.int .i64 32, .int .i64 u2, .int .i64 0, .int .i64 ws] _ rfl ?_ Tryz.underlying48 rfl (by kernel_rfl)
          exact put4b ((HS.out.drewN _).far (by show w.heap.size ≠ g; omega) _) _ _ _ _
        · refine ⟨grow_put4 (grow_set (only_drewN HBV.out _) (p := ⟨g, 2, none⟩) (.inl rfl) _) (Nat.le_refl _) _ _ _ _, ?_⟩
          rw [HR.out]
          exact ⟨rfl, far4 ((HP.out.drewN _).set_ 2 _) (by omega) _ _ _ _⟩
    · have hx1 := X1.out (by omega)
      have hx2 := X2.out (by omega)
      have HR : Hid (R = none) := Lib.hid (by rw [HT.out]; simp only [if_neg hx0, if_neg hx1, if_neg hx2])
      go_wp2
      try rw [Exit.noGoto_ret]
      try simp only [Exit.jump]
      refine bodyPost_ret (v := .tuple #[.agg #[.int .i64 0, .int .i64 0, .int .i64 0, .int .i64 0], .bool false]) ?_ rfl ?_
      · refine results_row_tmp (fn := Tryz.f41) (p := 4) (u := 5) (ty := 48) rfl _ _ w.heap.size 48 #[.int .i64 0, .int .i64 0, .int .i64 0, .int .i64 0] _ rfl ?_ Tryz.underlying48 rfl (by kernel_rfl)
        exact put4b (HS.out.drewN _) _ _ _ _
      · refine ⟨grow_put4 (only_drewN HBV.out _) (Nat.le_refl _) _ _ _ _, ?_⟩
        rw [HR.out]
        exact ⟨rfl, far4 (HP.out.drewN _) (by omega) _ _ _ _⟩
end Go.Proofs.YtbfjknidinkafaaGreat
namespace Go.Proofs.YtbfjknidinkafaaGreat
open Go.RowKit

theorem orE_nil {α : Type} {a b : Option α} (h : orE a b = none) : a = none ∧ b = none := by
  cases a
  · exact ⟨rfl, h⟩
  · cases h
theorem firstE_one {α : Type} {f : Nat → Option α} {r : α} : ∀ {n : Nat}, firstE n f = some r → ∃ i, i < n ∧ f i = some r
  | n + 1, h => by
    rw [firstE] at h
    rcases hn : firstE n f with _ | x
    · rw [hn] at h; exact ⟨n, Nat.lt_succ_self n, h⟩
    · rw [hn] at h
      simp only [Option.some.injEq] at h
      subst h
      obtain ⟨i, hi, h2⟩ := firstE_one hn
      exact ⟨i, by omega, h2⟩
theorem fld_wid {l : List FieldD} {i : Nat} (hi : i < l.length) (h : fldM l i = none) : okW l[i].width = true := by
  rw [fldM_at l i hi] at h
  cases ho : okW l[i].width
  · rw [if_pos ho] at h
    split at h <;> cases h
  · rfl
theorem fld_code {l : List FieldD} {i : Nat} {e : Int} (hi : i < l.length) (h : fldM l i = some e) : e ≠ 0 := by
  rw [fldM_at l i hi] at h
  split at h
  · cases h; decide
  split at h
  · cases h; decide
  split at h
  · cases h; decide
  cases h
theorem hdr_wid {x : HeaderD} (h : hdrM x = 0) : ∀ j (hj : j < x.fields.l.length), okW x.fields.l[j].width = true := by
  intro j hj
  unfold hdrM at h
  split at h
  · cases h
  split at h
  · cases h
  split at h
  · cases h
  rcases hfe : firstE x.fields.l.length (fldM x.fields.l) with _ | e
  · exact fld_wid hj (firstE_inv hfe j hj)
  · rw [hfe] at h
    simp only at h
    obtain ⟨i, hi, h2⟩ := firstE_one hfe
    exact absurd h (fld_code hi h2)
theorem hdrs_wid {p : ProgD} (h : checkM p = none) : ∀ k (hk : k < p.headers.l.length), ∀ j (hj : j < p.headers.l[k].fields.l.length), okW p.headers.l[k].fields.l[j].width = true := by
  intro k hk
  have h1 := (orE_nil (orE_nil h).2).1
  have h2 := firstE_inv h1 k hk
  unfold hdrAtM at h2
  rw [List.getElem?_eq_getElem hk] at h2
  simp only at h2
  split at h2
  · cases h2
  rename_i h3
  exact hdr_wid (Classical.byContradiction h3)
theorem meta_wid {p : ProgD} (h : checkM p = none) : ∀ j (hj : j < p.metadata.l.length), okW p.metadata.l[j].width = true := by
  intro j hj
  have h1 := (orE_nil (orE_nil (orE_nil h).2).2).1
  unfold metaM at h1
  split at h1
  · cases h1
  rcases hfe : firstE p.metadata.l.length (fun i => (fldM p.metadata.l i).map fun e => (⟨e, 2, i, 0⟩ : DiagD)) with _ | e
  · have h2 := firstE_inv hfe j hj
    simp only [Option.map_eq_none_iff] at h2
    exact fld_wid hj h2
  · rw [hfe] at h1
    cases h1
theorem wid_ok {p : ProgD} {h f : Int} (hv : okW (fieldAt (fieldsM p h) f).width = true) : 1 ≤ widthAt p h f ∧ widthAt p h f ≤ 32 := by
  rw [widthAt, if_pos hv]
  have := okW_iff.1 hv
  omega
theorem fieldAt_nat (x : L FieldD) {j : Nat} (hj : j < x.l.length) : fieldAt x j = x.l[j] := by
  rw [fieldAt, if_neg (by omega)]
  simp [hj]
theorem fields_hdr (p : ProgD) {k : Nat} (hk : k < p.headers.l.length) : fieldsM p k = p.headers.l[k].fields := by
  rw [fieldsM, if_neg (by omega), headerAt, if_neg (by omega)]
  simp [hk]
theorem width_hdr (p : ProgD) {k f : Nat} (hk : k < p.headers.l.length) (hf : f < p.headers.l[k].fields.l.length) : widthAt p k f = if okW p.headers.l[k].fields.l[f].width = true then p.headers.l[k].fields.l[f].width else 0 := by
  rw [widthAt, fields_hdr p hk, fieldAt_nat _ hf]
theorem width_meta (p : ProgD) {f : Nat} (hf : f < p.metadata.l.length) : widthAt p (-1) f = if okW p.metadata.l[f].width = true then p.metadata.l[f].width else 0 := by
  rw [widthAt, show fieldsM p (-1) = p.metadata from rfl, fieldAt_nat _ hf]
theorem ws_fine {p : ProgD} (h : checkM p = none) : ∀ w ∈ wsM p, 1 ≤ w ∧ w ≤ 32 := by
  intro w hw
  obtain ⟨i, hi, rfl⟩ := List.mem_iff_getElem.1 hw
  have hc : i < cellsN p := by rw [← ws_len]; exact hi
  have key : ∀ v, (wsM p)[i]? = some v → (1 ≤ v ∧ v ≤ 32) → 1 ≤ (wsM p)[i] ∧ (wsM p)[i] ≤ 32 := fun v hv hb => by
    rw [List.getElem?_eq_getElem hi] at hv
    cases hv; exact hb
  rcases cell_cases p hc with ⟨k, f, hk, hf, e⟩ | ⟨k, hk, e⟩ | ⟨f, hf, e⟩
  · refine key _ (by rw [e]; exact cells_fld p _ _ hk hf) (wid_ok ?_)
    rw [nF_at hk] at hf
    rw [fields_hdr p hk, fieldAt_nat _ hf]
    exact hdrs_wid h k hk f hf
  · exact key _ (by rw [e]; exact cells_val p _ _ hk) ⟨by decide, by decide⟩
  · refine key _ (by rw [e]; exact cells_meta p _ _ hf) (wid_ok ?_)
    rw [show fieldsM p (-1) = p.metadata from rfl, fieldAt_nat _ hf]
    exact meta_wid h f hf
end Go.Proofs.YtbfjknidinkafaaGreat
namespace Go.Proofs.YtbfjknidinkafaaGreat
open Go.RowKit

theorem info_slot : (Tryz.prog.info? 48).map (fun i => (i.zero, i.size, i.bytes)) = some (some (.agg #[.int .i64 0, .int .i64 0, .int .i64 0, .int .i64 0]), 4, 32) := by kernel_rfl
theorem one_slot : ∀ u, ∀ c ∈ SlotD.cells u, c.oneCell' = true := by
  intro u c hc
  simp [SlotD.cells] at hc; rcases hc with rfl | rfl | rfl | rfl <;> rfl
/-- what Allocate answers: the slots, and a code -/
def allocRes (p : ProgD) (n : Int) (c : ChipD) : List SlotD × Int :=
  if (diagM p).code ≠ 0 then ([], (diagM p).code) else if chipM c ≠ 0 then ([], chipM c) else if n < 0 ∨ 24 < n then ([], 9)
  else match slotsM c (wsM p) n.toNat with
    | none => ([], 10)
    | some l => (l, 0)
theorem alloc_out (p : ProgD) (n : Int) (c : ChipD) : allocRes p n c = if (diagM p).code ≠ 0 then ([], (diagM p).code) else if chipM c ≠ 0 then ([], chipM c) else if n < 0 ∨ 24 < n then ([], 9)
  else match slotsM c (wsM p) n.toNat with
    | none => ([], 10)
    | some l => (l, 0) := rfl
theorem diag_nz {p : ProgD} (h : checkM p ≠ none) : (diagM p).code ≠ 0 := by
  rcases hc : checkM p with _ | d
  · exact absurd hc h
  · have hs : ∀ {a b : Option DiagD}, (∀ x, a = some x → x.code ≠ 0) → (∀ x, b = some x → x.code ≠ 0) → ∀ x, orE a b = some x → x.code ≠ 0 := by
      intro a b ha hb x hx
      cases a
      · exact hb x hx
      · exact ha x hx
    rw [diagM, hc]
    exact hs co_lim (hs co_hdrs (hs co_meta (hs co_regs (hs co_acts (hs co_tabs co_flow))))) d hc
theorem diag_zero {p : ProgD} (h : (diagM p).code = 0) : checkM p = none := Classical.byContradiction fun hn => diag_nz hn h
/-- the widths that Allocate goes through -/
def allW (p : ProgD) (n : Nat) : List Int := wsM p ++ List.replicate n 1
theorem allW_len (p : ProgD) (n : Nat) : (allW p n).length = cellsN p + n := by simp [allW, ws_len]
theorem allW_low {p : ProgD} {n k : Nat} (h : k < cellsN p) : (allW p n)[k]? = some ((wsM p).getD k 0) := by
  rw [allW, List.getElem?_append_left (by rw [ws_len]; exact h), List.getD_eq_getElem?_getD, List.getElem?_eq_getElem (by rw [ws_len]; exact h)]; rfl
theorem allW_high {p : ProgD} {n k : Nat} (h : cellsN p ≤ k) (h2 : k < cellsN p + n) : (allW p n)[k]? = some 1 := by
  rw [allW, List.getElem?_append_right (by rw [ws_len]; exact h), ws_len, List.getElem?_replicate, if_pos (by omega)]
theorem allW_pos {p : ProgD} (h : checkM p = none) (n : Nat) : ∀ w ∈ allW p n, 1 ≤ w := by
  intro w hw
  rcases List.mem_append.1 hw with h1 | h1
  · exact (ws_fine h w h1).1
  · rw [(List.mem_replicate.1 h1).2]; decide
/-- what is left to allocate, behind the slots that there are -/
def runR (c : ChipD) (s : AllocS) (ws : List Int) (L : List SlotD) : Option (List SlotD) := match runC c s ws with
  | none => none
  | some l => some (L ++ l)
theorem runR_nil (c : ChipD) (s : AllocS) (L : List SlotD) : runR c s [] L = some L := by simp [runR, runC]
theorem runR_none {c : ChipD} {s : AllocS} {ws : List Int} {L : List SlotD} {k : Nat} {z : Int} (hk : ws[k]? = some z) (h : stepC c s z = none) : runR c s (ws.drop k) L = none := by
  obtain ⟨hlt, rfl⟩ := List.getElem?_eq_some_iff.1 hk
  rw [List.drop_eq_getElem_cons hlt, runR, runC, h]
theorem runR_some {c : ChipD} {s t : AllocS} {ws : List Int} {L : List SlotD} {k : Nat} {z : Int} {x : SlotD} (hk : ws[k]? = some z) (h : stepC c s z = some (x, t)) : runR c s (ws.drop k) L = runR c t (ws.drop (k + 1)) (L ++ [x]) := by
  obtain ⟨hlt, rfl⟩ := List.getElem?_eq_some_iff.1 hk
  rw [List.drop_eq_getElem_cons hlt, runR, runC, h, runR]
  simp only
  cases runC c t (ws.drop (k + 1)) with
  | none => rfl
  | some l => simp
@[reducible] def slotCells (s : SlotD) : Array Value := #[.int .i64 s.size, .int .i64 s.index, .int .i64 s.off, .int .i64 s.width]
@[reducible] def chipCells (c : ChipD) : Array Value := #[.int .i64 c.stages, .int .i64 c.tables, .int .i64 c.gates, .int .i64 c.sram, .int .i64 c.tcam, .int .i64 c.c8, .int .i64 c.c16, .int .i64 c.c32]
theorem chip_any' (c : ChipD) (w : World) : Calls Tryz.prog 38 #[.agg (chipCells c)] w fun e w' => e = .returned (.int .i64 (chipM c)) ∧ Below w.heap.size w w' := chip_any c.stages c.tables c.gates c.sram c.tcam c.c8 c.c16 c.c32 w
theorem blk_grown {w w' : World} {g B : Nat} {t te : TypeId} {cs : Array Value} {v : Value} {n k : Nat} {xs : List Value} (h : Blk w g t cs) (hg : w.grownBy w' v.ownBlock) (ho : w.ownsRow B te k v n xs) (hlt : g < B) : Blk w' g t cs :=
  h.grown hg (fun e => by have := (own_lt ho g e.symm).1; omega)
theorem chip_le {c : ChipD} (h : chipM c = 0) : c.c8 ≤ 64 ∧ c.c16 ≤ 64 ∧ c.c32 ≤ 64 := by
  unfold chipM at h
  split at h
  · rename_i h1
    obtain ⟨_, _, _, ⟨_, h8⟩, ⟨_, h16⟩, ⟨_, h32⟩, _⟩ := h1
    exact ⟨h8, h16, h32⟩
  · cases h
theorem take_op {c : ChipD} {s : AllocS} {w z n : Int} {t : AllocS} (h : takeC c s w = some (z, n, t)) : t.op = s.op := by
  rcases take_cases h with ⟨_, _, _, _, rfl⟩ | ⟨_, _, _, _, rfl⟩ | ⟨_, _, _, _, rfl⟩ <;> rfl
theorem own_set4 {w : World} {B k : Nat} {te : TypeId} {q : Nat} {v : Value} {n : Nat} {xs : List Value} (h : w.ownsRow B te q v n xs) (hk : k < B) (x y z u : Value) :
    ((((w.setCell ⟨k, 0, none⟩ x).setCell ⟨k, 1, none⟩ y).setCell ⟨k, 2, none⟩ z).setCell ⟨k, 3, none⟩ u).ownsRow B te q v n xs :=
  ownsRow_setCell_below (ownsRow_setCell_below (ownsRow_setCell_below (ownsRow_setCell_below h (by exact hk) x) (by exact hk) y) (by exact hk) z) (by exact hk) u
/-- what Allocate ends with -/
def AllocEnd (p : ProgD) (n : Int) (c : ChipD) (w : World) (e : Ending) (w' : World) : Prop :=
  ∃ A cp, e = .returned (.tuple #[.slice A (allocRes p n c).1.length cp, .int .i64 (allocRes p n c).2]) ∧ w'.ownsRow w.heap.size 48 4 (.slice A (allocRes p n c).1.length cp) (allocRes p n c).1.length ((allocRes p n c).1.flatMap SlotD.cells) ∧ Below w.heap.size w w'
theorem end_none {p : ProgD} {n : Int} {c : ChipD} {w w' : World} {e : Ending} {z : Int} (h : allocRes p n c = ([], z)) (he : e = .returned (.tuple #[.slice none 0 0, .int .i64 z])) (hb : Below w.heap.size w w') : AllocEnd p n c w e w' := by
  unfold AllocEnd
  rw [h]
  exact ⟨none, 0, he, World.ownsRow_nil _ _ _ _, hb⟩
set_option maxRecDepth 100000 in
set_option maxHeartbeats 16000000 in
theorem alloc_any (p : ProgD) (n : Int) (c : ChipD) (w : World) (o : ProgOk w p) (hs : AccSm p) (hc : ProgCap p) (hN : (presM p.control.l).length ≤ 90000) :
    Calls Tryz.prog 11 #[.agg (progCells p), .int .i64 n, .agg (chipCells c)] w fun e w' => AllocEnd p n c w e w' := by
  obtain ⟨W, hW, hw, HB, hp⟩ := box2 w (progCells p) 31 (chipCells c) 33
  have HW := Lib.hid hw
  have HCk := Lib.hid (fun u (hb : Below W.heap.size W u) => check_any p u (o.below (below_step hw hb)) hc hN)
  have HCc := Lib.hid (fun u (hb : Below W.heap.size W u) => pcells_any p u (o.below (below_step hw hb)) hs)
  have HCw := Lib.hid (fun u (hb : Below W.heap.size W u) i hi => cellWidth_any p i hi u (o.below (below_step hw hb)) hs)
  have HR := Lib.hid (alloc_out p n c)
  have HV := Lib.hid (fun h => allW_pos (n := n.toNat) (diag_zero (p := p) h))
  have hcl : cellsN p ≤ 10200 := by have := fN_le hs; have := hs.headers; have := hs.metadata; unfold cellsN; omega
  clear o hs hc hN hw
  generalize hdg : diagM p = dg at *
  obtain ⟨dc, dp, di, ds⟩ := dg
  simp only [DiagD.val] at HCk HR HV
  clear hdg
  have hp1 := hp W HB
  go_enter Tryz.func11, Tryz.ntmps11
  go_upto_region 1 with fail
  rw [← hW]
  clear hW
  go_wp2_with fail
  refine (HCk.out _ (by first | exact HB | exact below_alloc HB _ | exact below_alloc (below_alloc HB _) _ | exact below_alloc (below_alloc (below_alloc HB _) _) _)).mono ?_
  rintro e w1 ⟨rfl, hbN⟩
  replace HB := below_step (by first | exact HB | exact below_alloc HB _ | exact below_alloc (below_alloc HB _) _ | exact below_alloc (below_alloc (below_alloc HB _) _) _) hbN
  clear hbN
  clear hp1
  by_cases hd0 : dc = 0
  case neg =>
    have hdb : (dc != 0) = true := bne_iff_ne.2 hd0
    have HR1 := Lib.hid (HR.out.trans (if_pos hd0))
    clear hd0 HR HV HCk HCc HCw hp
    go_wp2
    go_quiet (fail)
    go_wp2
    go_ret2
    exact end_none HR1.out rfl (below_step HW.out (below_drewN (below_alloc HB _) _))
  have hdb : (dc != 0) = false := by rw [hd0]; rfl
  replace HR := Lib.hid (HR.out.trans (if_neg (by simpa using hd0)))
  replace HV := Lib.hid (HV.out hd0)
  subst hd0
  have hp1 := hp _ (below_alloc HB (.cells #[.int .i64 0, .int .i64 dp, .int .i64 di, .int .i64 ds] 44))
  replace HB := below_alloc HB (.cells #[.int .i64 0, .int .i64 dp, .int .i64 di, .int .i64 ds] 44)
  go_wp2_with fail
  refine (chip_any' c _).mono ?_
  rintro e w2 ⟨rfl, hbN⟩
  replace HB := below_step HB hbN
  have hw2 : W.heap.size ≤ w2.heap.size := HB.size
  clear hbN hp1
  generalize hch : chipM c = ch at *
  by_cases hc0 : ch = 0
  case neg =>
    have hcb : (ch != 0) = true := bne_iff_ne.2 hc0
    have HR1 := Lib.hid (HR.out.trans (if_pos hc0))
    clear hc0 HR HV HCc HCw hp HCk hch
    go_wp2
    go_ret2
    exact end_none HR1.out rfl (below_step HW.out HB)
  have hcb : (ch != 0) = false := by rw [hc0]; rfl
  replace HR := Lib.hid (HR.out.trans (if_neg (by simpa using hc0)))
  have HI0 : Hid (AInv c alloc0) := Lib.hid (alloc0_inv (by rw [hch]; exact hc0))
  have HCh : Hid (c.c8 ≤ 64 ∧ c.c16 ≤ 64 ∧ c.c32 ≤ 64) := Lib.hid (chip_le (by rw [hch]; exact hc0))
  subst hc0
  clear hch
  by_cases hn0 : n < 0
  · have HR1 := Lib.hid (HR.out.trans (if_pos (.inl hn0)))
    clear HR HV HCc HCw hp HCk HI0 HCh
    go_wp2
    go_ret2
    exact end_none HR1.out rfl (below_step HW.out HB)
  by_cases hn1 : 24 < n
  · have HR1 := Lib.hid (HR.out.trans (if_pos (.inr hn1)))
    clear HR HV HCc HCw hp HCk HI0 HCh
    go_wp2
    go_ret2
    exact end_none HR1.out rfl (below_step HW.out HB)
  replace HR := Lib.hid (HR.out.trans (if_neg (by omega)))
  obtain ⟨N, rfl⟩ : ∃ N : Nat, n = N := ⟨n.toNat, by omega⟩
  have HRun : Hid (∀ r, runR c alloc0 (allW p N) [] = r → allocRes p N c = match r with | none => ([], 10) | some l => (l, 0)) := Lib.hid (fun r hr => by
    rw [HR.out, ← hr, slotsM, runR, Int.toNat_natCast]
    show (match runC c alloc0 (allW p N) with | none => _ | some l => _) = _
    cases runC c alloc0 (allW p N) with
    | none => rfl
    | some l => rfl)
  clear HR HCk
  have hp2 := hp _ (below_alloc (below_alloc HB (.cells #[.int .i64 0, .int .i64 0, .int .i64 0, .int .i64 c.c8, .int .i64 c.c16, .int .i64 c.c32] 87)) (.cells #[.int .i64 0, .int .i64 0, .int .i64 0, .int .i64 0] 48))
  have hp1 := hp _ HB
  refine Exists.elim (⟨_, rfl⟩ : ∃ U, U = (w2.alloc (.cells #[.int .i64 0, .int .i64 0, .int .i64 0, .int .i64 c.c8, .int .i64 c.c16, .int .i64 c.c32] 87)).alloc (.cells #[.int .i64 0, .int .i64 0, .int .i64 0, .int .i64 0] 48)) fun U hU => ?_
  have HPo : Hid (Blk U w2.heap.size 87 (poolCells c alloc0)) := Lib.hid (by rw [hU]; exact (Blk.new _ _ _).alloc _)
  have HOp : Hid (Blk U (w2.heap.size + 1) 48 (slotCells slot0)) := Lib.hid (by rw [hU]; show Blk _ _ _ #[.int .i64 0, .int .i64 0, .int .i64 0, .int .i64 0]; simpa using Blk.new (w2.alloc (.cells #[.int .i64 0, .int .i64 0, .int .i64 0, .int .i64 c.c8, .int .i64 c.c16, .int .i64 c.c32] 87)) 48 #[.int .i64 0, .int .i64 0, .int .i64 0, .int .i64 0])
  have HBU : Below W.heap.size W U := by rw [hU]; exact below_alloc (below_alloc HB _) _
  rw [← hU] at hp2
  clear HB
  go_upto_region 11 with fail
  rw [← hU]
  clear hp1 hU
  go_wp2_with fail
  refine (HCc.out _ HBU).mono ?_
  rintro e w3 ⟨rfl, hbN⟩
  have HB3 := Lib.hid (below_step HBU hbN)
  have HPo3 := Lib.hid (HPo.out.below hbN HPo.out.lt)
  have HOp3 := Lib.hid (HOp.out.below hbN HOp.out.lt)
  have hgp : w2.heap.size + 1 < w3.heap.size := HOp3.out.lt
  clear hbN HBU HPo HOp hp2
  obtain ⟨i0, hi, hz0, hz1, hz2⟩ := info_parts info_slot
  have HLen := Lib.hid (allW_len p N)
  go_wp2
  go_loopw [13, 14, 15, 16, 17, 49] (fun out _ _ _ _ iv wr => ∃ (k m : Nat) (A : Option Addr) (cp : Nat) (s : AllocS) (Ls : List SlotD), k ≤ cellsN p + N ∧ iv = .int .i64 k ∧ out = .slice A m cp ∧ m ≤ k ∧ Hid (m = Ls.length ∧ wr.ownsRow w3.heap.size 48 4 (.slice A m cp) m (Ls.flatMap SlotD.cells)) ∧ Hid (AInv c s ∧ runR c s ((allW p N).drop k) Ls = runR c alloc0 (allW p N) []) ∧ s.op.off ≤ 32 ∧ w3.heap.size ≤ wr.heap.size ∧ Blk wr w2.heap.size 87 (poolCells c s) ∧ Blk wr (w2.heap.size + 1) 48 (slotCells s.op) ∧ Below W.heap.size W wr) (fun _ _ _ _ _ i _ => cellsN p + N - (intOf i).toNat)
  case atStart => exact ⟨0, 0, none, 0, alloc0, [], Nat.zero_le _, rfl, rfl, Nat.le_refl _, Lib.hid ⟨rfl, World.ownsRow_nil _ _ _ _⟩, Lib.hid ⟨HI0.out, rfl⟩, by decide, Nat.le_refl _, HPo3.out, HOp3.out, HB3.out⟩
  case round =>
  clear HPo3 HOp3
  obtain ⟨k, m, A, cp, s, Ls, hk, rfl, rfl, hm, HG, HRn, hof, hws, hPo, hOp, HB⟩ := hrel
  by_cases hlt : k < cellsN p + N
  case neg =>
    have HRd : Hid (allocRes p N c = (Ls, 0)) := Lib.hid (HRun.out (some Ls) (by rw [← HRn.out.2, List.drop_eq_nil_of_le (by rw [HLen.out]; omega), runR_nil]))
    clear hPo hOp
    go_wp2
    go_ret2
    have h1 := HG.out.1
    have h2 := HG.out.2
    subst h1
    have hsz : w.heap.size ≤ w3.heap.size := by have := (below_step HW.out HB3.out).size; exact this
    refine ⟨A, cp, by rw [HRd.out]; rfl, ?_, below_step HW.out HB⟩
    rw [HRd.out]
    exact ⟨h2.1, by
      rcases h2.2 with h0 | ⟨g, cap, cur, e, hbg, hr⟩
      · exact .inl h0
      · exact .inr ⟨g, cap, cur, e, Nat.le_trans hsz hbg, hr⟩⟩
  have HPb := Lib.hid hPo
  have HOb := Lib.hid hOp
  have HBr := Lib.hid HB
  clear hPo hOp
  go_upto_if 54 with fail
  go_cut [15] from 50 to 57 (fun v wx => ∃ z : Int, v = .int .i64 z ∧ Hid ((allW p N)[k]? = some z) ∧ Below wr.heap.size wr wx)
  case first =>
    by_cases hkc : k < cellsN p
    · have hkc' : (k : Int) < (cellsN p : Int) := by omega
      have hp3 := hp wr HB
      have HZ := Lib.hid (allW_low (p := p) (n := N) hkc)
      go_wp2_with fail
      refine (HCw.out _ HB k hkc).mono ?_
      rintro e w5 ⟨rfl, hbN⟩
      clear hp3
      go_wp2
      go_meet
      case rel => exact ⟨_, rfl, HZ, hbN⟩
    · have hkc' : ¬ (k : Int) < (cellsN p : Int) := by omega
      have HZ := Lib.hid (allW_high (p := p) (n := N) (k := k) (by omega) (by omega))
      have HBe := Lib.hid (Below.refl wr.heap.size wr)
      go_wp2
      go_meet
      case rel => exact ⟨1, rfl, HZ, HBe.out⟩
  case rest =>
  obtain ⟨z, rfl, HZ, hbx⟩ := hcut
  have HPc := Lib.hid (HPb.out.below hbx HPb.out.lt)
  have HOc := Lib.hid (HOb.out.below hbx HOb.out.lt)
  have HGc : Hid (m = Ls.length ∧ wc.ownsRow w3.heap.size 48 4 (.slice A m cp) m (Ls.flatMap SlotD.cells)) := Lib.hid ⟨HG.out.1, own_below HG.out.2 hbx⟩
  have HBc := Lib.hid (below_step HB hbx)
  have hs3 : w3.heap.size ≤ wc.heap.size := Nat.le_trans hws hbx.size
  have hz1' : Hid (1 ≤ z) := Lib.hid (HV.out z (List.mem_of_getElem? HZ.out))
  clear HG HB hbx HPb HOb HBr hws
  have HSt := Lib.hid (fun x t' (h : stepC c s z = some (x, t')) => And.intro (step_inv hz1'.out HRn.out.1 h) ((runR_some (L := Ls) HZ.out h).symm.trans HRn.out.2))
  have HSn := Lib.hid (fun (h : stepC c s z = none) => (runR_none (L := Ls) HZ.out h).symm.trans HRn.out.2)
  have HIv := Lib.hid HRn.out.1
  have HSe := Lib.hid (stepC.eq_1 c s z)
  clear HRn HZ
  have hsl := HCh.out
  have hu0 := HIv.out.u0
  have hu1 := HIv.out.u1
  have hu2 := HIv.out.u2
  have hop := HIv.out.op
  obtain ⟨u0, u1, u2, ⟨oz, oi, of, ow⟩⟩ := s
  simp only at hu0 hu1 hu2 hop hof HSt HSn HSe HIv
  have ho0 : 0 ≤ of := by
    rcases hop with h | ⟨_, _, _, h, _⟩
    · have := congrArg SlotD.off h; simp only [slot0] at this; omega
    · omega
  have HOs := Lib.hid hop
  clear hop
  have o0 : wc.cell? ⟨w2.heap.size + 1, 0, none⟩ = some (.int .i64 oz) := HOc.out.cell 0
  have o1 : wc.cell? ⟨w2.heap.size + 1, 1, none⟩ = some (.int .i64 oi) := HOc.out.cell 1
  have o2 : wc.cell? ⟨w2.heap.size + 1, 2, none⟩ = some (.int .i64 of) := HOc.out.cell 2
  have o3 : wc.cell? ⟨w2.heap.size + 1, 3, none⟩ = some (.int .i64 ow) := HOc.out.cell 3
  by_cases hsh : z = 1 ∧ of < oz
  · have HSs := Lib.hid (HSt.out _ _ (HSe.out.trans (if_pos hsh)))
    obtain ⟨rfl, hlo⟩ := hsh
    have hoz : of + 1 ≤ 32 := by
      rcases HOs.out with h | ⟨h, _⟩
      · have h1 := congrArg SlotD.off h; have h2 := congrArg SlotD.size h; simp only [slot0] at h1 h2; omega
      · omega
    clear HSt HSn HSe HIv
    have hown1 := HGc.out.2
    go_wp2_with (first
      | (at_builtin; refine wpList_append_own_at _ rfl _ _ 36 rfl w3.heap.size 48 i0 _ 4 32 Tryz.underlying36 hi hz0 hz1 hz2 rfl (by decide) _ _ _ rfl (hown1.alloc _) ⟨wc.heap.size, 0, none⟩ 1 1 [.int .i64 oz, .int .i64 oi, .int .i64 of, .int .i64 ow] rfl rfl ?g01 ?g02 ?g03 ?g04 ?g05 ?_))
    case g02 => exact ⟨rfl, rfl, rfl, rfl⟩
    case g03 => unfold maxLen; omega
    case g04 => omega
    case g05 => first | omega | (simp; omega)
    intro v1 w6 hown2 hgrow _ _
    obtain ⟨A1, c1, rfl⟩ := co_slice hown2
    have hoa := hown1.alloc (.cells #[.int .i64 oz, .int .i64 oi, .int .i64 of, .int .i64 ow] 48)
    have HP6 := Lib.hid (blk_grown (HPc.out.alloc _) hgrow hoa (by omega))
    have HO6 := Lib.hid (blk_grown (HOc.out.alloc _) hgrow hoa hgp)
    have HB6 : Hid (Below W.heap.size W w6) := Lib.hid ((below_alloc HBc.out _).grown hgrow (below_alloc HBc.out _).size fun j hj => Nat.le_trans HB3.out.size (own_lt hoa j hj).1)
    have hs6 : w3.heap.size ≤ w6.heap.size := by have := hgrow.size; simp at this; omega
    have HL6 : Hid (m + 1 = (Ls ++ [(⟨oz, oi, of, ow⟩ : SlotD)]).length ∧ w6.ownsRow w3.heap.size 48 4 (.slice A1 (m + 1) c1) (m + 1) ((Ls ++ [(⟨oz, oi, of, ow⟩ : SlotD)]).flatMap SlotD.cells)) := Lib.hid ⟨by simp [HGc.out.1], by simpa [SlotD.cells] using hown2⟩
    have r2 : w6.cell? ⟨w2.heap.size + 1, 2, none⟩ = some (.int .i64 of) := HO6.out.cell 2
    have f2 : w6.frozen? ⟨w2.heap.size + 1, 2, none⟩ = false := HO6.out.frozen 2
    clear hown1 hown2 hgrow hoa o0 o1 o2 o3 HPc HOc HBc HGc
    go_wp2
    go_roundw
    case rel => exact ⟨k + 1, m + 1, A1, c1, ⟨u0, u1, u2, ⟨oz, oi, of + 1, ow⟩⟩, Ls ++ [⟨oz, oi, of, ow⟩], by omega, by go_num, rfl, by omega, Lib.hid ⟨HL6.out.1, ownsRow_setCell_below HL6.out.2 (by show w2.heap.size + 1 < w3.heap.size; exact hgp) _⟩, Lib.hid ⟨HSs.out.1.1, HSs.out.2⟩, hoz, by simpa using hs6, HP6.out.far (by show w2.heap.size ≠ w2.heap.size + 1; omega) _, HO6.out.set_ 2 _, HB6.out.setCell (by show W.heap.size ≤ w2.heap.size + 1; omega) _⟩
    case measure => simp [intOf]; omega
  · have hown0 := HGc.out.2
    have hgq : w2.heap.size < wc.heap.size := HPc.out.lt
    replace HSe := Lib.hid (HSe.out.trans (if_neg hsh))
    have hcase : (z == 1) = false ∨ ((z == 1) = true ∧ ¬ of < oz) := by
      by_cases hz : z = 1
      · exact .inr ⟨beq_iff_eq.2 hz, fun h => hsh ⟨hz, h⟩⟩
      · exact .inl (beq_eq_false_iff_ne.2 hz)
    clear hsh
    go_upto_region 19 with fail
    go_cut [66] from 50 to 66 (fun v wx => v = .bool false ∧ wx = wc)
    case first =>
      rcases hcase with hzb | ⟨hzb, hnl⟩
      all_goals
        go_wp2
        go_meet
        case rel => exact ⟨rfl, rfl⟩
    case rest =>
    obtain ⟨rfl, rfl⟩ := hcut
    clear hcase
    go_wp2_with fail
    refine (ptake_any c ⟨u0, u1, u2, ⟨oz, oi, of, ow⟩⟩ z w2.heap.size wc HPc.out ⟨hu0.1, by simp only; omega⟩ ⟨hu1.1, by simp only; omega⟩ ⟨hu2.1, by simp only; omega⟩).mono ?_
    rintro e w6 ⟨hgr, hm6⟩
    have hs6 : w3.heap.size ≤ w6.heap.size := Nat.le_trans hs3 hgr.size
    have HB6 := Lib.hid (HBc.out.grown hgr HBc.out.size fun j hj => (by cases hj; exact hw2))
    have hown6 := World.ownsRow.kept hown0 hgr (.inr (fun e => by have := (own_lt hown0 _ e).1; omega))
    have HO6 := Lib.hid (HOc.out.grown hgr (fun e => by injection e with e; omega))
    have hlq : ∀ g, (Value.slice A m cp).ownBlock = some g → g < wc.heap.size := fun g hg => (own_lt hown0 g hg).2
    have hgs := hgr.size
    clear o0 o1 o2 o3 hown0 hgr HOc HPc HBc
    rcases htk : takeC c ⟨u0, u1, u2, ⟨oz, oi, of, ow⟩⟩ z with _ | ⟨zz, nn, t⟩
    · rw [htk] at hm6
      obtain ⟨rfl, hpo6⟩ := hm6
      have hse := HSe.out
      rw [htk] at hse
      have HRd : Hid (allocRes p N c = ([], 10)) := Lib.hid (HRun.out none (HSn.out hse).symm)
      clear hse hpo6 hown6 HO6 HSt HSn HSe
      go_wp2
      go_ret2
      exact end_none HRd.out rfl (below_step HW.out (below_alloc HB6.out _))
    · rw [htk] at hm6
      obtain ⟨rfl, hpo6⟩ := hm6
      have hse := HSe.out
      rw [htk] at hse
      have HSs := Lib.hid (HSt.out _ _ hse)
      have hto := take_op htk
      obtain ⟨t0, t1, t2, top⟩ := t
      simp only at hto
      subst hto
      clear hse HSt HSn HSe htk
      refine Exists.elim (⟨_, rfl⟩ : ∃ V, V = w6.alloc (.cells #[.int .i64 zz, .int .i64 nn, .int .i64 0, .int .i64 z] 48)) fun V hV => ?_
      have HC6 : Hid (Blk V w6.heap.size 48 #[.int .i64 zz, .int .i64 nn, .int .i64 0, .int .i64 z]) := Lib.hid (by rw [hV]; exact Blk.new _ _ _)
      have HPV : Hid (Blk V w2.heap.size 87 (poolCells c ⟨t0, t1, t2, ⟨oz, oi, of, ow⟩⟩)) := Lib.hid (by rw [hV]; exact hpo6.alloc _)
      have HOV : Hid (Blk V (w2.heap.size + 1) 48 #[.int .i64 oz, .int .i64 oi, .int .i64 of, .int .i64 ow]) := Lib.hid (by rw [hV]; exact HO6.out.alloc _)
      have hownV : V.ownsRow w3.heap.size 48 4 (.slice A m cp) m (Ls.flatMap SlotD.cells) := by rw [hV]; exact hown6.alloc _
      have HBV : Hid (Below W.heap.size W V) := Lib.hid (by rw [hV]; exact below_alloc HB6.out _)
      have hsV : w6.heap.size + 1 ≤ V.heap.size := by rw [hV]; simp
      go_upto_region 25 with fail
      rw [← hV]
      clear hV hpo6 hown6 HO6 HB6
      have c0 : V.cell? ⟨w6.heap.size, 0, none⟩ = some (.int .i64 zz) := HC6.out.cell 0
      have c1' : V.cell? ⟨w6.heap.size, 1, none⟩ = some (.int .i64 nn) := HC6.out.cell 1
      have c2 : V.cell? ⟨w6.heap.size, 2, none⟩ = some (.int .i64 0) := HC6.out.cell 2
      have c3 : V.cell? ⟨w6.heap.size, 3, none⟩ = some (.int .i64 z) := HC6.out.cell 3
      go_wp2_with (first
        | (at_builtin; refine wpList_append_own_at _ rfl _ _ 36 rfl w3.heap.size 48 i0 _ 4 32 Tryz.underlying36 hi hz0 hz1 hz2 rfl (by decide) _ _ _ rfl (hownV.alloc _) ⟨V.heap.size, 0, none⟩ 1 1 [.int .i64 zz, .int .i64 nn, .int .i64 0, .int .i64 z] rfl rfl ?h01 ?h02 ?h03 ?h04 ?h05 ?_))
      case h01 => exact new_cells _ _ _
      case h02 => intro u hu; simp only [List.mem_cons, List.not_mem_nil, or_false] at hu; rcases hu with rfl | rfl | rfl | rfl <;> rfl
      case h03 => unfold maxLen; omega
      case h04 => omega
      case h05 => first | omega | (simp; omega)
      intro v1 w7 hown7 hgrow _ _
      obtain ⟨A1, cp1, rfl⟩ := co_slice hown7
      have hoa := hownV.alloc (.cells #[.int .i64 zz, .int .i64 nn, .int .i64 0, .int .i64 z] 48)
      have HP7 := Lib.hid (blk_grown (HPV.out.alloc _) hgrow hoa (by omega))
      have HO7 := Lib.hid (blk_grown (HOV.out.alloc _) hgrow hoa hgp)
      have HC7 := Lib.hid ((HC6.out.alloc _).grown hgrow (fun e => by have := hlq _ e.symm; omega))
      have HB7 : Hid (Below W.heap.size W w7) := Lib.hid ((below_alloc HBV.out _).grown hgrow (below_alloc HBV.out _).size fun j hj => Nat.le_trans HB3.out.size (own_lt hoa j hj).1)
      have hs7 : w3.heap.size ≤ w7.heap.size := by have := hgrow.size; simp at this; omega
      have HL7 : Hid (m + 1 = (Ls ++ [(⟨zz, nn, 0, z⟩ : SlotD)]).length ∧ w7.ownsRow w3.heap.size 48 4 (.slice A1 (m + 1) cp1) (m + 1) ((Ls ++ [(⟨zz, nn, 0, z⟩ : SlotD)]).flatMap SlotD.cells)) := Lib.hid ⟨by simp [HGc.out.1], by simpa [SlotD.cells] using hown7⟩
      clear hown7 hgrow hoa c0 c1' c2 c3 HPV HOV HC6 HBV HGc hownV hsV hlq
      by_cases hz1 : z = 1
      · subst hz1
        have c0 : w7.cell? ⟨w6.heap.size, 0, none⟩ = some (.int .i64 zz) := HC7.out.cell 0
        have c1' : w7.cell? ⟨w6.heap.size, 1, none⟩ = some (.int .i64 nn) := HC7.out.cell 1
        have c2 : w7.cell? ⟨w6.heap.size, 2, none⟩ = some (.int .i64 0) := HC7.out.cell 2
        have c3 : w7.cell? ⟨w6.heap.size, 3, none⟩ = some (.int .i64 1) := HC7.out.cell 3
        have o0 : w7.cell? ⟨w2.heap.size + 1, 0, none⟩ = some (.int .i64 oz) := HO7.out.cell 0
        have o1 : w7.cell? ⟨w2.heap.size + 1, 1, none⟩ = some (.int .i64 oi) := HO7.out.cell 1
        have o2 : w7.cell? ⟨w2.heap.size + 1, 2, none⟩ = some (.int .i64 of) := HO7.out.cell 2
        have o3 : w7.cell? ⟨w2.heap.size + 1, 3, none⟩ = some (.int .i64 ow) := HO7.out.cell 3
        have f2 : ∀ j, w7.frozen? ⟨w2.heap.size + 1, j, none⟩ = false := fun j => HO7.out.frozen j
        have hss := HSs.out
        simp only [if_true] at hss
        have HS3 := Lib.hid hss
        clear hss HSs
        go_wp2
        go_roundw
        case rel => exact ⟨k + 1, m + 1, A1, cp1, ⟨t0, t1, t2, ⟨zz, nn, 1, 1⟩⟩, Ls ++ [⟨zz, nn, 0, 1⟩], by omega, by go_num, rfl, by omega, Lib.hid ⟨HL7.out.1, ownsRow_setCell_below (own_set4 HL7.out.2 (by omega) _ _ _ _) (by show w2.heap.size + 1 < w3.heap.size; exact hgp) _⟩, Lib.hid ⟨HS3.out.1.1, HS3.out.2⟩, by simp only; omega, by simpa using hs7, (far4 HP7.out (by omega) _ _ _ _).far (by show w2.heap.size ≠ w2.heap.size + 1; omega) _, (put4b HO7.out _ _ _ _).set_ 2 _, (put4_below HB7.out (by omega) _ _ _ _).setCell (by show W.heap.size ≤ w2.heap.size + 1; omega) _⟩
        case measure => simp [intOf]; omega
      · have hzb : (z == 1) = false := beq_eq_false_iff_ne.2 hz1
        have hss := HSs.out
        simp only [if_neg hz1] at hss
        have HS3 := Lib.hid hss
        clear hss HSs hz1
        go_wp2
        go_roundw
        case rel => exact ⟨k + 1, m + 1, A1, cp1, ⟨t0, t1, t2, ⟨oz, oi, of, ow⟩⟩, Ls ++ [⟨zz, nn, 0, z⟩], by omega, by go_num, rfl, by omega, HL7, Lib.hid ⟨HS3.out.1.1, HS3.out.2⟩, hof, hs7, HP7.out, HO7.out, HB7.out⟩
        case measure => simp [intOf]; omega
end Go.Proofs.YtbfjknidinkafaaGreat
namespace Go.Proofs.YtbfjknidinkafaaGreat
open Go.RowKit

theorem neq_slot (x y : SlotD) : ∃ b : Bool, (b = false ↔ x = y) ∧ ∀ w, Sem.run Tryz.prog (binOp .neq 48 (.agg #[.int .i64 x.size, .int .i64 x.index, .int .i64 x.off, .int .i64 x.width]) (.agg #[.int .i64 y.size, .int .i64 y.index, .int .i64 y.off, .int .i64 y.width])) w = .ok (.bool b) w := by
  refine ⟨!((x.size == y.size) && (x.index == y.index) && (x.off == y.off) && (x.width == y.width)), ?_, fun w => ?_⟩
  · obtain ⟨a0, a1, a2, a3⟩ := x
    obtain ⟨b0, b1, b2, b3⟩ := y
    simp [SlotD.mk.injEq, and_assoc]
  · have hS : Tryz.prog.underlying 48 = some (.struct (Tryz.prog.fieldsOf 48)) := by kernel_rfl
    have hp : Tryz.prog.stoodInHeld 48 = false := by kernel_rfl
    have u0 := Tryz.underlying3
    have a0 := Tryz.isAgg3
    have z0 := Tryz.sizeOf3
    rw [run_neq_struct, show (10000 : Nat) = 9999 + 1 from rfl, run_equalIn_agg w 9999 48 _ _ hS hp]
    simp only [Program.fieldsOf, Tryz.underlying48]
    go_simp
    repeat' split
    all_goals simp_all

set_option maxRecDepth 100000 in
set_option maxHeartbeats 4000000 in
theorem equal_slots (x y : L SlotD) (w : World) (h : LOk w 4 SlotD.cells x) (h2 : LOk w 4 SlotD.cells y) :
    Calls Tryz.prog 13 #[x.v, y.v] w fun e w' => Says e (x.l = y.l) ∧ Below w.heap.size w w' := by
  obtain ⟨l, A0, c0⟩ := x
  obtain ⟨m, A1, c1⟩ := y
  have HX := Lib.hid h
  have HY := Lib.hid h2
  have hmx := h.1
  have hmy := h2.1
  unfold maxLen at hmx hmy
  clear h h2
  simp only [L.v] at *
  by_cases hl : l.length = m.length
  case neg =>
    have hne : (((l.length : Nat) : Int) == ((m.length : Nat) : Int)) = false := by rw [beq_eq_false_iff_ne]; omega
    have hne2 : ¬ ((l.length : Nat) : Int) = ((m.length : Nat) : Int) := by omega
    have HL := Lib.hid hl
    clear hl
    go_enter Tryz.func13, Tryz.ntmps13
    go_wp2
    go_ret
    exact ⟨Says.no (fun e => HL.out (by rw [e])), Below.refl _ _⟩
  rw [← hl]
  have HL := Lib.hid hl
  clear hl hmy
  go_enter Tryz.func13, Tryz.ntmps13
  go_wp2
  go_loopw [5] (fun iv wr => ∃ k : Nat, k ≤ l.length ∧ iv = .int .i64 k ∧ Hid (l.take k = m.take k) ∧ Below w.heap.size w wr) (fun i _ => l.length - (intOf i).toNat)
  case atStart => exact ⟨0, Nat.zero_le _, rfl, Lib.hid rfl, Below.refl _ _⟩
  case round =>
    obtain ⟨k, hk, rfl, HK, HB⟩ := hrel
    by_cases hlt : k < l.length
    · have hlt2 : k < m.length := by have := HL.out; omega
      obtain ⟨g, of, hA, d0, d1, d2, d3⟩ := SlotD.at (HX.out.below HB (Nat.le_refl _)) hlt
      obtain ⟨g2, of2, hA2, e0, e1, e2, e3⟩ := SlotD.at (HY.out.below HB (Nat.le_refl _)) hlt2
      simp only at hA hA2
      subst hA hA2
      simp only at d0 d1 d2 d3 e0 e1 e2 e3
      have HS : Hid (l[k] = m[k] → l.take (k + 1) = m.take (k + 1)) := Lib.hid (take_step hlt hlt2 HK.out)
      have HN : Hid (¬ l[k] = m[k] → ¬ l = m) := Lib.hid (fun h e => h (by subst e; rfl))
      generalize l[k] = a at *
      generalize m[k] = b at *
      clear hlt2
      obtain ⟨bb, hb0, hbb⟩ := neq_slot a b
      have HBB := Lib.hid hb0
      clear hb0
      cases bb with
      | true =>
        have HN2 := Lib.hid (HN.out (by intro e; have := HBB.out.2 e; cases this))
        clear HN HS
        go_wp2
        go_quiet (fail)
        go_wp2
        go_ret
        exact ⟨Says.no HN2.out, below_drewN HB _⟩
      | false =>
        have HS2 := Lib.hid (HS.out (by exact HBB.out.1 rfl))
        clear HN HS
        go_wp2
        go_quiet (fail)
        go_wp2
        go_roundw
        case rel => exact ⟨k + 1, by omega, by go_num, HS2, below_drewN HB _⟩
        case measure => simp [intOf]; omega
    · have hk' : k = l.length := by omega
      subst hk'
      have HE : Hid (l = m) := Lib.hid (by have := HK.out; rw [List.take_length, HL.out, List.take_length] at this; exact this)
      go_wp2
      go_ret
      exact ⟨Says.yes HE.out, HB⟩

set_option maxRecDepth 100000 in
set_option maxHeartbeats 4000000 in
theorem equal_u32s (x y : L Int) (w : World) (h : LOk w 1 ucell x) (h2 : LOk w 1 ucell y) :
    Calls Tryz.prog 36 #[x.v, y.v] w fun e w' => Says e (x.l = y.l) ∧ Below w.heap.size w w' := by
  obtain ⟨l, A0, c0⟩ := x
  obtain ⟨m, A1, c1⟩ := y
  have HX := Lib.hid h
  have HY := Lib.hid h2
  have hmx := h.1
  have hmy := h2.1
  unfold maxLen at hmx hmy
  clear h h2
  simp only [L.v] at *
  by_cases hl : l.length = m.length
  case neg =>
    have hne : (((l.length : Nat) : Int) == ((m.length : Nat) : Int)) = false := by rw [beq_eq_false_iff_ne]; omega
    have hne2 : ¬ ((l.length : Nat) : Int) = ((m.length : Nat) : Int) := by omega
    have HL := Lib.hid hl
    clear hl
    go_enter Tryz.func36, Tryz.ntmps36
    go_wp2
    go_ret
    exact ⟨Says.no (fun e => HL.out (by rw [e])), Below.refl _ _⟩
  rw [← hl]
  have HL := Lib.hid hl
  clear hl hmy
  go_enter Tryz.func36, Tryz.ntmps36
  go_wp2
  go_loopw [5] (fun iv wr => ∃ k : Nat, k ≤ l.length ∧ iv = .int .i64 k ∧ Hid (l.take k = m.take k) ∧ Below w.heap.size w wr) (fun i _ => l.length - (intOf i).toNat)
  case atStart => exact ⟨0, Nat.zero_le _, rfl, Lib.hid rfl, Below.refl _ _⟩
  case round =>
    obtain ⟨k, hk, rfl, HK, HB⟩ := hrel
    by_cases hlt : k < l.length
    · have hlt2 : k < m.length := by have := HL.out; omega
      obtain ⟨g, of, hA, d0⟩ := ucell_at (HX.out.below HB (Nat.le_refl _)) hlt
      obtain ⟨g2, of2, hA2, e0⟩ := ucell_at (HY.out.below HB (Nat.le_refl _)) hlt2
      simp only at hA hA2
      subst hA hA2
      simp only at d0 e0
      have HS : Hid (l[k] = m[k] → l.take (k + 1) = m.take (k + 1)) := Lib.hid (take_step hlt hlt2 HK.out)
      have HN : Hid (¬ l[k] = m[k] → ¬ l = m) := Lib.hid (fun h e => h (by subst e; rfl))
      generalize l[k] = a at *
      generalize m[k] = b at *
      clear hlt2
      obtain ⟨bb, hbb⟩ : ∃ bb, (a != b) = bb := ⟨_, rfl⟩
      have HBB := Lib.hid (show bb = false ↔ a = b by rw [← hbb]; simp)
      cases bb with
      | true =>
        have HN2 := Lib.hid (HN.out (by intro e; have := HBB.out.2 e; cases this))
        clear HN HS
        go_wp2
        go_quiet (fail)
        go_wp2
        go_ret
        exact ⟨Says.no HN2.out, below_drewN HB _⟩
      | false =>
        have HS2 := Lib.hid (HS.out (by exact HBB.out.1 rfl))
        clear HN HS
        go_wp2
        go_quiet (fail)
        go_wp2
        go_roundw
        case rel => exact ⟨k + 1, by omega, by go_num, HS2, below_drewN HB _⟩
        case measure => simp [intOf]; omega
    · have hk' : k = l.length := by omega
      subst hk'
      have HE : Hid (l = m) := Lib.hid (by have := HK.out; rw [List.take_length, HL.out, List.take_length] at this; exact this)
      go_wp2
      go_ret
      exact ⟨Says.yes HE.out, HB⟩

set_option maxRecDepth 100000 in
set_option maxHeartbeats 4000000 in
theorem equal_bits (x y : L Bool) (w : World) (h : LOk w 1 bcell x) (h2 : LOk w 1 bcell y) :
    Calls Tryz.prog 30 #[x.v, y.v] w fun e w' => Says e (x.l = y.l) ∧ Below w.heap.size w w' := by
  obtain ⟨l, A0, c0⟩ := x
  obtain ⟨m, A1, c1⟩ := y
  have HX := Lib.hid h
  have HY := Lib.hid h2
  have hmx := h.1
  have hmy := h2.1
  unfold maxLen at hmx hmy
  clear h h2
  simp only [L.v] at *
  by_cases hl : l.length = m.length
  case neg =>
    have hne : (((l.length : Nat) : Int) == ((m.length : Nat) : Int)) = false := by rw [beq_eq_false_iff_ne]; omega
    have hne2 : ¬ ((l.length : Nat) : Int) = ((m.length : Nat) : Int) := by omega
    have HL := Lib.hid hl
    clear hl
    go_enter Tryz.func30, Tryz.ntmps30
    go_wp2
    go_ret
    exact ⟨Says.no (fun e => HL.out (by rw [e])), Below.refl _ _⟩
  rw [← hl]
  have HL := Lib.hid hl
  clear hl hmy
  go_enter Tryz.func30, Tryz.ntmps30
  go_wp2
  go_loopw [5] (fun iv wr => ∃ k : Nat, k ≤ l.length ∧ iv = .int .i64 k ∧ Hid (l.take k = m.take k) ∧ Below w.heap.size w wr) (fun i _ => l.length - (intOf i).toNat)
  case atStart => exact ⟨0, Nat.zero_le _, rfl, Lib.hid rfl, Below.refl _ _⟩
  case round =>
    obtain ⟨k, hk, rfl, HK, HB⟩ := hrel
    by_cases hlt : k < l.length
    · have hlt2 : k < m.length := by have := HL.out; omega
      obtain ⟨g, of, hA, d0⟩ := bcell_at (HX.out.below HB (Nat.le_refl _)) hlt
      obtain ⟨g2, of2, hA2, e0⟩ := bcell_at (HY.out.below HB (Nat.le_refl _)) hlt2
      simp only at hA hA2
      subst hA hA2
      simp only at d0 e0
      have HS : Hid (l[k] = m[k] → l.take (k + 1) = m.take (k + 1)) := Lib.hid (take_step hlt hlt2 HK.out)
      have HN : Hid (¬ l[k] = m[k] → ¬ l = m) := Lib.hid (fun h e => h (by subst e; rfl))
      generalize l[k] = a at *
      generalize m[k] = b at *
      clear hlt2
      by_cases hab : a = b
      · subst hab
        have HS2 := Lib.hid (HS.out rfl)
        clear HN HS
        cases a
        all_goals
          go_wp2
          go_quiet (fail)
          go_wp2
          go_roundw
          case rel => exact ⟨k + 1, by omega, by go_num, HS2, below_drewN HB _⟩
          case measure => simp [intOf]; omega
      · have HN2 := Lib.hid (HN.out hab)
        clear HN HS
        cases a <;> cases b
        · exact absurd rfl hab
        · clear hab
          go_wp2
          go_quiet (fail)
          go_wp2
          go_ret
          exact ⟨Says.no HN2.out, below_drewN HB _⟩
        · clear hab
          go_wp2
          go_quiet (fail)
          go_wp2
          go_ret
          exact ⟨Says.no HN2.out, below_drewN HB _⟩
        · exact absurd rfl hab
    · have hk' : k = l.length := by omega
      subst hk'
      have HE : Hid (l = m) := Lib.hid (by have := HK.out; rw [List.take_length, HL.out, List.take_length] at this; exact this)
      go_wp2
      go_ret
      exact ⟨Says.yes HE.out, HB⟩

end Go.Proofs.YtbfjknidinkafaaGreat
namespace Go.Proofs.YtbfjknidinkafaaGreat
open Go.RowKit

def nilW {α : Type} : L α := ⟨[], none, 0⟩
theorem nilw_ok {α : Type} (w : World) (k : Nat) (cells : α → List Value) : LOk w k cells nilW := ⟨Nat.zero_le _, .inl rfl⟩
def metaW : List FieldD := [⟨⟨#[105, 110]⟩, 8⟩, ⟨⟨#[111, 117, 116]⟩, 8⟩, ⟨⟨#[100, 114, 111, 112]⟩, 1⟩, ⟨⟨#[109]⟩, 12⟩]
def progP (g : Nat) : ProgD := ⟨⟨#[112]⟩, ⟨[⟨⟨#[104]⟩, ⟨[⟨⟨#[97]⟩, 8⟩], some ⟨g, 0, none⟩, 1⟩⟩], some ⟨g + 1, 0, none⟩, 1⟩, ⟨metaW, some ⟨g + 1 + 1, 0, none⟩, 4⟩, nilW,
  ⟨[⟨⟨#[110, 111, 112]⟩, nilW, nilW⟩], some ⟨g + 1 + 1 + 1, 0, none⟩, 1⟩, nilW, ⟨[⟨⟨#[115]⟩, ⟨[0], some ⟨g + 1 + 1 + 1 + 1, 0, none⟩, 1⟩, false, 0, 0, nilW, -1⟩], some ⟨g + 1 + 1 + 1 + 1 + 1, 0, none⟩, 1⟩, nilW, ⟨[0], some ⟨g + 1 + 1 + 1 + 1 + 1 + 1, 0, none⟩, 1⟩⟩
theorem blk_at {w : World} {g : Nat} (h : w.heap.size = g) (t : TypeId) (cs : Array Value) : Blk (w.alloc (.cells cs t)) g t cs := h ▸ Blk.new w t cs
def fieldCs : Array Value := #[.string ⟨#[97]⟩, .int .i64 8]
def hdrCs (g : Nat) : Array Value := #[.string ⟨#[104]⟩, .slice (some ⟨g, 0, none⟩) 1 1]
def metaCs : Array Value := #[.string ⟨#[105, 110]⟩, .int .i64 8, .string ⟨#[111, 117, 116]⟩, .int .i64 8, .string ⟨#[100, 114, 111, 112]⟩, .int .i64 1, .string ⟨#[109]⟩, .int .i64 12]
def actCs : Array Value := #[.string ⟨#[110, 111, 112]⟩, .slice none 0 0, .slice none 0 0]
def stCs (g : Nat) : Array Value := #[.string ⟨#[115]⟩, .slice (some ⟨g + 1 + 1 + 1 + 1, 0, none⟩) 1 1, .bool false, .int .i64 0, .int .i64 0, .slice none 0 0, .int .i64 (-1)]
theorem prog_lies {w : World} {g : Nat} (b0 : Blk w g 135 fieldCs) (b1 : Blk w (g + 1) 96 (hdrCs g)) (b2 : Blk w (g + 1 + 1) 135 metaCs) (b3 : Blk w (g + 1 + 1 + 1) 124 actCs)
    (b4 : Blk w (g + 1 + 1 + 1 + 1) 3 #[.int .i64 0]) (b5 : Blk w (g + 1 + 1 + 1 + 1 + 1) 132 (stCs g)) (b6 : Blk w (g + 1 + 1 + 1 + 1 + 1 + 1) 3 #[.int .i64 0]) : ProgOk w (progP g) where
  name := by show (1 : Nat) ≤ _; unfold maxLen; omega
  headers := by
    refine ⟨by show (1 : Nat) ≤ maxLen; unfold maxLen; omega, .inr ⟨_, 0, rfl, b1.lt, fun i hi j hj => ?_⟩⟩
    have hi' : i < 1 := hi
    rw [b1.cell]
    match i, hi', j, hj with
    | 0, _, 0, _ => rfl
    | 0, _, 1, _ => rfl
  hdr := fun h hh => by
    simp only [progP, List.mem_cons, List.not_mem_nil, or_false] at hh
    subst hh
    refine ⟨by show (1 : Nat) ≤ _; unfold maxLen; omega, ?_, fun f hf => ?_⟩
    · exact by
          refine ⟨by show (1 : Nat) ≤ maxLen; unfold maxLen; omega, .inr ⟨_, 0, rfl, b0.lt, fun i hi j hj => ?_⟩⟩
          have hi' : i < 1 := hi
          rw [b0.cell]
          match i, hi', j, hj with
          | 0, _, 0, _ => rfl
          | 0, _, 1, _ => rfl
    · simp only [List.mem_cons, List.not_mem_nil, or_false] at hf
      subst hf
      show (1 : Nat) ≤ _; unfold maxLen; omega
  metadata := by
    refine ⟨by show (4 : Nat) ≤ maxLen; unfold maxLen; omega, .inr ⟨_, 0, rfl, b2.lt, fun i hi j hj => ?_⟩⟩
    have hi' : i < 4 := hi
    rw [b2.cell]
    match i, hi', j, hj with
    | 0, _, 0, _ => rfl
    | 0, _, 1, _ => rfl
    | 1, _, 0, _ => rfl
    | 1, _, 1, _ => rfl
    | 2, _, 0, _ => rfl
    | 2, _, 1, _ => rfl
    | 3, _, 0, _ => rfl
    | 3, _, 1, _ => rfl
  mnames := fun f hf => by
    simp only [progP, metaW, List.mem_cons, List.not_mem_nil, or_false] at hf
    rcases hf with rfl | rfl | rfl | rfl
    · show (2 : Nat) ≤ maxLen; unfold maxLen; omega
    · show (3 : Nat) ≤ maxLen; unfold maxLen; omega
    · show (4 : Nat) ≤ maxLen; unfold maxLen; omega
    · show (1 : Nat) ≤ maxLen; unfold maxLen; omega
  registers := nilw_ok _ _ _
  rnames := fun _ h => by cases h
  actions := by
    refine ⟨by show (1 : Nat) ≤ maxLen; unfold maxLen; omega, .inr ⟨_, 0, rfl, b3.lt, fun i hi j hj => ?_⟩⟩
    have hi' : i < 1 := hi
    rw [b3.cell]
    match i, hi', j, hj with
    | 0, _, 0, _ => rfl
    | 0, _, 1, _ => rfl
    | 0, _, 2, _ => rfl
  act := fun a ha => by
    simp only [progP, List.mem_cons, List.not_mem_nil, or_false] at ha
    subst ha
    exact ⟨by show (3 : Nat) ≤ _; unfold maxLen; omega, nilw_ok _ _ _, fun _ h => (by cases h), nilw_ok _ _ _, fun _ h => (by cases h)⟩
  tables := nilw_ok _ _ _
  tab := fun _ h => by cases h
  states := by
    refine ⟨by show (1 : Nat) ≤ maxLen; unfold maxLen; omega, .inr ⟨_, 0, rfl, b5.lt, fun i hi j hj => ?_⟩⟩
    have hi' : i < 1 := hi
    rw [b5.cell]
    match i, hi', j, hj with
    | 0, _, 0, _ => rfl
    | 0, _, 1, _ => rfl
    | 0, _, 2, _ => rfl
    | 0, _, 3, _ => rfl
    | 0, _, 4, _ => rfl
    | 0, _, 5, _ => rfl
    | 0, _, 6, _ => rfl
  state := fun s hs => by
    simp only [progP, List.mem_cons, List.not_mem_nil, or_false] at hs
    subst hs
    refine ⟨by show (1 : Nat) ≤ maxLen; unfold maxLen; omega, ?_, nilw_ok _ _ _⟩
    exact by
          refine ⟨by show (1 : Nat) ≤ maxLen; unfold maxLen; omega, .inr ⟨_, 0, rfl, b4.lt, fun i hi j hj => ?_⟩⟩
          have hi' : i < 1 := hi
          rw [b4.cell]
          match i, hi', j, hj with
          | 0, _, 0, _ => rfl
  control := nilw_ok _ _ _
  ctl := by show CtlsOk w []; rw [CtlsOk]; trivial
  deparser := by
    refine ⟨by show (1 : Nat) ≤ maxLen; unfold maxLen; omega, .inr ⟨_, 0, rfl, b6.lt, fun i hi j hj => ?_⟩⟩
    have hi' : i < 1 := hi
    rw [b6.cell]
    match i, hi', j, hj with
    | 0, _, 0, _ => rfl
theorem prog_acc (g : Nat) : AccSm (progP g) := ⟨by show (1 : Nat) ≤ 100; omega, fun k => by
  match k with
  | 0 => show (1 : Nat) ≤ 100; omega
  | k + 1 => show nF (progP g) (k + 1) ≤ 100; simp [nF, progP], by show (4 : Nat) ≤ 100; omega, Nat.zero_le _, Nat.le_refl _⟩
theorem prog_cap (g : Nat) : ProgCap (progP g) where
  fields := fun h hh => by
    simp only [progP, List.mem_cons, List.not_mem_nil, or_false] at hh
    subst hh
    exact Nat.le_refl _
  params := fun a ha => by
    simp only [progP, List.mem_cons, List.not_mem_nil, or_false] at ha
    subst ha
    exact Nat.le_refl _
  dep := Nat.le_refl _
  dflt := fun _ h => by cases h
  args := fun _ h => by cases h
  cases := fun s hs c hc => by
    simp only [progP, List.mem_cons, List.not_mem_nil, or_false] at hs
    subst hs
    cases hc
set_option maxRecDepth 100000 in
set_option maxHeartbeats 4000000 in
theorem prog_any (w : World) :
    Calls Tryz.prog 34 #[] w fun e w' => ∃ g, e = .returned (.agg (progCells (progP g))) ∧ ProgOk w' (progP g) ∧ Below w.heap.size w w' := by
  go_enter Tryz.func34, Tryz.ntmps34
  go_wp2
  refine bodyPost_ret (v := .agg (progCells (progP (w.heap.size + 1)))) ?_ rfl ?_
  · exact results_cell_row (fn := Tryz.f34) (p := 0) (ty := 31) rfl _ _ w.heap.size 31 (progCells (progP (w.heap.size + 1))) (0, 0) _ rfl ((((((((Blk.new _ _ _).alloc _).alloc _).alloc _).alloc _).alloc _).alloc _).alloc _) Tryz.underlying31 rfl (by kernel_rfl)
  · refine ⟨_, rfl, prog_lies ?_ ?_ ?_ ?_ ?_ ?_ ?_, ?_⟩
    · exact ((((((blk_at (by simp) _ _).alloc _).alloc _).alloc _).alloc _).alloc _).alloc _
    · exact (((((blk_at (by simp) _ _).alloc _).alloc _).alloc _).alloc _).alloc _
    · exact ((((blk_at (by simp) _ _).alloc _).alloc _).alloc _).alloc _
    · exact (((blk_at (by simp) _ _).alloc _).alloc _).alloc _
    · exact ((blk_at (by simp) _ _).alloc _).alloc _
    · exact (blk_at (by simp) _ _).alloc _
    · exact blk_at (by simp) _ _
    · exact below_alloc (below_alloc (below_alloc (below_alloc (below_alloc (below_alloc (below_alloc (below1 _ _) _) _) _) _) _) _) _
set_option maxRecDepth 100000 in
set_option maxHeartbeats 4000000 in
theorem chip_one (a b c : Int) (w : World) :
    Calls Tryz.prog 35 #[.int .i64 a, .int .i64 b, .int .i64 c] w fun e w' => e = .returned (.agg (chipCells ⟨4, 4, 4, 8, 8, a, b, c⟩)) ∧ Below w.heap.size w w' := by
  go_enter Tryz.func35, Tryz.ntmps35
  go_wp2
  refine bodyPost_ret (v := .agg (chipCells ⟨4, 4, 4, 8, 8, a, b, c⟩)) ?_ rfl ?_
  · exact results_cell_row (fn := Tryz.f35) (p := 6) (ty := 33) rfl _ _ w.heap.size 33 (chipCells ⟨4, 4, 4, 8, 8, a, b, c⟩) (0, 0) _ rfl (Blk.new _ _ _) Tryz.underlying33 rfl (by kernel_rfl)
  · exact ⟨rfl, below1 _ _⟩
end Go.Proofs.YtbfjknidinkafaaGreat
namespace Go.Proofs.YtbfjknidinkafaaGreat
open Go.RowKit

def slotsP : List SlotD := [⟨8, 0, 0, 8⟩, ⟨8, 1, 0, 1⟩, ⟨8, 2, 0, 8⟩, ⟨8, 3, 0, 8⟩, ⟨8, 1, 1, 1⟩, ⟨16, 0, 0, 12⟩, ⟨8, 1, 2, 1⟩]
def envW (g : Nat) : EnvD := ⟨⟨[true], some ⟨g, 0, none⟩, 1⟩, ⟨[⟨[7], some ⟨g + 1, 0, none⟩, 1⟩], some ⟨g + 1 + 1, 0, none⟩, 1⟩, ⟨[1, 2, 1, 4095], some ⟨g + 1 + 1 + 1, 0, none⟩, 4⟩, ⟨[], none, 0⟩⟩
theorem alloc_one (g : Nat) : allocRes (progP g) 1 ⟨4, 4, 4, 8, 8, 8, 8, 8⟩ = (slotsP, 0) := by kernel_rfl
theorem alloc_two (g : Nat) : allocRes (progP g) 1 ⟨4, 4, 4, 8, 8, 8, 0, 0⟩ = ([], 10) := by kernel_rfl
theorem usage_one : usageS slotsP 8 = 4 ∧ usageS slotsP 16 = 1 ∧ usageS slotsP 32 = 0 := by decide +kernel
theorem load_one (g h : Nat) : loadM slotsP (valsM (progP g) (envW h).bare ++ [true].map bitI) = ⟨[7, 7, 1, 2], [4095], []⟩ := by kernel_rfl
def slotCs : Array Value := #[.int .i64 8, .int .i64 0, .int .i64 0, .int .i64 8, .int .i64 8, .int .i64 1, .int .i64 0, .int .i64 1, .int .i64 8, .int .i64 2, .int .i64 0, .int .i64 8, .int .i64 8, .int .i64 3, .int .i64 0, .int .i64 8, .int .i64 8, .int .i64 1, .int .i64 1, .int .i64 1, .int .i64 16, .int .i64 0, .int .i64 0, .int .i64 12, .int .i64 8, .int .i64 1, .int .i64 2, .int .i64 1]
theorem slots_lie {w : World} {g : Nat} (b : Blk w g 48 slotCs) : LOk w 4 SlotD.cells ⟨slotsP, some ⟨g, 0, none⟩, 7⟩ := by
  refine ⟨by show (7 : Nat) ≤ maxLen; unfold maxLen; omega, .inr ⟨_, 0, rfl, b.lt, fun i hi j hj => ?_⟩⟩
  have hi' : i < 7 := hi
  rw [b.cell]
  match i, hi', j, hj with
  | 0, _, 0, _ => rfl
  | 0, _, 1, _ => rfl
  | 0, _, 2, _ => rfl
  | 0, _, 3, _ => rfl
  | 1, _, 0, _ => rfl
  | 1, _, 1, _ => rfl
  | 1, _, 2, _ => rfl
  | 1, _, 3, _ => rfl
  | 2, _, 0, _ => rfl
  | 2, _, 1, _ => rfl
  | 2, _, 2, _ => rfl
  | 2, _, 3, _ => rfl
  | 3, _, 0, _ => rfl
  | 3, _, 1, _ => rfl
  | 3, _, 2, _ => rfl
  | 3, _, 3, _ => rfl
  | 4, _, 0, _ => rfl
  | 4, _, 1, _ => rfl
  | 4, _, 2, _ => rfl
  | 4, _, 3, _ => rfl
  | 5, _, 0, _ => rfl
  | 5, _, 1, _ => rfl
  | 5, _, 2, _ => rfl
  | 5, _, 3, _ => rfl
  | 6, _, 0, _ => rfl
  | 6, _, 1, _ => rfl
  | 6, _, 2, _ => rfl
  | 6, _, 3, _ => rfl
theorem u4_lie {w : World} {g : Nat} {a b c d : Int} (h : Blk w g 83 #[.int .u32 a, .int .u32 b, .int .u32 c, .int .u32 d]) : LOk w 1 ucell ⟨[a, b, c, d], some ⟨g, 0, none⟩, 4⟩ := by
  refine ⟨by show (4 : Nat) ≤ maxLen; unfold maxLen; omega, .inr ⟨_, 0, rfl, h.lt, fun i hi j hj => ?_⟩⟩
  have hi' : i < 4 := hi
  rw [h.cell]
  match i, hi', j, hj with
  | 0, _, 0, _ => rfl
  | 1, _, 0, _ => rfl
  | 2, _, 0, _ => rfl
  | 3, _, 0, _ => rfl
theorem u1_lie {w : World} {g : Nat} {a : Int} (h : Blk w g 83 #[.int .u32 a]) : LOk w 1 ucell ⟨[a], some ⟨g, 0, none⟩, 1⟩ := by
  refine ⟨by show (1 : Nat) ≤ maxLen; unfold maxLen; omega, .inr ⟨_, 0, rfl, h.lt, fun i hi j hj => ?_⟩⟩
  have hi' : i < 1 := hi
  rw [h.cell]
  match i, hi', j, hj with
  | 0, _, 0, _ => rfl
theorem b1_lie {w : World} {g : Nat} {a : Bool} (h : Blk w g 4 #[.bool a]) : LOk w 1 bcell ⟨[a], some ⟨g, 0, none⟩, 1⟩ := by
  refine ⟨by show (1 : Nat) ≤ maxLen; unfold maxLen; omega, .inr ⟨_, 0, rfl, h.lt, fun i hi j hj => ?_⟩⟩
  have hi' : i < 1 := hi
  rw [h.cell]
  match i, hi', j, hj with
  | 0, _, 0, _ => rfl
theorem l1_lie {w : World} {g k : Nat} (h : Blk w g 53 #[.slice (some ⟨k, 0, none⟩) 1 1]) : LOk w 1 lcell ⟨[⟨[7], some ⟨k, 0, none⟩, 1⟩], some ⟨g, 0, none⟩, 1⟩ := by
  refine ⟨by show (1 : Nat) ≤ maxLen; unfold maxLen; omega, .inr ⟨_, 0, rfl, h.lt, fun i hi j hj => ?_⟩⟩
  have hi' : i < 1 := hi
  rw [h.cell]
  match i, hi', j, hj with
  | 0, _, 0, _ => rfl
theorem env_lies {w : World} {g : Nat} (b0 : Blk w g 4 #[.bool true]) (b1 : Blk w (g + 1) 83 #[.int .u32 7]) (b2 : Blk w (g + 1 + 1) 53 #[.slice (some ⟨g + 1, 0, none⟩) 1 1])
    (b3 : Blk w (g + 1 + 1 + 1) 83 #[.int .u32 1, .int .u32 2, .int .u32 1, .int .u32 4095]) : EnvOk w (envW g) :=
  ⟨⟨b1_lie b0, fun h => by cases h⟩, ⟨l1_lie b2, fun h => by cases h⟩, fun x hx => by
    simp only [envW, List.mem_cons, List.not_mem_nil, or_false] at hx
    subst hx
    exact ⟨u1_lie b1, fun h => by cases h⟩, ⟨u4_lie b3, fun h => by cases h⟩, ⟨⟨Nat.zero_le _, .inl rfl⟩, fun _ => rfl⟩⟩
theorem alloc_p1 (g : Nat) (w : World) (o : ProgOk w (progP g)) : Calls Tryz.prog 11 #[.agg (progCells (progP g)), .int .i64 1, .agg (chipCells ⟨4, 4, 4, 8, 8, 8, 8, 8⟩)] w fun e w' =>
    ∃ A cp, e = .returned (.tuple #[.slice A 7 cp, .int .i64 0]) ∧ LOk w' 4 SlotD.cells ⟨slotsP, A, cp⟩ ∧ Below w.heap.size w w' := by
  refine (alloc_any (progP g) 1 ⟨4, 4, 4, 8, 8, 8, 8, 8⟩ w o (prog_acc g) (prog_cap g) (Nat.zero_le _)).mono ?_
  intro e w' h
  unfold AllocEnd at h
  rw [alloc_one] at h
  obtain ⟨A, cp, he, ho, hb⟩ := h
  obtain ⟨A', c', hv, _, hl, _⟩ := own_list (cells := SlotD.cells) (l := slotsP) (fun _ => rfl) ho
  injection hv with h1 _ h2
  subst h1 h2
  exact ⟨_, _, he, hl, hb⟩
theorem alloc_p2 (g : Nat) (w : World) (o : ProgOk w (progP g)) : Calls Tryz.prog 11 #[.agg (progCells (progP g)), .int .i64 1, .agg (chipCells ⟨4, 4, 4, 8, 8, 8, 0, 0⟩)] w fun e w' =>
    ∃ A cp, e = .returned (.tuple #[.slice A 0 cp, .int .i64 10]) ∧ Below w.heap.size w w' := by
  refine (alloc_any (progP g) 1 ⟨4, 4, 4, 8, 8, 8, 0, 0⟩ w o (prog_acc g) (prog_cap g) (Nat.zero_le _)).mono ?_
  intro e w' h
  unfold AllocEnd at h
  rw [alloc_two] at h
  obtain ⟨A, cp, he, _, hb⟩ := h
  exact ⟨A, cp, he, hb⟩
theorem usage_p (A : Option Addr) (cp : Nat) (w : World) (h : LOk w 4 SlotD.cells ⟨slotsP, A, cp⟩) : Calls Tryz.prog 24 #[.slice A 7 cp] w fun e w' => e = .returned (.tuple #[.int .i64 4, .int .i64 1, .int .i64 0]) ∧ Below w.heap.size w w' := by
  have h1 := pusage_any ⟨slotsP, A, cp⟩ w h (by show (7 : Nat) ≤ 1000; omega)
  simp only [usage_one.1, usage_one.2.1, usage_one.2.2] at h1
  exact h1
theorem load_p (g h : Nat) (A : Option Addr) (cp k : Nat) (w : World) (o : ProgOk w (progP g)) (hx : LOk w 4 SlotD.cells ⟨slotsP, A, cp⟩) (oe : EnvOk w (envW h)) (hb : LOk w 1 bcell ⟨[true], some ⟨k, 0, none⟩, 1⟩) :
    Calls Tryz.prog 22 #[.agg (progCells (progP g)), .slice A 7 cp, .agg (envCells (envW h)), .slice (some ⟨k, 0, none⟩) 1 1] w fun e w' =>
      ∃ A8 c8 A16 c16 A32 c32, e = .returned (.agg #[.slice A8 4 c8, .slice A16 1 c16, .slice A32 0 c32]) ∧ LOk w' 1 ucell ⟨[7, 7, 1, 2], A8, c8⟩ ∧ LOk w' 1 ucell ⟨[4095], A16, c16⟩ ∧ Below w.heap.size w w' := by
  refine (pload_any (progP g) ⟨slotsP, A, cp⟩ (envW h) ⟨[true], some ⟨k, 0, none⟩, 1⟩ w o (prog_acc g) hx (by show (7 : Nat) ≤ 1000; omega) oe hb).mono ?_
  rintro e w' ⟨y, rfl, hy, ⟨h8, h16, _⟩, hbl⟩
  rw [load_one] at hy
  obtain ⟨⟨l8, A8, c8⟩, ⟨l16, A16, c16⟩, ⟨l32, A32, c32⟩⟩ := y
  simp only [ConD.bare, ConM.mk.injEq] at hy
  obtain ⟨rfl, rfl, rfl⟩ := hy
  exact ⟨A8, c8, A16, c16, A32, c32, rfl, h8.1, h16.1, hbl⟩
theorem says_true {e : Ending} {p : Prop} (h : Says e p) (hp : p) : e = .returned (.bool true) := by
  obtain ⟨b, he, hb⟩ := h
  rw [he, hb.2 hp]
theorem eqs_p (A : Option Addr) (cp g : Nat) (w : World) (h : LOk w 4 SlotD.cells ⟨slotsP, A, cp⟩) (b : Blk w g 48 slotCs) : Calls Tryz.prog 13 #[.slice A 7 cp, .slice (some ⟨g, 0, none⟩) 7 7] w fun e w' => e = .returned (.bool true) ∧ Below w.heap.size w w' :=
  (equal_slots ⟨slotsP, A, cp⟩ ⟨slotsP, some ⟨g, 0, none⟩, 7⟩ w h (slots_lie b)).mono fun _ _ hh => ⟨says_true hh.1 rfl, hh.2⟩
theorem eq4_p (A : Option Addr) (cp g : Nat) (w : World) (h : LOk w 1 ucell ⟨[7, 7, 1, 2], A, cp⟩) (b : Blk w g 83 #[.int .u32 7, .int .u32 7, .int .u32 1, .int .u32 2]) : Calls Tryz.prog 36 #[.slice A 4 cp, .slice (some ⟨g, 0, none⟩) 4 4] w fun e w' => e = .returned (.bool true) ∧ Below w.heap.size w w' :=
  (equal_u32s ⟨[7, 7, 1, 2], A, cp⟩ ⟨[7, 7, 1, 2], some ⟨g, 0, none⟩, 4⟩ w h (u4_lie b)).mono fun _ _ hh => ⟨says_true hh.1 rfl, hh.2⟩
theorem eq1_p (A : Option Addr) (cp g : Nat) (w : World) (h : LOk w 1 ucell ⟨[4095], A, cp⟩) (b : Blk w g 83 #[.int .u32 4095]) : Calls Tryz.prog 36 #[.slice A 1 cp, .slice (some ⟨g, 0, none⟩) 1 1] w fun e w' => e = .returned (.bool true) ∧ Below w.heap.size w w' :=
  (equal_u32s ⟨[4095], A, cp⟩ ⟨[4095], some ⟨g, 0, none⟩, 1⟩ w h (u1_lie b)).mono fun _ _ hh => ⟨says_true hh.1 rfl, hh.2⟩
set_option maxRecDepth 100000 in
set_option maxHeartbeats 16000000 in
theorem works36_any (w : World) : Calls Tryz.prog 10 #[] w fun e w' => e = .returned (.bool true) ∧ Below w.heap.size w w' := by
  go_enter Tryz.func10, Tryz.ntmps10
  go_wp2_with fail
  refine (prog_any w).mono ?_
  rintro e w1 ⟨g, rfl, o1, hb1⟩
  go_wp2_with fail
  refine (chip_one 8 8 8 w1).mono ?_
  rintro e w2 ⟨rfl, hb2⟩
  go_wp2_with fail
  refine (alloc_p1 g w2 (o1.below hb2)).mono ?_
  rintro e w3 ⟨A, cp, rfl, hx3, hb3⟩
  have HB3 := Lib.hid (below_step (below_step hb1 hb2) hb3)
  have HX3 := Lib.hid hx3
  clear o1 hb1 hb2 hx3 hb3
  go_wp2_with fail
  refine (prog_any w3).mono ?_
  rintro e w4 ⟨g4, rfl, o4, hb4⟩
  go_wp2_with fail
  refine (chip_one 8 0 0 w4).mono ?_
  rintro e w5 ⟨rfl, hb5⟩
  go_wp2_with fail
  refine (alloc_p2 g4 w5 (o4.below hb5)).mono ?_
  rintro e w6 ⟨A6, cp6, rfl, hb6⟩
  have HB6 := Lib.hid (below_step HB3.out (below_step (below_step hb4 hb5) hb6))
  have HX6 := Lib.hid (HX3.out.below (below_step (below_step hb4 hb5) hb6) (Nat.le_refl _))
  clear o4 hb4 hb5 hb6 HB3 HX3
  go_wp2_with fail
  refine (usage_p A cp w6 HX6.out).mono ?_
  rintro e w7 ⟨rfl, hb7⟩
  have HB7 := Lib.hid (below_step HB6.out hb7)
  have HX7 := Lib.hid (HX6.out.below hb7 (Nat.le_refl _))
  clear hb7 HB6 HX6
  go_wp2_with fail
  refine (prog_any w7).mono ?_
  rintro e w8 ⟨g8, rfl, o8, hb8⟩
  have HB8 := Lib.hid (below_step HB7.out hb8)
  have HX8 := Lib.hid (HX7.out.below hb8 (Nat.le_refl _))
  have HO8 := Lib.hid o8
  clear o8 hb8 HB7 HX7
  go_wp2_with fail
  have hB5 : ∀ o1 o2 o3 o4 o5, Below w8.heap.size w8 (((((w8.alloc o1).alloc o2).alloc o3).alloc o4).alloc o5) := fun _ _ _ _ _ => below_alloc (below_alloc (below_alloc (below_alloc (below1 _ _) _) _) _) _
  refine (load_p g8 w8.heap.size A cp _ _ (HO8.out.below (hB5 _ _ _ _ _)) (HX8.out.below (hB5 _ _ _ _ _) (Nat.le_refl _)) ?e ?b).mono ?m
  case e =>
    refine env_lies ?_ ?_ ?_ ?_
    · exact ((((Blk.new _ _ _).alloc _).alloc _).alloc _).alloc _
    · exact (((blk_at (by simp) _ _).alloc _).alloc _).alloc _
    · exact ((blk_at (by simp) _ _).alloc _).alloc _
    · exact (blk_at (by simp) _ _).alloc _
  case b => exact b1_lie (blk_at (by simp) _ _)
  case m =>
  rintro e w9 ⟨A8, c8, A16, c16, A32, c32, rfl, h8, h16, hb9⟩
  have HB9 := Lib.hid (below_step HB8.out (below_step (hB5 _ _ _ _ _) hb9))
  have HX9 := Lib.hid (HX8.out.below (below_step (hB5 _ _ _ _ _) hb9) (Nat.le_refl _))
  have H8 := Lib.hid h8
  have H16 := Lib.hid h16
  clear hB5 HO8 HB8 HX8 h8 h16 hb9
  go_wp2_with fail
  have hB2 : ∀ o1 o2, Below w9.heap.size w9 ((w9.alloc o1).alloc o2) := fun _ _ => below_alloc (below1 _ _) _
  refine (eqs_p A cp (w9.heap.size + 1) _ (HX9.out.below (hB2 _ _) (Nat.le_refl _)) (blk_at (by simp) _ _)).mono ?_
  rintro e w10 ⟨rfl, hb10⟩
  have hk : Blk w10 w9.heap.size 64 #[.slice A8 4 c8, .slice A16 1 c16, .slice A32 0 c32] := ((Blk.new _ _ _).alloc _).below hb10 (by simp; omega)
  have HB10 := Lib.hid (below_step HB9.out (below_step (hB2 _ _) hb10))
  have H8b := Lib.hid (H8.out.below (below_step (hB2 _ _) hb10) (Nat.le_refl _))
  have H16b := Lib.hid (H16.out.below (below_step (hB2 _ _) hb10) (Nat.le_refl _))
  have s0 : w10.cell? ⟨w9.heap.size, 0, none⟩ = some (.slice A8 4 c8) := hk.cell 0
  have HK := Lib.hid hk
  clear hb10 hB2 HX9 HB9 H8 H16 hk
  go_wp2_with fail
  refine (eq4_p A8 c8 w10.heap.size _ (H8b.out.below (below1 _ _) (Nat.le_refl _)) (Blk.new _ _ _)).mono ?_
  rintro e w11 ⟨rfl, hb11⟩
  have HB11 := Lib.hid (below_step HB10.out (below_step (below1 _ _) hb11))
  have H16c := Lib.hid (H16b.out.below (below_step (below1 _ _) hb11) (Nat.le_refl _))
  have s1 : w11.cell? ⟨w9.heap.size, 1, none⟩ = some (.slice A16 1 c16) := (HK.out.below (below_step (below1 _ _) hb11) HK.out.lt).cell 1
  clear hb11 HB10 H8b H16b s0 HK
  go_wp2_with fail
  refine (eq1_p A16 c16 w11.heap.size _ (H16c.out.below (below1 _ _) (Nat.le_refl _)) (Blk.new _ _ _)).mono ?_
  rintro e w12 ⟨rfl, hb12⟩
  have HB12 := Lib.hid (below_step HB11.out (below_step (below1 _ _) hb12))
  clear hb12 HB11 H16c s1
  go_wp2
  go_ret
  exact ⟨rfl, HB12.out⟩
end Go.Proofs.YtbfjknidinkafaaGreat
