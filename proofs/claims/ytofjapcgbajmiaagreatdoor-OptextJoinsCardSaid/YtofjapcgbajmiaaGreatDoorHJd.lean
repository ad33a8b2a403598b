/- The walk of optext.call: the text of a call. No condition but that the program and the call lie in memory, the numbers are of their kinds and few, and the table of powers of ten is laid. The walk of call of optext's reader. No condition but that the tokens and the program lie in memory. What a good operation on a valid program is like: names, lists, numbers: plain. No condition. The walks of the reference's FormatInt, FormatUint32, ParseInt. No condition but the range and the length of the text. The walks of optext.format and optext.Format. No condition but that the program and the operation lie in memory, the numbers are of their kinds, and the table of powers of ten is laid. The walk of operation of optext's reader. No condition but that the tokens and the program lie in memory and the tokens are short. The walk of newReader of optext. No condition but that the tokens and the program lie in memory. -/
import Derived.Test.YtofjapcgbajmiaaGreatDoorShelf
import Derived.Maps.AppendAt
import Derived.Laws.OwnMore
import Derived.Deep.CutRange
import Derived.Deep.CutBlock
import Derived.Maps.OwnSet
import Derived.Test.YtofjapcgbajmiaaGreatDoorHJc
namespace Go.Proofs.YtofjapcgbajmiaaGreatDoor
open Go.RowKit
def decS (v : Int) : ByteArray := ⟨(decI v).toArray⟩
theorem decS_list (l : List Int) : (l.map decS).map (fun s => s.data.toList) = l.map decI := by
  rw [List.map_map]; rfl
theorem join_any (l : List ByteArray) (sep : ByteArray) (w : World) {B : Nat} {A : Option Addr} {c : Nat} (h : w.ownsRow B 9 1 (.slice A l.length c) l.length (strs l)) (hN : l.length ≤ 1000) (hlen : (Lib.join (l.map (·.data.toList)) sep.data.toList).length ≤ 140737488355328) :
    Calls Tryz.prog 48 #[.slice A l.length c, .string sep] w fun e w' => e = .returned (.string ⟨(Lib.join (l.map (·.data.toList)) sep.data.toList).toArray⟩) ∧ Below w.heap.size w w' := by
  have hs : Strs w A c l := OwnStrs.strs (w := w) (B := B) (A := A) (c := c) (l := l) h
  rcases hs with h0 | ⟨g, rfl, h1, h2, h3⟩
  · obtain rfl := List.length_eq_zero_iff.1 h0
    exact (Tryz.strings_Join_none A c sep w).mono fun e w' h => ⟨h.1, by rw [h.2]; exact Below.refl _ _⟩
  · refine Tryz.strings_Join g 0 c l sep w (fun j x hx => ?_) h1 (by omega) h2 hlen
    have hj := (List.getElem?_eq_some_iff.1 hx).1
    rw [h3 j hj, List.getD_eq_getElem?_getD, hx]; rfl
theorem decI_len20 (v : Int) : (decI v).length ≤ 20 := decD_len 20 _
theorem join_len : ∀ (l : List (List UInt8)) (sep : List UInt8) (b : Nat), (∀ x ∈ l, x.length ≤ b) → (Lib.join l sep).length ≤ (b + sep.length) * l.length
  | [], sep, b, _ => by simp [Lib.join, List.intercalate]
  | x :: r, sep, b, h => by
    rw [Lib.join_cons, List.length_append]
    have h1 := h x (List.mem_cons_self ..)
    have h2 : (Lib.joinTail sep r).length ≤ (b + sep.length) * r.length := by
      clear h1
      replace h := fun y hy => h y (List.mem_cons_of_mem _ hy)
      induction r with
      | nil => simp [Lib.joinTail]
      | cons y r ih =>
        have h3 := h y (List.mem_cons_self ..)
        have h4 := ih fun z hz => h z (List.mem_cons_of_mem _ hz)
        simp only [Lib.joinTail, List.map_cons, List.flatten_cons, List.length_append, List.length_cons] at h4 ⊢
        rw [Nat.mul_succ]; omega
    rw [List.length_cons, Nat.mul_succ]; omega
theorem fmtU_any (v : Int) (hv : (Lit.int .u32 v).wf = true) (w : World) (ht : Tab w) : Calls Tryz.prog 46 #[.int .u32 v] w fun e w' => e = .returned (.string (decS v)) ∧ Below w.heap.size w w' := by
  obtain ⟨n, rfl, hn⟩ := wf_u32 hv
  exact fmtUint32_any n hn w ht
theorem call_str (p : ProgD) {a : Nat} (ha : a < p.actions.l.length) (l : List Int) (nm : ByteArray) (hn : p.actions.l[a].name = nm) :
    (nm ++ (⟨#[40]⟩ : ByteArray) ++ (⟨(Lib.join ((l.map decS).map (·.data.toList)) [44, 32]).toArray⟩ : ByteArray) ++ (⟨#[41]⟩ : ByteArray)) = ⟨(callT p a l).toArray⟩ := by
  subst hn
  have e : nameA p (a : Int) = p.actions.l[a].name.data.toList := by rw [nameA, Int.toNat_natCast, List.getElem?_eq_getElem ha]; rfl
  apply ByteArray.ext
  rw [decS_list, callT, e, argsX]
  apply Array.ext'
  simp
set_option maxRecDepth 100000 in
set_option maxHeartbeats 8000000 in
theorem ocallT_any (p : ProgD) (a : Nat) (ha : a < p.actions.l.length) (y : L Int) (w : World) (o : ProgOk w p) (hy : LOk w 1 ucell y) (hu : ∀ v ∈ y.l, (Lit.int .u32 v).wf = true) (hl : y.l.length ≤ 100) (hnz : p.actions.l[a].name.size ≤ 1000) (ht : Tab w) :
    Calls Tryz.prog 47 #[.agg (progCells p), .agg #[.int .i64 a, .slice y.A y.l.length y.c]] w fun e w' => e = .returned (.string ⟨(callT p a y.l).toArray⟩) ∧ Below w.heap.size w w' := by
  obtain ⟨W, hW, hw, HB, hp⟩ := box2 w (progCells p) 31 #[.int .i64 a, .slice y.A y.l.length y.c] 35
  have HW := Lib.hid hw
  have HY := Lib.hid (hy.below hw (Nat.le_refl _))
  have HT := Lib.hid (ht.base hw)
  have HU := Lib.hid hu
  obtain ⟨g, of, hA, hq⟩ := ActD.atA (o.actions.below hw (Nat.le_refl _)) ha
  have hn1 : (a : Int) < (p.actions.l.length : Int) := by omega
  have HCS := Lib.hid (fun (nm : ByteArray) (hn : p.actions.l[a].name = nm) => call_str p ha y.l nm hn)
  have HQ := Lib.hid (fun w' (h : Below W.heap.size W w') => (hq w' h).1)
  clear o hw hy hu ht hq
  obtain ⟨yl, yA, yc⟩ := y
  simp only at HY HU HCS hl hp ⊢
  simp only [progCells, hA] at hp hW ⊢
  obtain ⟨nm, hnm⟩ : ∃ nm, nm = p.actions.l[a].name := ⟨_, rfl⟩
  rw [← hnm] at HQ hnz
  replace HCS := Lib.hid (HCS.out nm hnm.symm)
  generalize (⟨(callT p a yl).toArray⟩ : ByteArray) = R at *
  clear hA hnm
  obtain ⟨i0, hi, hz0, hz1, hz2⟩ := info_parts Tryz.infoString
  go_enter Tryz.func47, Tryz.ntmps47
  go_upto_region 1 with fail
  rw [← hW]
  clear hW
  have hp3 := (hp W HB).1
  have hp4 := (hp W HB).2
  go_wp2
  have HB0 := Lib.hid HB
  clear hp3 hp4 HB
  go_loopw [5, 7, 11] (fun lv _ iv wr => ∃ (k : Nat) (A : Option Addr) (c : Nat), k ≤ yl.length ∧ iv = .int .i64 k ∧ lv = .slice A k c ∧ Hid (wr.ownsRow W.heap.size 9 1 (.slice A k c) k (strs ((yl.take k).map decS))) ∧ Below W.heap.size W wr)
    (fun _ _ i _ => yl.length - (intOf i).toNat)
  case atStart => exact ⟨0, none, 0, Nat.zero_le _, rfl, rfl, Lib.hid (World.ownsRow_nil _ _ _ _), HB0.out⟩
  case round =>
    obtain ⟨k, A, c, hk, rfl, rfl, HO, HB⟩ := hrel
    by_cases hlt : k < yl.length
    · obtain ⟨g2, of2, hA2, d0⟩ := ucell_at (HY.out.below HB (Nat.le_refl _)) hlt
      simp only at hA2 d0
      subst hA2
      have HF := Lib.hid (fun u (hb : Below W.heap.size W u) => fmtU_any yl[k] (HU.out _ (List.getElem_mem hlt)) u (HT.out.base hb))
      have HTk : Hid (strs ((yl.take (k + 1)).map decS) = strs ((yl.take k).map decS) ++ [.string (decS yl[k])]) := Lib.hid (by
        rw [take_snoc yl k hlt, List.map_append, strs, List.map_append]; rfl)
      generalize yl[k] = v at *
      have HBE := Lib.hid HB
      clear HB
      go_wp2_with fail
      refine (HF.out _ HBE.out).mono ?_
      rintro e w1 ⟨rfl, hb1⟩
      have hown1 := own_below HO.out hb1
      have hbel1 := below_step HBE.out hb1
      clear hb1 d0 HF HO
      go_wp2_with (first
        | (at_builtin; refine wpList_append_own _ rfl _ _ 86 rfl W.heap.size 9 i0 _ 1 16 Tryz.underlying86 hi hz0 hz1 hz2 rfl (by decide) _ _ _ rfl (hown1.alloc _) ⟨w1.heap.size, 0, none⟩ 1 1 [.string (decS v)] rfl rfl ?c1 ?c2 ?c3 ?c4 ?c5 ?_))
      case c1 => exact one_str _ _ _
      case c2 => intro u hu; simp at hu; subst hu; rfl
      case c3 => unfold maxLen; omega
      case c4 => omega
      case c5 => have := hbel1.size; simp; omega
      intro v' w2 hown2 hgrow _
      have hbel2 : Below W.heap.size W w2 := (hbel1.alloc hbel1.size _).grown hgrow (hbel1.alloc hbel1.size _).size fun j hj => (hown1.lt j hj).1
      obtain ⟨A', c', rfl⟩ := row_sliceO hown2
      have HO2 : Hid (w2.ownsRow W.heap.size 9 1 (.slice A' (k + 1) c') (k + 1) (strs ((yl.take (k + 1)).map decS))) := Lib.hid (by rw [HTk.out, List.map_take]; exact hown2)
      clear hown2 hgrow hown1 hbel1 HTk
      go_wp2
      go_roundw
      case rel => exact ⟨k + 1, A', c', by omega, by go_num, rfl, HO2, hbel2⟩
      case measure => simp [intOf]; omega
    · have e : k = yl.length := by omega
      have HJ : Hid (∀ u, Below wr.heap.size wr u → Calls Tryz.prog 48 #[.slice A k c, .string ⟨#[44, 32]⟩] u fun e w' => e = .returned (.string ⟨(Lib.join ((yl.map decS).map (·.data.toList)) [44, 32]).toArray⟩) ∧ Below u.heap.size u w') := Lib.hid (fun u hb => by
        have h1 := own_below HO.out hb
        rw [e, List.take_length] at h1
        have h2 : yl.length = (yl.map decS).length := by simp
        have h3 := join_any (yl.map decS) ⟨#[44, 32]⟩ u (B := W.heap.size) (A := A) (c := c) (by rw [← h2]; exact h1) (by rw [← h2]; omega) (by
          refine Nat.le_trans (join_len _ _ 20 ?_) ?_
          · intro x hx
            rw [decS_list] at hx
            obtain ⟨v, _, rfl⟩ := List.mem_map.1 hx
            exact decI_len20 v
          · simp only [List.length_map]
            have : (20 + [(44 : UInt8), 32].length) * yl.length ≤ 22 * 100 := Nat.mul_le_mul (Nat.le_refl _) hl
            show (20 + [(44 : UInt8), 32].length) * yl.length ≤ _
            omega)
        rw [← h2, ← e] at h3
        exact h3)
      have HJl : Hid ((Lib.join ((yl.map decS).map (·.data.toList)) [44, 32]).length ≤ 2300) := Lib.hid (by
        refine Nat.le_trans (join_len _ _ 20 ?_) ?_
        · intro x hx
          rw [decS_list] at hx
          obtain ⟨v, _, rfl⟩ := List.mem_map.1 hx
          exact decI_len20 v
        · simp only [List.length_map]
          have : (20 + [(44 : UInt8), 32].length) * yl.length ≤ 22 * 100 := Nat.mul_le_mul (Nat.le_refl _) hl
          show (20 + [(44 : UInt8), 32].length) * yl.length ≤ _
          omega)
      obtain ⟨JS, hJS⟩ : ∃ JS : ByteArray, JS = ⟨(Lib.join ((yl.map decS).map (·.data.toList)) [44, 32]).toArray⟩ := ⟨_, rfl⟩
      have hjz : JS.size ≤ 2300 := by rw [hJS]; exact HJl.out
      have hcs := HCS.out
      rw [← hJS] at HJ hcs
      clear hJS HJl
      have HCSx := Lib.hid hcs
      clear hcs
      have b1 : (⟨#[40]⟩ : ByteArray).size = 1 := rfl
      have b2 : (⟨#[41]⟩ : ByteArray).size = 1 := rfl
      have z1 : ¬ (nm.size + (⟨#[40]⟩ : ByteArray).size > 9223372036854775807) := by omega
      have z2 : ¬ (nm.size + 1 > 9223372036854775807) := by omega
      have z3 : ¬ (nm.size + 1 + JS.size > 9223372036854775807) := by omega
      have z4 : ¬ (nm.size + 1 + JS.size + 1 > 9223372036854775807) := by omega
      have z5 : ¬ ((nm ++ (⟨#[40]⟩ : ByteArray)).size + JS.size > 9223372036854775807) := by rw [ByteArray.size_append]; omega
      have z6 : ¬ ((nm ++ (⟨#[40]⟩ : ByteArray) ++ JS).size + (⟨#[41]⟩ : ByteArray).size > 9223372036854775807) := by rw [ByteArray.size_append, ByteArray.size_append]; omega
      clear b1 b2
      go_upto_region 7 with fail
      have H0 := Lib.hid (Below.refl wr.heap.size wr)
      have HBE := Lib.hid HB
      have hp3 := fun u (hb : Below wr.heap.size wr u) => (hp u (below_step HBE.out hb)).1
      have hp4 := fun u (hb : Below wr.heap.size wr u) => (hp u (below_step HBE.out hb)).2
      have hq3 := fun u (hb : Below wr.heap.size wr u) => HQ.out u (below_step HBE.out hb)
      clear HB e
      go_region_held3 (fun w' => Below wr.heap.size wr w') (first | exact H0.out | exact below_drew H0.out | (exact below_step (by assumption) (by assumption)) | assumption)
        (first | (go_at_call 48; refine (HJ.out _ (by assumption)).mono ?_; rintro e w1 ⟨rfl, hb1⟩))
      have HB5 : Hid (Below wr.heap.size wr _) := Lib.hid (by assumption)
      go_wp2
      go_ret
      exact ⟨by rw [← HCSx.out]; rfl, below_step HW.out (below_step HBE.out HB5.out)⟩
end Go.Proofs.YtofjapcgbajmiaaGreatDoor
namespace Go.Proofs.YtofjapcgbajmiaaGreatDoor
open Go.RowKit
set_option maxRecDepth 100000 in
set_option maxHeartbeats 2000000 in
theorem call_name (r : OR) (gB : Nat) : NamesF 199 (r.p.actions.l.map ActD.name) r gB := by
  intro u e i hi hR hB hP
  have hi' : i < r.p.actions.l.length := by simpa using hi
  obtain ⟨g, of, hA, hall⟩ := ActD.atA hP.actions hi'
  obtain ⟨d0, d1, d2⟩ := hall u (Below.refl _ _)
  have c4 : u.cell? ⟨r.gR, 4, none⟩ = some (.slice r.p.actions.A r.p.actions.l.length r.p.actions.c) := hR.cell 4
  have cB : u.cell? ⟨gB, 0, none⟩ = some (.pointer (some ⟨r.gR, 0, none⟩)) := hB.cell 0
  have HN := Lib.hid (show (r.p.actions.l.map ActD.name)[i] = r.p.actions.l[i].name from List.getElem_map _)
  have hlt : (i : Int) < (r.p.actions.l.length : Int) := by omega
  rw [hA] at c4
  rw [HN.out]
  generalize r.p.actions.l[i] = y at *
  obtain ⟨nm, pl, bl⟩ := y
  simp only at d0 ⊢
  clear hall hR hB hP hA d1 d2 HN
  go_enter Tryz.func199, Tryz.ntmps199
  go_wp2
  go_ret
  exact ⟨rfl, rfl⟩
def ActSt (b0 : Nat) (r : OR) (u : World) : Prop := u.cell? ⟨b0, 0, none⟩ = some (pR r) ∧ u.cell? ⟨r.gR, 4, none⟩ = some (.slice r.p.actions.A r.p.actions.l.length r.p.actions.c)
theorem actSt_of {W w0 u : World} {r : OR} {s : PS} {b0 : Nat} (h : OSt W w0 u r s) (hb : Blk u b0 120 #[pR r]) : ActSt b0 r u := by
  obtain ⟨a, e, h1, _⟩ := h.ex
  exact ⟨hb.cell 0, h1.cell 4⟩
theorem one_u32 {w : World} {g : Nat} {v : Int} (h : Blk w g 66 #[.int .u32 v]) : LOk w 1 ucell ⟨[v], some ⟨g, 0, none⟩, 1⟩ := by
  refine ⟨by unfold maxLen; simp, .inr ⟨g, 0, rfl, h.lt, fun i hi j hj => ?_⟩⟩
  have hi' : i < 1 := hi
  rw [h.cell]
  match i, hi', j, hj with
  | 0, _, 0, _ => rfl
theorem one_uc : ∀ (v : Int), ∀ c ∈ ucell v, c.oneCell' = true := by
  intro v c hc
  simp only [ucell, List.mem_cons, List.not_mem_nil, or_false] at hc
  subst hc; rfl
theorem args_bad (ts : List Tk) (n : Nat) (f : Bool) (acc : List Int) (e : Nat) : argsA ts n f acc (.bad e) = (acc, .bad e) := by
  cases n <;> rfl
theorem args_ok (ts : List Tk) (n : Nat) (f : Bool) (acc : List Int) (i : Nat) : argsA ts (n + 1) f acc (.ok i) = if (nxt ts i).text = [41] then (acc, .ok i)
    else argsA ts n false (acc ++ [((numA ts (if f then .ok i else stepA ts 3 [44] (.ok i))).1 : Int)]) (numA ts (if f then .ok i else stepA ts 3 [44] (.ok i))).2 := rfl
def leftC : Option Value → Nat
  | some v => leftO v
  | none => 0
def CallEnd (W w : World) (r : OR) (R : (Int × List Int) × PS) (e : Ending) (w' : World) : Prop :=
  ∃ A c, e = .returned (.agg #[.int .i64 R.1.1, .slice A R.1.2.length c]) ∧ LOk w' 1 ucell ⟨R.1.2, A, c⟩ ∧ (∀ ad, A = some ad → w.heap.size ≤ ad.block) ∧ OSt W w w' r R.2
theorem opwp_append_O {P : Program} {w : World} {o : Oper} {a : Act} {K : Act → World → Prop} {Q : Exit → Act → World → Prop} (s x : Operand) (t : TypeId)
    (ho : o.op = .call { callee := .builtin .append, args := #[s, x], argTypes := #[t, t] })
    (base : Nat) (e : TypeId) (i : TypeInfo) (z : Value) (size bytes : Nat) (ht : P.underlying t = some (.slice e)) (hi : P.info? e = some i) (hz : i.zero = some z)
    (hsize : i.size = size) (hby : i.bytes = bytes) (hzs : z.cells.size = size) (hsz : 0 < size)
    (v : Value) (n : Nat) (xs : List Value) (hs : a.eval s = v) (hown : w.ownsRow base e size v n xs)
    {α : Type} {cells : α → List Value} (y : L α) (hx : a.eval x = y.v) (hy : LOk w size cells y) (hnil : y.A = none → y.c = 0) (hk : ∀ u, (cells u).length = size) (h1 : ∀ u, ∀ c ∈ cells u, c.oneCell' = true)
    (h63 : n + y.l.length ≤ maxLen) (hbytes : (n + y.l.length) * bytes ≤ 140737488355328) (hbase : base ≤ w.heap.size)
    (h : ∀ v' w', w'.ownsRow base e size v' (n + y.l.length) (xs ++ y.l.flatMap cells) → w.grownBy w' v.ownBlock → K (a.put o.dst v') w') : Oper.wp P o a w K Q := by
  obtain ⟨l, A, c⟩ := y
  cases A with
  | none =>
    have hl : l = [] := by
      rcases hy.2 with h0 | ⟨g, o, e, _⟩
      · exact h0
      · cases e
    subst hl
    obtain rfl : c = 0 := hnil rfl
    have hr := run_append_owned_none (P := P) (w := w) base t o.type e i size ht hi v n xs hown
    have hx' : a.eval x = .slice none 0 0 := hx
    unfold Oper.wp
    simp [execOp, ho, resolve, invoke, builtin, hs, hx', hr, Result.andThen]
    exact h v w (by simpa using hown) ⟨rfl, rfl, rfl, Nat.le_refl _, fun _ _ _ => rfl⟩
  | some ad =>
    obtain ⟨v', w', hr, h2, h3, _, _⟩ := run_append_own_at (P := P) w base t o.type e i z size bytes ht hi hz hsize hby hzs hsz v n xs hown ad l.length c (l.flatMap cells) (flat_len cells size hk l) (fun m u hu => by
      obtain ⟨i', hi', j, hj, rfl, hc⟩ := flat_of cells size hk l m u hu
      obtain ⟨g, o, e', _, hcc⟩ := hy.at (x := ⟨l, some ad, c⟩) hi'
      simp only [Option.some.injEq] at e'
      rw [e', Addr.add_lit, ← Nat.add_assoc, hcc j hj, hc]) (fun u hu => by
      obtain ⟨r, _, hr⟩ := List.mem_flatMap.1 hu
      exact h1 r u hr) h63 hbytes hbase
    have hx' : a.eval x = .slice (some ad) l.length c := hx
    unfold Oper.wp execOp
    simp only [ho, resolve, invoke, builtin, Sem.run_bind, Sem.run_pure, Result.andThen_ok, List.map_toArray, List.map_cons, List.map_nil, hs, hx', hr]
    exact h v' w' h2 h3
theorem put2O {w : World} {k : Nat} {ty : TypeId} {a b : Value} (h : Blk w k ty #[a, b]) (x y : Value) : Blk ((w.setCell ⟨k, 0, none⟩ x).setCell ⟨k, 1, none⟩ y) k ty #[x, y] := (h.set_ 0 x).set_ 1 y
theorem args_fuel {ts : List Tk} {m n i : Nat} {f : Bool} (h : FuelO m (n + 1) (.ok i)) (hm : m = ts.length + 1) (hi : i ≤ ts.length) : FuelO m n (numA ts (if f then .ok i else stepA ts 3 [44] (.ok i))).2 := by
  have h0 : m < i + (n + 1) := h
  have h1 : 1 ≤ n := by omega
  cases f with
  | true => exact fuel_take (by decide) h1 h
  | false => exact fuel_take (by decide) h1 (fuel_keep (by decide) (by omega) h)
theorem call_end {W w w9 : World} {r : OR} {R : (Int × List Int) × PS} {R1 : Int} {RL : List Int × PS} {acc : List Int} {s : PS} {A : Option Addr} {c B : Nat}
    (hR : R = ((R1, RL.1), stepA r.x.l 3 [41] RL.2)) (hL : RL = (acc, s)) (hS : OSt W w w9 r (takeA r.x.l 3 [41] s).2) (hO : w9.ownsRow B 66 1 (.slice A acc.length c) acc.length (acc.flatMap ucell))
    (hn : w.heap.size + 1 ≠ r.gR ∧ w.heap.size + 1 ≠ r.gA ∧ w.heap.size + 1 ≠ r.gL) (hB : w.heap.size + 1 < B) (hW : W.heap.size ≤ w.heap.size + 1) (hwB : w.heap.size ≤ B) (x y : Value) :
    CallEnd W w r R (.returned (.agg #[.int .i64 R1, .slice A acc.length c])) ((w9.setCell ⟨w.heap.size + 1, 0, none⟩ x).setCell ⟨w.heap.size + 1, 1, none⟩ y) := by
  subst hL
  subst hR
  have hl := own_ltO hO
  have h1 := own_setO (own_setO hO (p := ⟨w.heap.size + 1, 0, none⟩) (fun e => by have := (hl _ e).1; simp only at this; omega) x) (p := ⟨w.heap.size + 1, 1, none⟩) (fun e => by have := (hl _ e).1; simp only at this; omega) y
  obtain ⟨A', c', e3, _, h2, _, h4⟩ := own_list (cells := ucell) (fun _ => rfl) h1
  rw [Value.slice.injEq] at e3
  obtain ⟨rfl, _, rfl⟩ := e3
  refine ⟨A, c, rfl, h2, fun ad e => Nat.le_trans hwB (h4 ad e).1, ?_⟩
  exact (hS.set (Nat.le_succ _) hW hn.1 hn.2.1 hn.2.2 0 x).set (Nat.le_succ _) hW hn.1 hn.2.1 hn.2.2 1 y
set_option maxRecDepth 100000 in
set_option maxHeartbeats 32000000 in
theorem orcall {W w : World} {r : OR} {s : PS} (E : OEnv W r) (h : OSt W w w r s) (hna : r.p.actions.l.length ≤ 1000) :
    Calls Tryz.prog 135 #[.pointer (some ⟨r.gR, 0, none⟩)] w (CallEnd W w r (callA r.p r.x.l s)) := by
  have HE := Lib.hid E
  have HLT := Lib.hid h.lt
  have HFew := Lib.hid E.few
  have HBW := Lib.hid h.base.size
  obtain ⟨V, hV⟩ : ∃ V, V = (w.alloc (.cells #[pR r] 120)).alloc (.cells #[.int .i64 0, .slice none 0 0] 35) := ⟨_, rfl⟩
  have HwV : Hid (Below w.heap.size w V) := Lib.hid (by rw [hV]; exact below2 _ _ _)
  have HBV : Hid (Blk V w.heap.size 120 #[pR r]) := Lib.hid (by rw [hV]; exact (Blk.new _ _ _).alloc _)
  have HRV : Hid (Blk V (w.heap.size + 1) 35 #[.int .i64 0, .slice none 0 0]) := Lib.hid (by
    rw [hV]
    have := Blk.new (w.alloc (.cells #[pR r] 120)) 35 #[.int .i64 0, .slice none 0 0]
    simpa using this)
  have HSV := Lib.hid (h.below HwV.out)
  have HNB : Hid (w.heap.size ≠ r.gR ∧ w.heap.size ≠ r.gA ∧ w.heap.size + 1 ≠ r.gR ∧ w.heap.size + 1 ≠ r.gA) := Lib.hid (by have := HLT.out; omega)
  obtain ⟨R, hR⟩ : ∃ R, R = callA r.p r.x.l s := ⟨_, rfl⟩
  rw [← hR]
  have HR : Hid (R = (((resA r.x.l (r.p.actions.l.map ActD.name) (stepA r.x.l 3 wArrow s)).1, (argsA r.x.l (r.x.l.length + 2) true [] (stepA r.x.l 3 [40] (resA r.x.l (r.p.actions.l.map ActD.name) (stepA r.x.l 3 wArrow s)).2)).1),
      stepA r.x.l 3 [41] (argsA r.x.l (r.x.l.length + 2) true [] (stepA r.x.l 3 [40] (resA r.x.l (r.p.actions.l.map ActD.name) (stepA r.x.l 3 wArrow s)).2)).2)) := Lib.hid hR
  have HT1 := Lib.hid (otake E HSV.out.refl 3 (by decide) ⟨#[45, 62]⟩)
  rw [show (⟨#[45, 62]⟩ : ByteArray).data.toList = wArrow from rfl] at HT1
  have HSA : Hid ((takeA r.x.l 3 wArrow s).2 = stepA r.x.l 3 wArrow s) := Lib.hid rfl
  have HNM := Lib.hid hna
  clear E h hR hna
  go_enter Tryz.func135, Tryz.ntmps135
  go_upto_region 1 with fail
  rw [← hV]
  clear hV
  have cB : V.cell? ⟨w.heap.size, 0, none⟩ = some (pR r) := HBV.out.cell 0
  go_wp2_with fail
  refine HT1.out.mono ?_
  rintro e1 w1 ⟨rfl, h1⟩
  have HS1 := Lib.hid (HSV.out.then h1)
  have HBb1 := Lib.hid (h1.gr.blk HBV.out HNB.out.1 HNB.out.2.1)
  have HRb1 := Lib.hid (h1.gr.blk HRV.out HNB.out.2.2.1 HNB.out.2.2.2)
  clear h1 HSV HBV HRV HT1 cB HwV
  rw [HSA.out] at HS1
  generalize stepA r.x.l 3 wArrow s = s1 at *
  clear HSA
  go_upto_region 2 with fail
  have HSD := Lib.hid (HS1.out.below (below_drew (Below.refl _ _))).refl
  have HBD : Hid (Blk w1.drew w.heap.size 120 #[pR r]) := Lib.hid HBb1.out
  have HRD : Hid (Blk w1.drew (w.heap.size + 1) 35 #[.int .i64 0, .slice none 0 0]) := Lib.hid HRb1.out
  have HRS := Lib.hid (fun (u : World) (hu : OSt W u u r s1) (hb : Blk u w.heap.size 120 #[pR r]) => show Calls Tryz.prog 130 #[.pointer (some ⟨r.gR, 0, none⟩), .int .i64 r.p.actions.l.length, .func (.func 199) #[] #[.pointer (some ⟨w.heap.size, 0, none⟩)]] u fun e w' => e = .returned (.int .i64 (resA r.x.l (r.p.actions.l.map ActD.name) s1).1) ∧ OSt W u w' r (resA r.x.l (r.p.actions.l.map ActD.name) s1).2 from by
    have h := oresolveA HE.out hu (r.p.actions.l.map ActD.name) (by rw [List.length_map]; exact HNM.out) w.heap.size (call_name r _) hb HNB.out.1 HNB.out.2.1
    rw [List.length_map] at h
    exact h)
  have HRX : Hid (resA r.x.l (r.p.actions.l.map ActD.name) s1 = resA r.x.l (r.p.actions.l.map ActD.name) s1) := Lib.hid rfl
  generalize resA r.x.l (r.p.actions.l.map ActD.name) s1 = q2 at *
  obtain ⟨R1, s2⟩ := q2
  simp only at HR HRS
  clear HRX
  go_cut [3] from 7 to 17 (fun v3 wr => ∃ g : Nat, v3 = .pointer (some ⟨g, 0, none⟩) ∧ w.heap.size + 1 < g ∧ Hid (Blk wr g 35 #[.int .i64 R1, .slice none 0 0]) ∧ Hid (Blk wr w.heap.size 120 #[pR r]) ∧ Hid (Blk wr (w.heap.size + 1) 35 #[.int .i64 0, .slice none 0 0]) ∧ Hid (OSt W w wr r s2) ∧ Hid (g ≠ r.gR ∧ g ≠ r.gA ∧ g ≠ r.gL ∧ w.heap.size + 1 < g))
  case first =>
    refine wp_region_held_drew (S := (fun u => u.cell? ⟨w.heap.size, 0, none⟩ = some (pR r) ∧ u.cell? ⟨r.gR, 4, none⟩ = some (.slice r.p.actions.A r.p.actions.l.length r.p.actions.c))) (by kernel_rfl) (actSt_of (HS1.out.below (below_drew (Below.refl _ _))) HBD.out) (fun hHeld => ?_)
    refine wpAnyH_take (i := 0) (oi := { dst := some 7, op := Op.load 120 (Operand.tmp 1), type := 120, pos := "optext.go:139", after := #[], guard := none }) (v := ?a1_v0) rfl (by kernel_rfl) (by kernel_rfl) (by kernel_rfl) (fun _ _ _ h => h) (Or.inl ⟨by rfl, ?a1_y0⟩) (by assumption) ?a1_r0
    case a1_y0 => (intro w hSw; (try dsimp only at hSw); go_simp; try (with_reducible rfl))
    try simp only [Act.put, List.setIfInBounds_toArray, List.set_cons_zero, List.set_cons_succ]
    refine wpAnyH_take (i := 1) (oi := { dst := some 8, op := Op.load 120 (Operand.tmp 1), type := 120, pos := "optext.go:139", after := #[], guard := none }) (v := ?a2_v1) rfl (by kernel_rfl) (by kernel_rfl) (by kernel_rfl) (fun _ _ _ h => h) (Or.inl ⟨by rfl, ?a2_y1⟩) (by assumption) ?a2_r1
    case a2_y1 => (intro w hSw; (try dsimp only at hSw); go_simp; try (with_reducible rfl))
    try simp only [Act.put, List.setIfInBounds_toArray, List.set_cons_zero, List.set_cons_succ]
    refine wpAnyH_take (i := 2) (oi := { dst := some 9, op := Op.nilCheck (Operand.tmp 8), type := 0, pos := "optext.go:139", after := #[{ on := 1, ground := Ground.data }], guard := none }) (v := ?a3_v2) rfl (by kernel_rfl) (by kernel_rfl) (by kernel_rfl) (fun _ _ _ h => h) (Or.inl ⟨by rfl, ?a3_y2⟩) (by assumption) ?a3_r2
    case a3_y2 => (intro w hSw; (try dsimp only at hSw); go_simp; try (with_reducible rfl))
    try simp only [Act.put, List.setIfInBounds_toArray, List.set_cons_zero, List.set_cons_succ]
    refine wpAnyH_take (i := 3) (oi := { dst := some 10, op := Op.fieldAddr 125 (Operand.tmp 9) 0, type := 0, pos := "optext.go:139", after := #[{ on := 2, ground := Ground.data }], guard := none }) (v := ?a4_v3) rfl (by kernel_rfl) (by kernel_rfl) (by kernel_rfl) (fun _ _ _ h => h) (Or.inl ⟨by rfl, ?a4_y3⟩) (by assumption) ?a4_r3
    case a4_y3 => (intro w hSw; (try dsimp only at hSw); go_simp; try (with_reducible rfl))
    try simp only [Act.put, List.setIfInBounds_toArray, List.set_cons_zero, List.set_cons_succ]
    refine wpAnyH_take (i := 4) (oi := { dst := some 11, op := Op.fieldAddr 31 (Operand.tmp 10) 4, type := 0, pos := "optext.go:139", after := #[{ on := 3, ground := Ground.data }], guard := none }) (v := ?a5_v4) rfl (by kernel_rfl) (by kernel_rfl) (by kernel_rfl) (fun _ _ _ h => h) (Or.inl ⟨by rfl, ?a5_y4⟩) (by assumption) ?a5_r4
    case a5_y4 => (intro w hSw; (try dsimp only at hSw); go_simp; try (with_reducible rfl))
    try simp only [Act.put, List.setIfInBounds_toArray, List.set_cons_zero, List.set_cons_succ]
    refine wpAnyH_take (i := 5) (oi := { dst := some 12, op := Op.load 25 (Operand.tmp 11), type := 25, pos := "optext.go:139", after := #[{ on := 4, ground := Ground.data }], guard := none }) (v := ?a6_v5) rfl (by kernel_rfl) (by kernel_rfl) (by kernel_rfl) (fun _ _ _ h => h) (Or.inl ⟨by rfl, ?a6_y5⟩) (by assumption) ?a6_r5
    case a6_y5 => (intro w hSw; (try dsimp only at hSw); go_simp; try (with_reducible rfl))
    try simp only [Act.put, List.setIfInBounds_toArray, List.set_cons_zero, List.set_cons_succ]
    refine wpAnyH_take (i := 6) (oi := { dst := some 13, op := Op.call { callee := Callee.builtin Builtin.len, args := #[Operand.tmp 12], argTypes := #[25] }, type := 3, pos := "optext.go:139", after := #[{ on := 5, ground := Ground.data }], guard := none }) (v := ?a7_v6) rfl (by kernel_rfl) (by kernel_rfl) (by kernel_rfl) (fun _ _ _ h => h) (Or.inl ⟨by rfl, ?a7_y6⟩) (by assumption) ?a7_r6
    case a7_y6 => (intro w hSw; (try dsimp only at hSw); go_simp; try (with_reducible rfl))
    try simp only [Act.put, List.setIfInBounds_toArray, List.set_cons_zero, List.set_cons_succ]
    refine wpAnyH_take (i := 7) (oi := { dst := some 14, op := Op.makeFunc (Fn.func 199) #[] #[Operand.tmp 1], type := 73, pos := "optext.go:139", after := #[], guard := none }) (v := ?a8_v7) rfl (by kernel_rfl) (by kernel_rfl) (by kernel_rfl) (fun _ _ _ h => h) (Or.inl ⟨by rfl, ?a8_y7⟩) (by assumption) ?a8_r7
    case a8_y7 => (intro w hSw; (try dsimp only at hSw); go_simp; try (with_reducible rfl))
    try simp only [Act.put, List.setIfInBounds_toArray, List.set_cons_zero, List.set_cons_succ]
    refine wpAnyH_ready (rs := [8, 10]) (by kernel_rfl) (by simp) ?_
    refine AllReadyH.cons (o := { dst := some 15, op := Op.call { callee := Callee.value (Operand.func 130), args := #[Operand.tmp 7, Operand.tmp 13, Operand.tmp 14], argTypes := #[120, 3, 73] }, type := 3, pos := "optext.go:139", after := #[{ on := 0, ground := Ground.data }, { on := 6, ground := Ground.data }, { on := 7, ground := Ground.data }], guard := none }) rfl (fun K hK => ?_) (AllReadyH.cons (o := { dst := some 3, op := Op.alloc 35, type := 0, pos := "optext.go:139", after := #[], guard := none }) rfl (fun K hK => ?_) (AllReadyH.nil))
    · skip
      go_simp
      go_at_call 130
      refine (HRS.out _ HSD.out HBD.out).mono ?_
      rintro e u2 ⟨rfl, h2⟩
      have HS2 := Lib.hid ((HS1.out.below (below_drew (Below.refl _ _))).then h2)
      have HB2 := Lib.hid (h2.gr.blk HBD.out HNB.out.1 HNB.out.2.1)
      have HR2 := Lib.hid (h2.gr.blk HRD.out HNB.out.2.2.1 HNB.out.2.2.2)
      clear h2
      have hNEW : ActSt w.heap.size r u2 := actSt_of HS2.out HB2.out
      refine hK.out _ _ hNEW (fun hHeld5 => ?_)
      clear hK K hNEW
      refine wpAnyH_take (i := 9) (oi := { dst := some 16, op := Op.build 35 #[(0, Operand.tmp 15)], type := 35, pos := "optext.go:139", after := #[{ on := 8, ground := Ground.data }], guard := none }) (v := ?a9_v9) rfl (by kernel_rfl) (by kernel_rfl) (by kernel_rfl) (fun _ _ _ h => h) (Or.inl ⟨by rfl, ?a9_y9⟩) (by assumption) ?a9_r9
      case a9_y9 => (intro w hSw; (try dsimp only at hSw); go_simp; try (with_reducible rfl))
      try simp only [Act.put, List.setIfInBounds_toArray, List.set_cons_zero, List.set_cons_succ]
      refine wpAnyH_ready (rs := [10]) (by kernel_rfl) (by simp) ?_
      refine AllReadyH.cons (o := { dst := some 3, op := Op.alloc 35, type := 0, pos := "optext.go:139", after := #[], guard := none }) rfl (fun K hK => ?_) (AllReadyH.nil)
      go_simp
      obtain ⟨U1, hU1⟩ : ∃ U1, U1 = (u2.alloc (.cells #[.int .i64 0, .slice none 0 0] 35)) := ⟨_, rfl⟩
      have HBL : Hid (Below u2.heap.size u2 U1) := Lib.hid (by rw [hU1]; exact below1 _ _)
      have HSU := Lib.hid (HS2.out.below HBL.out)
      have HBU := Lib.hid (HB2.out.below HBL.out HB2.out.lt)
      have HRU := Lib.hid (HR2.out.below HBL.out HR2.out.lt)
      have HCU : Hid (Blk U1 u2.heap.size 35 #[.int .i64 0, .slice none 0 0]) := Lib.hid (by rw [hU1]; exact show Blk (u2.alloc _) _ _ _ from Blk.new u2 _ _)
      have HNG : Hid (u2.heap.size ≠ r.gR ∧ u2.heap.size ≠ r.gA ∧ u2.heap.size ≠ r.gL ∧ w.heap.size + 1 < u2.heap.size) := Lib.hid (by have h1 := HS2.out.lt; have h2 := HR2.out.lt; omega)
      have hNEW : ActSt w.heap.size r (u2.alloc (.cells #[.int .i64 0, .slice none 0 0] 35)) := by rw [← hU1]; exact actSt_of HSU.out HBU.out
      refine hK.out _ _ hNEW (fun hHeld6 => ?_)
      clear hK K hNEW
      rw [← hU1]
      clear hU1
      refine wpAnyH_ready (rs := [11]) (by kernel_rfl) (by simp) ?_
      refine AllReadyH.cons (o := { dst := none, op := Op.store 35 (Operand.tmp 3) (Operand.tmp 16), type := 0, pos := "optext.go:139", after := #[{ on := 10, ground := Ground.data }, { on := 9, ground := Ground.data }, { on := 8, ground := Ground.chain }, { on := 0, ground := Ground.phase }, { on := 1, ground := Ground.phase }, { on := 2, ground := Ground.phase }, { on := 3, ground := Ground.phase }, { on := 4, ground := Ground.phase }, { on := 5, ground := Ground.phase }, { on := 6, ground := Ground.phase }, { on := 7, ground := Ground.phase }, { on := 8, ground := Ground.phase }, { on := 9, ground := Ground.phase }, { on := 10, ground := Ground.phase }], guard := none }) rfl (fun K hK => ?_) (AllReadyH.nil)
      have r0 : U1.cell? ⟨u2.heap.size, 0, none⟩ = some (.int .i64 0) := HCU.out.cell 0
      have r1 : U1.cell? ⟨u2.heap.size, 1, none⟩ = some (.slice none 0 0) := HCU.out.cell 1
      have f0 : U1.frozen? ⟨u2.heap.size, 0, none⟩ = false := HCU.out.frozen 0
      have f1 : U1.frozen? ⟨u2.heap.size, 1, none⟩ = false := HCU.out.frozen 1
      go_simp
      obtain ⟨U3, hU3⟩ : ∃ U3, U3 = ((U1.setCell ⟨u2.heap.size, 0, none⟩ (.int .i64 R1)).setCell ⟨u2.heap.size, 1, none⟩ (.slice none 0 0)) := ⟨_, rfl⟩
      have HC3 : Hid (Blk U3 (u2.heap.size) 35 #[.int .i64 R1, .slice none 0 0]) := Lib.hid (by rw [hU3]; exact (HCU.out.set_ 0 _).set_ 1 _)
      have HB3 : Hid (Blk U3 w.heap.size 120 #[pR r]) := Lib.hid (by rw [hU3]; exact (HBU.out.far (by have := HNG.out; simp; omega) _).far (by have := HNG.out; simp; omega) _)
      have HR3 : Hid (Blk U3 (w.heap.size + 1) 35 #[.int .i64 0, .slice none 0 0]) := Lib.hid (by rw [hU3]; exact (HRU.out.far (by have := HNG.out; simp; omega) _).far (by have := HNG.out; simp; omega) _)
      have HS3 : Hid (OSt W w U3 r s2) := Lib.hid (by rw [hU3]; have h := HNG.out; have h2 := HBW.out; exact (HSU.out.set (by omega) (by omega) h.1 h.2.1 h.2.2.1 0 _).set (by omega) (by omega) h.1 h.2.1 h.2.2.1 1 _)
      have hNEW : ActSt w.heap.size r ((U1.setCell ⟨u2.heap.size, 0, none⟩ (.int .i64 R1)).setCell ⟨u2.heap.size, 1, none⟩ (.slice none 0 0)) := by rw [← hU3]; exact actSt_of HS3.out HB3.out
      refine hK.out _ _ hNEW (fun hHeld7 => ?_)
      clear hK K hNEW
      rw [← hU3]
      clear hU3 r0 r1 f0 f1
      refine wpAnyH_done (by kernel_rfl) ?_ _
      go_wp2
      go_meet
      case rel => exact ⟨_, rfl, HNG.out.2.2.2, HC3, HB3, HR3, HS3, HNG⟩
    · skip
      go_simp
      obtain ⟨U1, hU1⟩ : ∃ U1, U1 = ((w1.alloc (.cells #[.int .i64 0, .slice none 0 0] 35)).drew) := ⟨_, rfl⟩
      have HBL : Hid (Below w1.heap.size w1 U1) := Lib.hid (by rw [hU1]; exact below_drew (below1 _ _))
      have HSU := Lib.hid (HS1.out.below HBL.out)
      have HBU := Lib.hid (HBb1.out.below HBL.out HBb1.out.lt)
      have HRU := Lib.hid (HRb1.out.below HBL.out HRb1.out.lt)
      have HCU : Hid (Blk U1 w1.heap.size 35 #[.int .i64 0, .slice none 0 0]) := Lib.hid (by rw [hU1]; exact show Blk (w1.alloc _) _ _ _ from Blk.new w1 _ _)
      have HNG : Hid (w1.heap.size ≠ r.gR ∧ w1.heap.size ≠ r.gA ∧ w1.heap.size ≠ r.gL ∧ w.heap.size + 1 < w1.heap.size) := Lib.hid (by have h1 := HS1.out.lt; have h2 := HRb1.out.lt; omega)
      have hNEW : ActSt w.heap.size r ((w1.alloc (.cells #[.int .i64 0, .slice none 0 0] 35)).drew) := by rw [← hU1]; exact actSt_of HSU.out HBU.out
      refine hK.out _ _ hNEW (fun hHeld6 => ?_)
      clear hK K hNEW
      rw [← hU1]
      clear hU1
      refine wpAnyH_ready (rs := [8]) (by kernel_rfl) (by simp) ?_
      refine AllReadyH.cons (o := { dst := some 15, op := Op.call { callee := Callee.value (Operand.func 130), args := #[Operand.tmp 7, Operand.tmp 13, Operand.tmp 14], argTypes := #[120, 3, 73] }, type := 3, pos := "optext.go:139", after := #[{ on := 0, ground := Ground.data }, { on := 6, ground := Ground.data }, { on := 7, ground := Ground.data }], guard := none }) rfl (fun K hK => ?_) (AllReadyH.nil)
      go_simp
      go_at_call 130
      refine (HRS.out _ HSU.out.refl HBU.out).mono ?_
      rintro e u2 ⟨rfl, h2⟩
      have HS2 := Lib.hid (HSU.out.then h2)
      have HB2 := Lib.hid (h2.gr.blk HBU.out HNB.out.1 HNB.out.2.1)
      have HR2 := Lib.hid (h2.gr.blk HRU.out HNB.out.2.2.1 HNB.out.2.2.2)
      have HC2 := Lib.hid (h2.gr.blk HCU.out HNG.out.1 HNG.out.2.1)
      clear h2
      have hNEW : ActSt w.heap.size r u2 := actSt_of HS2.out HB2.out
      refine hK.out _ _ hNEW (fun hHeld5 => ?_)
      clear hK K hNEW
      refine wpAnyH_take (i := 9) (oi := { dst := some 16, op := Op.build 35 #[(0, Operand.tmp 15)], type := 35, pos := "optext.go:139", after := #[{ on := 8, ground := Ground.data }], guard := none }) (v := ?a10_v9) rfl (by kernel_rfl) (by kernel_rfl) (by kernel_rfl) (fun _ _ _ h => h) (Or.inl ⟨by rfl, ?a10_y9⟩) (by assumption) ?a10_r9
      case a10_y9 => (intro w hSw; (try dsimp only at hSw); go_simp; try (with_reducible rfl))
      try simp only [Act.put, List.setIfInBounds_toArray, List.set_cons_zero, List.set_cons_succ]
      refine wpAnyH_ready (rs := [11]) (by kernel_rfl) (by simp) ?_
      refine AllReadyH.cons (o := { dst := none, op := Op.store 35 (Operand.tmp 3) (Operand.tmp 16), type := 0, pos := "optext.go:139", after := #[{ on := 10, ground := Ground.data }, { on := 9, ground := Ground.data }, { on := 8, ground := Ground.chain }, { on := 0, ground := Ground.phase }, { on := 1, ground := Ground.phase }, { on := 2, ground := Ground.phase }, { on := 3, ground := Ground.phase }, { on := 4, ground := Ground.phase }, { on := 5, ground := Ground.phase }, { on := 6, ground := Ground.phase }, { on := 7, ground := Ground.phase }, { on := 8, ground := Ground.phase }, { on := 9, ground := Ground.phase }, { on := 10, ground := Ground.phase }], guard := none }) rfl (fun K hK => ?_) (AllReadyH.nil)
      have r0 : u2.cell? ⟨w1.heap.size, 0, none⟩ = some (.int .i64 0) := HC2.out.cell 0
      have r1 : u2.cell? ⟨w1.heap.size, 1, none⟩ = some (.slice none 0 0) := HC2.out.cell 1
      have f0 : u2.frozen? ⟨w1.heap.size, 0, none⟩ = false := HC2.out.frozen 0
      have f1 : u2.frozen? ⟨w1.heap.size, 1, none⟩ = false := HC2.out.frozen 1
      go_simp
      obtain ⟨U3, hU3⟩ : ∃ U3, U3 = ((u2.setCell ⟨w1.heap.size, 0, none⟩ (.int .i64 R1)).setCell ⟨w1.heap.size, 1, none⟩ (.slice none 0 0)) := ⟨_, rfl⟩
      have HC3 : Hid (Blk U3 (w1.heap.size) 35 #[.int .i64 R1, .slice none 0 0]) := Lib.hid (by rw [hU3]; exact (HC2.out.set_ 0 _).set_ 1 _)
      have HB3 : Hid (Blk U3 w.heap.size 120 #[pR r]) := Lib.hid (by rw [hU3]; exact (HB2.out.far (by have := HNG.out; simp; omega) _).far (by have := HNG.out; simp; omega) _)
      have HR3 : Hid (Blk U3 (w.heap.size + 1) 35 #[.int .i64 0, .slice none 0 0]) := Lib.hid (by rw [hU3]; exact (HR2.out.far (by have := HNG.out; simp; omega) _).far (by have := HNG.out; simp; omega) _)
      have HS3 : Hid (OSt W w U3 r s2) := Lib.hid (by rw [hU3]; have h := HNG.out; have h2 := HBW.out; exact (HS2.out.set (by omega) (by omega) h.1 h.2.1 h.2.2.1 0 _).set (by omega) (by omega) h.1 h.2.1 h.2.2.1 1 _)
      have hNEW : ActSt w.heap.size r ((u2.setCell ⟨w1.heap.size, 0, none⟩ (.int .i64 R1)).setCell ⟨w1.heap.size, 1, none⟩ (.slice none 0 0)) := by rw [← hU3]; exact actSt_of HS3.out HB3.out
      refine hK.out _ _ hNEW (fun hHeld7 => ?_)
      clear hK K hNEW
      rw [← hU3]
      clear hU3 r0 r1 f0 f1
      refine wpAnyH_done (by kernel_rfl) ?_ _
      go_wp2
      go_meet
      case rel => exact ⟨_, rfl, HNG.out.2.2.2, HC3, HB3, HR3, HS3, HNG⟩
  case rest =>
  obtain ⟨g, rfl, hg, HCc, HBc, HRc, HSc, HNG⟩ := hcut
  have HT3 := Lib.hid (otake HE.out HSc.out.refl 3 (by decide) ⟨#[40]⟩)
  rw [show (⟨#[40]⟩ : ByteArray).data.toList = [40] from rfl] at HT3
  have HSA : Hid ((takeA r.x.l 3 [40] s2).2 = stepA r.x.l 3 [40] s2) := Lib.hid rfl
  have cB := HBc.out.cell 0
  go_wp2_with fail
  refine HT3.out.mono ?_
  rintro e1 Z ⟨rfl, h3⟩
  have HS3 := Lib.hid (HSc.out.then h3)
  have HC3 := Lib.hid (h3.gr.blk HCc.out HNG.out.1 HNG.out.2.1)
  have HB3 := Lib.hid (h3.gr.blk HBc.out HNB.out.1 HNB.out.2.1)
  have HR3 := Lib.hid (h3.gr.blk HRc.out HNB.out.2.2.1 HNB.out.2.2.2)
  clear h3 HCc HBc HRc HSc HT3 cB
  rw [HSA.out] at HS3
  generalize stepA r.x.l 3 [40] s2 = s3 at *
  clear HSA
  have HZW : Hid (w.heap.size ≤ Z.heap.size ∧ W.heap.size ≤ Z.heap.size) := Lib.hid (by have := HS3.out.gr.size; have := HBW.out; omega)
  have HZL : Hid (r.gR < Z.heap.size ∧ r.gA < Z.heap.size ∧ r.gL < Z.heap.size) := Lib.hid HS3.out.lt
  have HZB : Hid (w.heap.size < Z.heap.size ∧ w.heap.size + 1 < Z.heap.size) := Lib.hid ⟨HB3.out.lt, HR3.out.lt⟩
  have HZG : Hid (g < Z.heap.size) := Lib.hid HC3.out.lt
  obtain ⟨m, hm⟩ : ∃ m, m = r.x.l.length := ⟨_, rfl⟩
  have HM := Lib.hid hm
  obtain ⟨RL, hRL⟩ : ∃ RL, RL = argsA r.x.l (r.x.l.length + 2) true [] s3 := ⟨_, rfl⟩
  rw [← hRL] at HR
  have HA0 : Hid (argsA r.x.l (m + 2) true [] s3 = RL) := Lib.hid (by rw [hRL, hm])
  have HF0 : Hid (FuelO (m + 1) (m + 2) s3) := Lib.hid (by
    cases s3 with
    | ok i => show m + 1 < i + (m + 2); omega
    | bad e => show 1 ≤ m + 2; omega)
  clear hRL hm
  obtain ⟨i0, hi, hz0, hz1, hz2⟩ := info_parts (show (Tryz.prog.info? 66).map (fun i => (i.zero, i.size, i.bytes)) = some (some (.int .u32 0), 1, 4) by kernel_rfl)
  go_wp2
  go_loopw [4] (fun fv wr => ∃ (n : Nat) (acc : List Int) (A : Option Addr) (c : Nat) (s : PS) (f : Bool), fv = .bool f ∧ acc.length + n ≤ m + 2 ∧ Hid (FuelO (m + 1) n s) ∧ Hid (argsA r.x.l n f acc s = RL) ∧ Hid (wr.ownsRow Z.heap.size 66 1 (.slice A acc.length c) acc.length (acc.flatMap ucell)) ∧
      Hid (Blk wr g 35 #[.int .i64 R1, .slice A acc.length c]) ∧ Hid (Blk wr w.heap.size 120 #[pR r]) ∧ Hid (Blk wr (w.heap.size + 1) 35 #[.int .i64 0, .slice none 0 0]) ∧ Hid (OSt W w wr r s) ∧ Hid (Z.heap.size ≤ wr.heap.size))
    (fun _ wr => leftC (wr.cell? ⟨g, 1, none⟩))
  case atStart => exact ⟨m + 2, [], none, 0, s3, true, rfl, by simp, HF0, HA0, Lib.hid (World.ownsRow_nil _ _ _ _), HC3, HB3, HR3, HS3, Lib.hid (Nat.le_refl _)⟩
  case round =>
    obtain ⟨n, acc, A, c, s, f, rfl, hln, HF, HA, HO, HC, HB, HRr, HS, HZs⟩ := hrel
    have HCW : Hid (wr.cell? ⟨g, 1, none⟩ = some (.slice A acc.length c)) := Lib.hid (HC.out.cell 1)
    clear HC3 HB3 HR3 HS3 HA0 HF0
    have HNG2 : Hid (w.heap.size + 1 ≠ r.gR ∧ w.heap.size + 1 ≠ r.gA ∧ w.heap.size + 1 ≠ r.gL) := Lib.hid (by have := HLT.out; omega)
    have cB : wr.cell? ⟨w.heap.size, 0, none⟩ = some (pR r) := HB.out.cell 0
    cases s with
    | bad e =>
      obtain ⟨bR, he⟩ := HS.out.badc
      have c11 : wr.cell? ⟨r.gR, 11, none⟩ = some (.int .i64 e) := bR.cell 11
      have he' : ((e : Int) == 0) = false := beq_eq_false_iff_ne.2 (by omega)
      have HRL : Hid (RL = (acc, .bad e)) := Lib.hid (by rw [← HA.out, args_bad])
      clear bR he HA
      clear cB
      have cB := HB.out.cell 0
      have HT9 := Lib.hid (otake HE.out HS.out.refl 3 (by decide) ⟨#[41]⟩)
      rw [show (⟨#[41]⟩ : ByteArray).data.toList = [41] from rfl] at HT9
      go_wp2_with fail
      refine HT9.out.mono ?_
      rintro e9 w9 ⟨rfl, h9⟩
      have HS9 := Lib.hid (HS.out.then h9)
      have HC9 := Lib.hid (h9.gr.blk HC.out HNG.out.1 HNG.out.2.1)
      have HR9 := Lib.hid (h9.gr.blk HRr.out HNB.out.2.2.1 HNB.out.2.2.2)
      have HO9 := Lib.hid (ownsRow_gro HO.out h9.gr HZL.out.1 HZL.out.2.1)
      clear h9 HT9 cB HO HC HB HRr HS HF
      have r0 : w9.cell? ⟨g, 0, none⟩ = some (.int .i64 R1) := HC9.out.cell 0
      have r1 : w9.cell? ⟨g, 1, none⟩ = some (.slice A acc.length c) := HC9.out.cell 1
      have q0 : w9.cell? ⟨w.heap.size + 1, 0, none⟩ = some (.int .i64 0) := HR9.out.cell 0
      have q1 : w9.cell? ⟨w.heap.size + 1, 1, none⟩ = some (.slice none 0 0) := HR9.out.cell 1
      have f0 : w9.frozen? ⟨w.heap.size + 1, 0, none⟩ = false := HR9.out.frozen 0
      have f1 : w9.frozen? ⟨w.heap.size + 1, 1, none⟩ = false := HR9.out.frozen 1
      go_wp2
      refine bodyPost_ret (v := .agg #[.int .i64 R1, .slice A acc.length c]) ?_ rfl ?_
      · exact results_cell_row (fn := Tryz.f135) (p := 2) (ty := 35) rfl _ _ (w.heap.size + 1) 35 #[.int .i64 R1, .slice A acc.length c] (0, 0) _ rfl (put2O HR9.out _ _) Tryz.underlying35 rfl (by kernel_rfl)
      · exact call_end HR.out HRL.out HS9.out HO9.out HNG2.out HZB.out.2 (by have := HBW.out; have := HZW.out; omega) HZW.out.1 _ _
    | ok i =>
      obtain ⟨bR, bA, hi1⟩ := HS.out.okc
      have hn1 : 1 ≤ n := HF.out.pos (fun j hj => by injection hj with hj; have := HM.out; omega)
      obtain ⟨n, rfl⟩ : ∃ k, n = k + 1 := ⟨n - 1, by omega⟩
      have c11 : wr.cell? ⟨r.gR, 11, none⟩ = some (.int .i64 0) := bR.cell 11
      have c9 : wr.cell? ⟨r.gR, 9, none⟩ = some (nextF r) := bR.cell 9
      unfold nextF at c9
      have HN := Lib.hid (onext_any r.x i r.gA r.gL wr (HE.out.toks.below HS.out.base (Nat.le_refl _)) bA HS.out.lb)
      have HK := Lib.hid (args_ok r.x.l n f acc i)
      have HTX : Hid ((nxt r.x.l i).text ≠ [41] → FuelO (m + 1) n (numA r.x.l (if f then .ok i else stepA r.x.l 3 [44] (.ok i))).2) := Lib.hid (fun _ => args_fuel HF.out (by rw [HM.out]) hi1)
      clear bR bA hi1 hn1
      by_cases htx : (nxt r.x.l i).text = [41]
      · have HRL : Hid (RL = (acc, .ok i)) := Lib.hid (HA.out.symm.trans (HK.out.trans (if_pos htx)))
        clear HK HA HTX
        generalize nxt r.x.l i = t at *
        obtain ⟨tk, tx, tv, tl⟩ := t
        simp only at htx HN
        subst htx
        have hft := tk_text (.int .i64 tk) (.string ⟨[(41 : UInt8)].toArray⟩) (.int .u32 tv) (.int .i64 tl)
        cases f with
        | true =>
          go_wp2_with fail
          refine HN.out.mono ?_
          rintro e1 w3 ⟨rfl, hb3⟩
          replace HS := Lib.hid (HS.out.below hb3)
          replace HZs := Lib.hid (Nat.le_trans HZs.out hb3.size)
          replace HO := Lib.hid (ownsRow_below HO.out hb3)
          replace HC := Lib.hid (HC.out.below hb3 HC.out.lt)
          replace HB := Lib.hid (HB.out.below hb3 HB.out.lt)
          replace HRr := Lib.hid (HRr.out.below hb3 HRr.out.lt)
          clear hb3 HN c11 c9 cB
          have cB := HB.out.cell 0
          have HT9 := Lib.hid (otake HE.out HS.out.refl 3 (by decide) ⟨#[41]⟩)
          rw [show (⟨#[41]⟩ : ByteArray).data.toList = [41] from rfl] at HT9
          go_wp2_with fail
          refine HT9.out.mono ?_
          rintro e9 w9 ⟨rfl, h9⟩
          have HS9 := Lib.hid (HS.out.then h9)
          have HC9 := Lib.hid (h9.gr.blk HC.out HNG.out.1 HNG.out.2.1)
          have HR9 := Lib.hid (h9.gr.blk HRr.out HNB.out.2.2.1 HNB.out.2.2.2)
          have HO9 := Lib.hid (ownsRow_gro HO.out h9.gr HZL.out.1 HZL.out.2.1)
          clear h9 HT9 cB HO HC HB HRr HS HF
          have r0 : w9.cell? ⟨g, 0, none⟩ = some (.int .i64 R1) := HC9.out.cell 0
          have r1 : w9.cell? ⟨g, 1, none⟩ = some (.slice A acc.length c) := HC9.out.cell 1
          have q0 : w9.cell? ⟨w.heap.size + 1, 0, none⟩ = some (.int .i64 0) := HR9.out.cell 0
          have q1 : w9.cell? ⟨w.heap.size + 1, 1, none⟩ = some (.slice none 0 0) := HR9.out.cell 1
          have f0 : w9.frozen? ⟨w.heap.size + 1, 0, none⟩ = false := HR9.out.frozen 0
          have f1 : w9.frozen? ⟨w.heap.size + 1, 1, none⟩ = false := HR9.out.frozen 1
          go_wp2
          refine bodyPost_ret (v := .agg #[.int .i64 R1, .slice A acc.length c]) ?_ rfl ?_
          · exact results_cell_row (fn := Tryz.f135) (p := 2) (ty := 35) rfl _ _ (w.heap.size + 1) 35 #[.int .i64 R1, .slice A acc.length c] (0, 0) _ rfl (put2O HR9.out _ _) Tryz.underlying35 rfl (by kernel_rfl)
          · exact call_end HR.out HRL.out HS9.out HO9.out HNG2.out HZB.out.2 (by have := HBW.out; have := HZW.out; omega) HZW.out.1 _ _
        | false =>
          go_wp2_with fail
          refine HN.out.mono ?_
          rintro e1 w3 ⟨rfl, hb3⟩
          replace HS := Lib.hid (HS.out.below hb3)
          replace HZs := Lib.hid (Nat.le_trans HZs.out hb3.size)
          replace HO := Lib.hid (ownsRow_below HO.out hb3)
          replace HC := Lib.hid (HC.out.below hb3 HC.out.lt)
          replace HB := Lib.hid (HB.out.below hb3 HB.out.lt)
          replace HRr := Lib.hid (HRr.out.below hb3 HRr.out.lt)
          clear hb3 HN c11 c9 cB
          have cB := HB.out.cell 0
          have HT9 := Lib.hid (otake HE.out HS.out.refl 3 (by decide) ⟨#[41]⟩)
          rw [show (⟨#[41]⟩ : ByteArray).data.toList = [41] from rfl] at HT9
          go_wp2_with fail
          refine HT9.out.mono ?_
          rintro e9 w9 ⟨rfl, h9⟩
          have HS9 := Lib.hid (HS.out.then h9)
          have HC9 := Lib.hid (h9.gr.blk HC.out HNG.out.1 HNG.out.2.1)
          have HR9 := Lib.hid (h9.gr.blk HRr.out HNB.out.2.2.1 HNB.out.2.2.2)
          have HO9 := Lib.hid (ownsRow_gro HO.out h9.gr HZL.out.1 HZL.out.2.1)
          clear h9 HT9 cB HO HC HB HRr HS HF
          have r0 : w9.cell? ⟨g, 0, none⟩ = some (.int .i64 R1) := HC9.out.cell 0
          have r1 : w9.cell? ⟨g, 1, none⟩ = some (.slice A acc.length c) := HC9.out.cell 1
          have q0 : w9.cell? ⟨w.heap.size + 1, 0, none⟩ = some (.int .i64 0) := HR9.out.cell 0
          have q1 : w9.cell? ⟨w.heap.size + 1, 1, none⟩ = some (.slice none 0 0) := HR9.out.cell 1
          have f0 : w9.frozen? ⟨w.heap.size + 1, 0, none⟩ = false := HR9.out.frozen 0
          have f1 : w9.frozen? ⟨w.heap.size + 1, 1, none⟩ = false := HR9.out.frozen 1
          go_wp2
          refine bodyPost_ret (v := .agg #[.int .i64 R1, .slice A acc.length c]) ?_ rfl ?_
          · exact results_cell_row (fn := Tryz.f135) (p := 2) (ty := 35) rfl _ _ (w.heap.size + 1) 35 #[.int .i64 R1, .slice A acc.length c] (0, 0) _ rfl (put2O HR9.out _ _) Tryz.underlying35 rfl (by kernel_rfl)
          · exact call_end HR.out HRL.out HS9.out HO9.out HNG2.out HZB.out.2 (by have := HBW.out; have := HZW.out; omega) HZW.out.1 _ _
      · have HA5 := Lib.hid ((HK.out.symm.trans HA.out : _ = RL))
        rw [if_neg htx] at HA5
        have HF5 := Lib.hid (HTX.out htx)
        clear HK HA HTX
        generalize nxt r.x.l i = t at *
        obtain ⟨tk, tx, tv, tl⟩ := t
        simp only at htx HN
        have hft := tk_text (.int .i64 tk) (.string ⟨tx.toArray⟩) (.int .u32 tv) (.int .i64 tl)
        have hq1 : (tx == [41]) = false := beq_eq_false_iff_ne.2 htx
        have hq2 : (tx != [41]) = true := bne_iff_ne.2 htx
        clear htx
        cases f with
        | true =>
          go_wp2_with fail
          refine HN.out.mono ?_
          rintro e1 w3 ⟨rfl, hb3⟩
          replace HS := Lib.hid (HS.out.below hb3)
          replace HZs := Lib.hid (Nat.le_trans HZs.out hb3.size)
          replace HO := Lib.hid (ownsRow_below HO.out hb3)
          replace HC := Lib.hid (HC.out.below hb3 HC.out.lt)
          replace HB := Lib.hid (HB.out.below hb3 HB.out.lt)
          replace HRr := Lib.hid (HRr.out.below hb3 HRr.out.lt)
          clear hb3 HN c11 c9 cB
          have cB : w3.cell? ⟨w.heap.size, 0, none⟩ = some (pR r) := HB.out.cell 0
          simp only [if_true] at HA5 HF5
          obtain ⟨s4, hs4⟩ : ∃ s4, s4 = PS.ok i := ⟨_, rfl⟩
          rw [← hs4] at HA5 HF5 HS
          clear hs4
          go_upto_region 10 with fail
          have HSD := Lib.hid (HS.out.below (below_drew (Below.refl _ _)))
          have HOD := Lib.hid (ownsRow_below HO.out (below_drew (Below.refl _ _)))
          have HCD := Lib.hid (HC.out.below (below_drew (Below.refl _ _)) HC.out.lt)
          have HBD := Lib.hid (HB.out.below (below_drew (Below.refl _ _)) HB.out.lt)
          have HRD := Lib.hid (HRr.out.below (below_drew (Below.refl _ _)) HRr.out.lt)
          have HLn : Hid (acc.length ≤ 4098) := Lib.hid (by have := HM.out; have := HFew.out; omega)
          have HCg := Lib.hid (HC.out.cell 1)
          clear HS HO HC HB HRr cB
          refine wp_region_held_drew (S := (fun u => u.cell? ⟨w.heap.size, 0, none⟩ = some (pR r))) (by kernel_rfl) (HBD.out.cell 0) (fun hHeld => ?_)
          refine wpAnyH_take (i := 0) (oi := { dst := some 52, op := Op.fieldAddr 35 (Operand.tmp 3) 1, type := 0, pos := "optext.go:148", after := #[], guard := none }) (v := ?b1_v0) rfl (by kernel_rfl) (by kernel_rfl) (by kernel_rfl) (fun _ _ _ h => h) (Or.inl ⟨by rfl, ?b1_y0⟩) (by assumption) ?b1_r0
          case b1_y0 => (intro w hSw; (try dsimp only at hSw); go_simp; try (with_reducible rfl))
          try simp only [Act.put, List.setIfInBounds_toArray, List.set_cons_zero, List.set_cons_succ]
          refine wpAnyH_take (i := 2) (oi := { dst := some 54, op := Op.load 120 (Operand.tmp 1), type := 120, pos := "optext.go:148", after := #[], guard := none }) (v := ?b2_v2) rfl (by kernel_rfl) (by kernel_rfl) (by kernel_rfl) (fun _ _ _ h => h) (Or.inl ⟨by rfl, ?b2_y2⟩) (by assumption) ?b2_r2
          case b2_y2 => (intro w hSw; (try dsimp only at hSw); go_simp; try (with_reducible rfl))
          try simp only [Act.put, List.setIfInBounds_toArray, List.set_cons_zero, List.set_cons_succ]
          refine wpAnyH_ready (rs := [1, 3]) (by kernel_rfl) (by simp) ?_
          refine AllReadyH.cons (o := { dst := some 53, op := Op.load 33 (Operand.tmp 52), type := 33, pos := "optext.go:148", after := #[{ on := 0, ground := Ground.data }], guard := none }) rfl (fun K hK => ?_) (AllReadyH.cons (o := { dst := some 55, op := Op.call { callee := Callee.value (Operand.func 134), args := #[Operand.tmp 54], argTypes := #[120] }, type := 66, pos := "optext.go:148", after := #[{ on := 2, ground := Ground.data }], guard := none }) rfl (fun K hK => ?_) (AllReadyH.nil))
          · skip
            have cg := HCg.out
            go_simp
            refine hK.out _ _ (HBD.out.cell 0) (fun hHeldL => ?_)
            clear hK K cg
            try simp only [Act.put, List.setIfInBounds_toArray, List.set_cons_zero, List.set_cons_succ]
            refine wpAnyH_ready (rs := [3]) (by kernel_rfl) (by simp) ?_
            refine AllReadyH.cons (o := { dst := some 55, op := Op.call { callee := Callee.value (Operand.func 134), args := #[Operand.tmp 54], argTypes := #[120] }, type := 66, pos := "optext.go:148", after := #[{ on := 2, ground := Ground.data }], guard := none }) rfl (fun K hK => ?_) (AllReadyH.nil)
            go_simp
            go_at_call 134
            refine (onumber HE.out HSD.out.refl).mono ?_
            rintro e w4 ⟨rfl, h4⟩
            have HS4 := Lib.hid (HSD.out.then h4)
            have HZ4 : Hid (Z.heap.size ≤ w4.heap.size) := Lib.hid (Nat.le_trans HZs.out h4.gr.size)
            have HO4 := Lib.hid (ownsRow_gro HOD.out h4.gr HZL.out.1 HZL.out.2.1)
            have HC4 := Lib.hid (h4.gr.blk HCD.out HNG.out.1 HNG.out.2.1)
            have HB4 := Lib.hid (h4.gr.blk HBD.out HNB.out.1 HNB.out.2.1)
            have HR4 := Lib.hid (h4.gr.blk HRD.out HNB.out.2.2.1 HNB.out.2.2.2)
            clear h4
            generalize numA r.x.l s4 = q at *
            obtain ⟨v, s5⟩ := q
            simp only at HS4 HA5 HF5 ⊢
            have hNEW : w4.cell? ⟨w.heap.size, 0, none⟩ = some (pR r) := HB4.out.cell 0
            refine hK.out _ _ hNEW (fun hHeld5 => ?_)
            clear hK K hNEW
            refine wpAnyH_ready (rs := [4]) (by kernel_rfl) (by simp) ?_
            refine AllReadyH.cons (o := { dst := some 56, op := Op.buildSlice 33 1 #[(0, Operand.tmp 55)], type := 33, pos := "optext.go:148", after := #[{ on := 3, ground := Ground.data }], guard := none }) rfl (fun K hK => ?_) (AllReadyH.nil)
            go_simp
            obtain ⟨U, hU⟩ : ∃ U, U = (w4.alloc (.cells #[.int .u32 v] 66)) := ⟨_, rfl⟩
            have HBU : Hid (Below w4.heap.size w4 U) := Lib.hid (by rw [hU]; exact below1 _ _)
            have HNW : Hid (Blk U w4.heap.size 66 #[.int .u32 v]) := Lib.hid (by rw [hU]; exact show Blk (w4.alloc _) _ _ _ from Blk.new w4 _ _)
            have HSU := Lib.hid (HS4.out.below HBU.out)
            have HZU : Hid (Z.heap.size ≤ U.heap.size) := Lib.hid (Nat.le_trans HZ4.out HBU.out.size)
            have HOU := Lib.hid (ownsRow_below HO4.out HBU.out)
            have HCU := Lib.hid (HC4.out.below HBU.out HC4.out.lt)
            have HB5 := Lib.hid (HB4.out.below HBU.out HB4.out.lt)
            have HR5 := Lib.hid (HR4.out.below HBU.out HR4.out.lt)
            have hNEW : (w4.alloc (.cells #[.int .u32 v] 66)).cell? ⟨w.heap.size, 0, none⟩ = some (pR r) := by rw [← hU]; exact HB5.out.cell 0
            refine hK.out _ _ hNEW (fun hHeld6 => ?_)
            clear hK K hNEW
            rw [← hU]
            clear hU
            refine wpAnyH_ready (rs := [5]) (by kernel_rfl) (by simp) ?_
            refine AllReadyH.cons (o := { dst := some 57, op := Op.call { callee := Callee.builtin Builtin.append, args := #[Operand.tmp 53, Operand.tmp 56], argTypes := #[33, 33] }, type := 33, pos := "optext.go:148", after := #[{ on := 1, ground := Ground.data }, { on := 4, ground := Ground.data }, { on := 3, ground := Ground.chain }], guard := none }) rfl (fun K hK => ?_) (AllReadyH.nil)
            rw [if_pos (by rfl)]
            refine opwp_append_O (.tmp 53) (.tmp 56) 33 rfl Z.heap.size 66 i0 _ 1 4 Tryz.underlying33 hi hz0 hz1 hz2 rfl (by decide) _ _ _ rfl HOU.out ⟨[(v : Int)], some ⟨w4.heap.size, 0, none⟩, 1⟩ rfl (one_u32 HNW.out) (fun h => by cases h) (fun _ => rfl) one_uc ?g1q1 ?g2q1 ?g3q1 ?_
            case g1q1 => have := HLn.out; unfold maxLen; simp only [List.length_cons, List.length_nil]; omega
            case g2q1 => have := HLn.out; simp only [List.length_cons, List.length_nil]; omega
            case g3q1 => exact HZU.out
            intro v6 w6 hown6 hgr6
            have hBW : Below Z.heap.size U w6 := grown_below HOU.out hgr6 HZU.out
            have HZ6 : Hid (Z.heap.size ≤ w6.heap.size) := Lib.hid (Nat.le_trans HZU.out hBW.size)
            have HS6 : Hid (OSt W w w6 r s5) := Lib.hid (HSU.out.above hBW HZW.out.1 HZW.out.2 ⟨HZL.out.1, HZL.out.2.1, HZL.out.2.2⟩)
            have HC6 : Hid (Blk w6 g 35 #[.int .i64 R1, .slice A acc.length c]) := Lib.hid (HCU.out.below hBW HZG.out)
            have HB6 : Hid (Blk w6 w.heap.size 120 #[pR r]) := Lib.hid (HB5.out.below hBW HZB.out.1)
            have HR6 : Hid (Blk w6 (w.heap.size + 1) 35 #[.int .i64 0, .slice none 0 0]) := Lib.hid (HR5.out.below hBW HZB.out.2)
            obtain ⟨A6, c6, rfl⟩ := row_sliceO hown6
            have HOl := Lib.hid (own_ltO hown6)
            have HO6 := Lib.hid hown6
            have hNEW : w6.cell? ⟨w.heap.size, 0, none⟩ = some (pR r) := HB6.out.cell 0
            refine hK.out _ _ hNEW (fun hHeld7 => ?_)
            clear hK K hNEW hown6 hgr6 hBW
            try simp only [Act.put, List.setIfInBounds_toArray, List.set_cons_zero, List.set_cons_succ]
            refine wpAnyH_take (i := 6) (oi := { dst := some 58, op := Op.fieldAddr 35 (Operand.tmp 3) 1, type := 0, pos := "optext.go:148", after := #[{ on := 0, ground := Ground.phase }, { on := 1, ground := Ground.phase }, { on := 2, ground := Ground.phase }, { on := 3, ground := Ground.phase }, { on := 4, ground := Ground.phase }, { on := 5, ground := Ground.phase }], guard := none }) (v := ?b3_v6) rfl (by kernel_rfl) (by kernel_rfl) (by kernel_rfl) (fun _ _ _ h => h) (Or.inl ⟨by rfl, ?b3_y6⟩) (by assumption) ?b3_r6
            case b3_y6 => (intro w hSw; (try dsimp only at hSw); go_simp; try (with_reducible rfl))
            try simp only [Act.put, List.setIfInBounds_toArray, List.set_cons_zero, List.set_cons_succ]
            refine wpAnyH_ready (rs := [7]) (by kernel_rfl) (by simp) ?_
            refine AllReadyH.cons (o := { dst := none, op := Op.store 33 (Operand.tmp 58) (Operand.tmp 57), type := 0, pos := "optext.go:148", after := #[{ on := 6, ground := Ground.data }, { on := 5, ground := Ground.data }, { on := 5, ground := Ground.chain }, { on := 0, ground := Ground.phase }, { on := 1, ground := Ground.phase }, { on := 2, ground := Ground.phase }, { on := 3, ground := Ground.phase }, { on := 4, ground := Ground.phase }, { on := 5, ground := Ground.phase }], guard := none }) rfl (fun K hK => ?_) (AllReadyH.nil)
            have r1 : w6.cell? ⟨g, 1, none⟩ = some (.slice A acc.length c) := HC6.out.cell 1
            have f1 : w6.frozen? ⟨g, 1, none⟩ = false := HC6.out.frozen 1
            go_simp
            obtain ⟨U7, hU7⟩ : ∃ U7, U7 = (w6.setCell ⟨g, 1, none⟩ (.slice A6 (acc.length + 1) c6)) := ⟨_, rfl⟩
            have HC7 : Hid (Blk U7 g 35 #[.int .i64 R1, .slice A6 (acc ++ [(v : Int)]).length c6]) := Lib.hid (by rw [hU7, List.length_append]; exact HC6.out.set_ 1 _)
            have HB7 : Hid (Blk U7 w.heap.size 120 #[pR r]) := Lib.hid (by rw [hU7]; exact HB6.out.far (by have := HNG.out; simp; omega) _)
            have HR7 : Hid (Blk U7 (w.heap.size + 1) 35 #[.int .i64 0, .slice none 0 0]) := Lib.hid (by rw [hU7]; exact HR6.out.far (by have := HNG.out; simp; omega) _)
            have HS7 : Hid (OSt W w U7 r s5) := Lib.hid (by rw [hU7]; have h := HNG.out; have h2 := HBW.out; exact HS6.out.set (by omega) (by omega) h.1 h.2.1 h.2.2.1 1 _)
            have HO7 : Hid (U7.ownsRow Z.heap.size 66 1 (.slice A6 (acc ++ [(v : Int)]).length c6) (acc ++ [(v : Int)]).length ((acc ++ [(v : Int)]).flatMap ucell)) := Lib.hid (by rw [hU7, List.length_append, List.flatMap_append]; exact own_setO HO6.out (p := ⟨g, 1, none⟩) (fun e => by have t1 : Z.heap.size ≤ g := (HOl.out _ e).1; have t2 := HZG.out; omega) _)
            have HZ7 : Hid (Z.heap.size ≤ U7.heap.size) := Lib.hid (by rw [hU7]; simpa [World.setCell] using HZ6.out)
            have hNEW : (w6.setCell ⟨g, 1, none⟩ (.slice A6 (acc.length + 1) c6)).cell? ⟨w.heap.size, 0, none⟩ = some (pR r) := by rw [← hU7]; exact HB7.out.cell 0
            refine hK.out _ _ hNEW (fun hHeld8 => ?_)
            clear hK K hNEW
            rw [← hU7]
            clear hU7 r1 f1
            refine wpAnyH_done (by kernel_rfl) ?_ _
            go_wp2
            go_roundw
            case rel => exact ⟨n, acc ++ [(v : Int)], A6, c6, s5, false, rfl, by rw [List.length_append]; simp; omega, HF5, HA5, HO7, HC7, HB7, HR7, HS7, HZ7⟩
            case measure => have hu := HC7.out.cell 1; have hv := HCW.out; have := HLn.out; rw [hu, hv]; show 5000 - (acc ++ [(v : Int)]).length < 5000 - acc.length; rw [List.length_append]; simp only [List.length_cons, List.length_nil]; omega
          · skip
            go_simp
            go_at_call 134
            refine (onumber HE.out HSD.out.refl).mono ?_
            rintro e w4 ⟨rfl, h4⟩
            have HS4 := Lib.hid (HSD.out.then h4)
            have HZ4 : Hid (Z.heap.size ≤ w4.heap.size) := Lib.hid (Nat.le_trans HZs.out h4.gr.size)
            have HO4 := Lib.hid (ownsRow_gro HOD.out h4.gr HZL.out.1 HZL.out.2.1)
            have HC4 := Lib.hid (h4.gr.blk HCD.out HNG.out.1 HNG.out.2.1)
            have HB4 := Lib.hid (h4.gr.blk HBD.out HNB.out.1 HNB.out.2.1)
            have HR4 := Lib.hid (h4.gr.blk HRD.out HNB.out.2.2.1 HNB.out.2.2.2)
            clear h4
            generalize numA r.x.l s4 = q at *
            obtain ⟨v, s5⟩ := q
            simp only at HS4 HA5 HF5 ⊢
            have hNEW : w4.cell? ⟨w.heap.size, 0, none⟩ = some (pR r) := HB4.out.cell 0
            refine hK.out _ _ hNEW (fun hHeld5 => ?_)
            clear hK K hNEW
            refine wpAnyH_ready (rs := [1, 4]) (by kernel_rfl) (by simp) ?_
            refine AllReadyH.cons (o := { dst := some 53, op := Op.load 33 (Operand.tmp 52), type := 33, pos := "optext.go:148", after := #[{ on := 0, ground := Ground.data }], guard := none }) rfl (fun K hK => ?_) (AllReadyH.cons (o := { dst := some 56, op := Op.buildSlice 33 1 #[(0, Operand.tmp 55)], type := 33, pos := "optext.go:148", after := #[{ on := 3, ground := Ground.data }], guard := none }) rfl (fun K hK => ?_) (AllReadyH.nil))
            · skip
              have cg := HC4.out.cell 1
              go_simp
              refine hK.out _ _ (HB4.out.cell 0) (fun hHeldL => ?_)
              clear hK K cg
              try simp only [Act.put, List.setIfInBounds_toArray, List.set_cons_zero, List.set_cons_succ]
              refine wpAnyH_ready (rs := [4]) (by kernel_rfl) (by simp) ?_
              refine AllReadyH.cons (o := { dst := some 56, op := Op.buildSlice 33 1 #[(0, Operand.tmp 55)], type := 33, pos := "optext.go:148", after := #[{ on := 3, ground := Ground.data }], guard := none }) rfl (fun K hK => ?_) (AllReadyH.nil)
              go_simp
              obtain ⟨U, hU⟩ : ∃ U, U = (w4.alloc (.cells #[.int .u32 v] 66)) := ⟨_, rfl⟩
              have HBU : Hid (Below w4.heap.size w4 U) := Lib.hid (by rw [hU]; exact below1 _ _)
              have HNW : Hid (Blk U w4.heap.size 66 #[.int .u32 v]) := Lib.hid (by rw [hU]; exact show Blk (w4.alloc _) _ _ _ from Blk.new w4 _ _)
              have HSU := Lib.hid (HS4.out.below HBU.out)
              have HZU : Hid (Z.heap.size ≤ U.heap.size) := Lib.hid (Nat.le_trans HZ4.out HBU.out.size)
              have HOU := Lib.hid (ownsRow_below HO4.out HBU.out)
              have HCU := Lib.hid (HC4.out.below HBU.out HC4.out.lt)
              have HB5 := Lib.hid (HB4.out.below HBU.out HB4.out.lt)
              have HR5 := Lib.hid (HR4.out.below HBU.out HR4.out.lt)
              have hNEW : (w4.alloc (.cells #[.int .u32 v] 66)).cell? ⟨w.heap.size, 0, none⟩ = some (pR r) := by rw [← hU]; exact HB5.out.cell 0
              refine hK.out _ _ hNEW (fun hHeld6 => ?_)
              clear hK K hNEW
              rw [← hU]
              clear hU
              refine wpAnyH_ready (rs := [5]) (by kernel_rfl) (by simp) ?_
              refine AllReadyH.cons (o := { dst := some 57, op := Op.call { callee := Callee.builtin Builtin.append, args := #[Operand.tmp 53, Operand.tmp 56], argTypes := #[33, 33] }, type := 33, pos := "optext.go:148", after := #[{ on := 1, ground := Ground.data }, { on := 4, ground := Ground.data }, { on := 3, ground := Ground.chain }], guard := none }) rfl (fun K hK => ?_) (AllReadyH.nil)
              rw [if_pos (by rfl)]
              refine opwp_append_O (.tmp 53) (.tmp 56) 33 rfl Z.heap.size 66 i0 _ 1 4 Tryz.underlying33 hi hz0 hz1 hz2 rfl (by decide) _ _ _ rfl HOU.out ⟨[(v : Int)], some ⟨w4.heap.size, 0, none⟩, 1⟩ rfl (one_u32 HNW.out) (fun h => by cases h) (fun _ => rfl) one_uc ?g1q2 ?g2q2 ?g3q2 ?_
              case g1q2 => have := HLn.out; unfold maxLen; simp only [List.length_cons, List.length_nil]; omega
              case g2q2 => have := HLn.out; simp only [List.length_cons, List.length_nil]; omega
              case g3q2 => exact HZU.out
              intro v6 w6 hown6 hgr6
              have hBW : Below Z.heap.size U w6 := grown_below HOU.out hgr6 HZU.out
              have HZ6 : Hid (Z.heap.size ≤ w6.heap.size) := Lib.hid (Nat.le_trans HZU.out hBW.size)
              have HS6 : Hid (OSt W w w6 r s5) := Lib.hid (HSU.out.above hBW HZW.out.1 HZW.out.2 ⟨HZL.out.1, HZL.out.2.1, HZL.out.2.2⟩)
              have HC6 : Hid (Blk w6 g 35 #[.int .i64 R1, .slice A acc.length c]) := Lib.hid (HCU.out.below hBW HZG.out)
              have HB6 : Hid (Blk w6 w.heap.size 120 #[pR r]) := Lib.hid (HB5.out.below hBW HZB.out.1)
              have HR6 : Hid (Blk w6 (w.heap.size + 1) 35 #[.int .i64 0, .slice none 0 0]) := Lib.hid (HR5.out.below hBW HZB.out.2)
              obtain ⟨A6, c6, rfl⟩ := row_sliceO hown6
              have HOl := Lib.hid (own_ltO hown6)
              have HO6 := Lib.hid hown6
              have hNEW : w6.cell? ⟨w.heap.size, 0, none⟩ = some (pR r) := HB6.out.cell 0
              refine hK.out _ _ hNEW (fun hHeld7 => ?_)
              clear hK K hNEW hown6 hgr6 hBW
              try simp only [Act.put, List.setIfInBounds_toArray, List.set_cons_zero, List.set_cons_succ]
              refine wpAnyH_take (i := 6) (oi := { dst := some 58, op := Op.fieldAddr 35 (Operand.tmp 3) 1, type := 0, pos := "optext.go:148", after := #[{ on := 0, ground := Ground.phase }, { on := 1, ground := Ground.phase }, { on := 2, ground := Ground.phase }, { on := 3, ground := Ground.phase }, { on := 4, ground := Ground.phase }, { on := 5, ground := Ground.phase }], guard := none }) (v := ?b4_v6) rfl (by kernel_rfl) (by kernel_rfl) (by kernel_rfl) (fun _ _ _ h => h) (Or.inl ⟨by rfl, ?b4_y6⟩) (by assumption) ?b4_r6
              case b4_y6 => (intro w hSw; (try dsimp only at hSw); go_simp; try (with_reducible rfl))
              try simp only [Act.put, List.setIfInBounds_toArray, List.set_cons_zero, List.set_cons_succ]
              refine wpAnyH_ready (rs := [7]) (by kernel_rfl) (by simp) ?_
              refine AllReadyH.cons (o := { dst := none, op := Op.store 33 (Operand.tmp 58) (Operand.tmp 57), type := 0, pos := "optext.go:148", after := #[{ on := 6, ground := Ground.data }, { on := 5, ground := Ground.data }, { on := 5, ground := Ground.chain }, { on := 0, ground := Ground.phase }, { on := 1, ground := Ground.phase }, { on := 2, ground := Ground.phase }, { on := 3, ground := Ground.phase }, { on := 4, ground := Ground.phase }, { on := 5, ground := Ground.phase }], guard := none }) rfl (fun K hK => ?_) (AllReadyH.nil)
              have r1 : w6.cell? ⟨g, 1, none⟩ = some (.slice A acc.length c) := HC6.out.cell 1
              have f1 : w6.frozen? ⟨g, 1, none⟩ = false := HC6.out.frozen 1
              go_simp
              obtain ⟨U7, hU7⟩ : ∃ U7, U7 = (w6.setCell ⟨g, 1, none⟩ (.slice A6 (acc.length + 1) c6)) := ⟨_, rfl⟩
              have HC7 : Hid (Blk U7 g 35 #[.int .i64 R1, .slice A6 (acc ++ [(v : Int)]).length c6]) := Lib.hid (by rw [hU7, List.length_append]; exact HC6.out.set_ 1 _)
              have HB7 : Hid (Blk U7 w.heap.size 120 #[pR r]) := Lib.hid (by rw [hU7]; exact HB6.out.far (by have := HNG.out; simp; omega) _)
              have HR7 : Hid (Blk U7 (w.heap.size + 1) 35 #[.int .i64 0, .slice none 0 0]) := Lib.hid (by rw [hU7]; exact HR6.out.far (by have := HNG.out; simp; omega) _)
              have HS7 : Hid (OSt W w U7 r s5) := Lib.hid (by rw [hU7]; have h := HNG.out; have h2 := HBW.out; exact HS6.out.set (by omega) (by omega) h.1 h.2.1 h.2.2.1 1 _)
              have HO7 : Hid (U7.ownsRow Z.heap.size 66 1 (.slice A6 (acc ++ [(v : Int)]).length c6) (acc ++ [(v : Int)]).length ((acc ++ [(v : Int)]).flatMap ucell)) := Lib.hid (by rw [hU7, List.length_append, List.flatMap_append]; exact own_setO HO6.out (p := ⟨g, 1, none⟩) (fun e => by have t1 : Z.heap.size ≤ g := (HOl.out _ e).1; have t2 := HZG.out; omega) _)
              have HZ7 : Hid (Z.heap.size ≤ U7.heap.size) := Lib.hid (by rw [hU7]; simpa [World.setCell] using HZ6.out)
              have hNEW : (w6.setCell ⟨g, 1, none⟩ (.slice A6 (acc.length + 1) c6)).cell? ⟨w.heap.size, 0, none⟩ = some (pR r) := by rw [← hU7]; exact HB7.out.cell 0
              refine hK.out _ _ hNEW (fun hHeld8 => ?_)
              clear hK K hNEW
              rw [← hU7]
              clear hU7 r1 f1
              refine wpAnyH_done (by kernel_rfl) ?_ _
              go_wp2
              go_roundw
              case rel => exact ⟨n, acc ++ [(v : Int)], A6, c6, s5, false, rfl, by rw [List.length_append]; simp; omega, HF5, HA5, HO7, HC7, HB7, HR7, HS7, HZ7⟩
              case measure => have hu := HC7.out.cell 1; have hv := HCW.out; have := HLn.out; rw [hu, hv]; show 5000 - (acc ++ [(v : Int)]).length < 5000 - acc.length; rw [List.length_append]; simp only [List.length_cons, List.length_nil]; omega
            · skip
              go_simp
              obtain ⟨U, hU⟩ : ∃ U, U = (w4.alloc (.cells #[.int .u32 v] 66)) := ⟨_, rfl⟩
              have HBU : Hid (Below w4.heap.size w4 U) := Lib.hid (by rw [hU]; exact below1 _ _)
              have HNW : Hid (Blk U w4.heap.size 66 #[.int .u32 v]) := Lib.hid (by rw [hU]; exact show Blk (w4.alloc _) _ _ _ from Blk.new w4 _ _)
              have HSU := Lib.hid (HS4.out.below HBU.out)
              have HZU : Hid (Z.heap.size ≤ U.heap.size) := Lib.hid (Nat.le_trans HZ4.out HBU.out.size)
              have HOU := Lib.hid (ownsRow_below HO4.out HBU.out)
              have HCU := Lib.hid (HC4.out.below HBU.out HC4.out.lt)
              have HB5 := Lib.hid (HB4.out.below HBU.out HB4.out.lt)
              have HR5 := Lib.hid (HR4.out.below HBU.out HR4.out.lt)
              have hNEW : (w4.alloc (.cells #[.int .u32 v] 66)).cell? ⟨w.heap.size, 0, none⟩ = some (pR r) := by rw [← hU]; exact HB5.out.cell 0
              refine hK.out _ _ hNEW (fun hHeld6 => ?_)
              clear hK K hNEW
              rw [← hU]
              clear hU
              refine wpAnyH_ready (rs := [1]) (by kernel_rfl) (by simp) ?_
              refine AllReadyH.cons (o := { dst := some 53, op := Op.load 33 (Operand.tmp 52), type := 33, pos := "optext.go:148", after := #[{ on := 0, ground := Ground.data }], guard := none }) rfl (fun K hK => ?_) (AllReadyH.nil)
              have cg := HCU.out.cell 1
              go_simp
              refine hK.out _ _ (HB5.out.cell 0) (fun hHeldL => ?_)
              clear hK K cg
              try simp only [Act.put, List.setIfInBounds_toArray, List.set_cons_zero, List.set_cons_succ]
              refine wpAnyH_ready (rs := [5]) (by kernel_rfl) (by simp) ?_
              refine AllReadyH.cons (o := { dst := some 57, op := Op.call { callee := Callee.builtin Builtin.append, args := #[Operand.tmp 53, Operand.tmp 56], argTypes := #[33, 33] }, type := 33, pos := "optext.go:148", after := #[{ on := 1, ground := Ground.data }, { on := 4, ground := Ground.data }, { on := 3, ground := Ground.chain }], guard := none }) rfl (fun K hK => ?_) (AllReadyH.nil)
              rw [if_pos (by rfl)]
              refine opwp_append_O (.tmp 53) (.tmp 56) 33 rfl Z.heap.size 66 i0 _ 1 4 Tryz.underlying33 hi hz0 hz1 hz2 rfl (by decide) _ _ _ rfl HOU.out ⟨[(v : Int)], some ⟨w4.heap.size, 0, none⟩, 1⟩ rfl (one_u32 HNW.out) (fun h => by cases h) (fun _ => rfl) one_uc ?g1q3 ?g2q3 ?g3q3 ?_
              case g1q3 => have := HLn.out; unfold maxLen; simp only [List.length_cons, List.length_nil]; omega
              case g2q3 => have := HLn.out; simp only [List.length_cons, List.length_nil]; omega
              case g3q3 => exact HZU.out
              intro v6 w6 hown6 hgr6
              have hBW : Below Z.heap.size U w6 := grown_below HOU.out hgr6 HZU.out
              have HZ6 : Hid (Z.heap.size ≤ w6.heap.size) := Lib.hid (Nat.le_trans HZU.out hBW.size)
              have HS6 : Hid (OSt W w w6 r s5) := Lib.hid (HSU.out.above hBW HZW.out.1 HZW.out.2 ⟨HZL.out.1, HZL.out.2.1, HZL.out.2.2⟩)
              have HC6 : Hid (Blk w6 g 35 #[.int .i64 R1, .slice A acc.length c]) := Lib.hid (HCU.out.below hBW HZG.out)
              have HB6 : Hid (Blk w6 w.heap.size 120 #[pR r]) := Lib.hid (HB5.out.below hBW HZB.out.1)
              have HR6 : Hid (Blk w6 (w.heap.size + 1) 35 #[.int .i64 0, .slice none 0 0]) := Lib.hid (HR5.out.below hBW HZB.out.2)
              obtain ⟨A6, c6, rfl⟩ := row_sliceO hown6
              have HOl := Lib.hid (own_ltO hown6)
              have HO6 := Lib.hid hown6
              have hNEW : w6.cell? ⟨w.heap.size, 0, none⟩ = some (pR r) := HB6.out.cell 0
              refine hK.out _ _ hNEW (fun hHeld7 => ?_)
              clear hK K hNEW hown6 hgr6 hBW
              try simp only [Act.put, List.setIfInBounds_toArray, List.set_cons_zero, List.set_cons_succ]
              refine wpAnyH_take (i := 6) (oi := { dst := some 58, op := Op.fieldAddr 35 (Operand.tmp 3) 1, type := 0, pos := "optext.go:148", after := #[{ on := 0, ground := Ground.phase }, { on := 1, ground := Ground.phase }, { on := 2, ground := Ground.phase }, { on := 3, ground := Ground.phase }, { on := 4, ground := Ground.phase }, { on := 5, ground := Ground.phase }], guard := none }) (v := ?b5_v6) rfl (by kernel_rfl) (by kernel_rfl) (by kernel_rfl) (fun _ _ _ h => h) (Or.inl ⟨by rfl, ?b5_y6⟩) (by assumption) ?b5_r6
              case b5_y6 => (intro w hSw; (try dsimp only at hSw); go_simp; try (with_reducible rfl))
              try simp only [Act.put, List.setIfInBounds_toArray, List.set_cons_zero, List.set_cons_succ]
              refine wpAnyH_ready (rs := [7]) (by kernel_rfl) (by simp) ?_
              refine AllReadyH.cons (o := { dst := none, op := Op.store 33 (Operand.tmp 58) (Operand.tmp 57), type := 0, pos := "optext.go:148", after := #[{ on := 6, ground := Ground.data }, { on := 5, ground := Ground.data }, { on := 5, ground := Ground.chain }, { on := 0, ground := Ground.phase }, { on := 1, ground := Ground.phase }, { on := 2, ground := Ground.phase }, { on := 3, ground := Ground.phase }, { on := 4, ground := Ground.phase }, { on := 5, ground := Ground.phase }], guard := none }) rfl (fun K hK => ?_) (AllReadyH.nil)
              have r1 : w6.cell? ⟨g, 1, none⟩ = some (.slice A acc.length c) := HC6.out.cell 1
              have f1 : w6.frozen? ⟨g, 1, none⟩ = false := HC6.out.frozen 1
              go_simp
              obtain ⟨U7, hU7⟩ : ∃ U7, U7 = (w6.setCell ⟨g, 1, none⟩ (.slice A6 (acc.length + 1) c6)) := ⟨_, rfl⟩
              have HC7 : Hid (Blk U7 g 35 #[.int .i64 R1, .slice A6 (acc ++ [(v : Int)]).length c6]) := Lib.hid (by rw [hU7, List.length_append]; exact HC6.out.set_ 1 _)
              have HB7 : Hid (Blk U7 w.heap.size 120 #[pR r]) := Lib.hid (by rw [hU7]; exact HB6.out.far (by have := HNG.out; simp; omega) _)
              have HR7 : Hid (Blk U7 (w.heap.size + 1) 35 #[.int .i64 0, .slice none 0 0]) := Lib.hid (by rw [hU7]; exact HR6.out.far (by have := HNG.out; simp; omega) _)
              have HS7 : Hid (OSt W w U7 r s5) := Lib.hid (by rw [hU7]; have h := HNG.out; have h2 := HBW.out; exact HS6.out.set (by omega) (by omega) h.1 h.2.1 h.2.2.1 1 _)
              have HO7 : Hid (U7.ownsRow Z.heap.size 66 1 (.slice A6 (acc ++ [(v : Int)]).length c6) (acc ++ [(v : Int)]).length ((acc ++ [(v : Int)]).flatMap ucell)) := Lib.hid (by rw [hU7, List.length_append, List.flatMap_append]; exact own_setO HO6.out (p := ⟨g, 1, none⟩) (fun e => by have t1 : Z.heap.size ≤ g := (HOl.out _ e).1; have t2 := HZG.out; omega) _)
              have HZ7 : Hid (Z.heap.size ≤ U7.heap.size) := Lib.hid (by rw [hU7]; simpa [World.setCell] using HZ6.out)
              have hNEW : (w6.setCell ⟨g, 1, none⟩ (.slice A6 (acc.length + 1) c6)).cell? ⟨w.heap.size, 0, none⟩ = some (pR r) := by rw [← hU7]; exact HB7.out.cell 0
              refine hK.out _ _ hNEW (fun hHeld8 => ?_)
              clear hK K hNEW
              rw [← hU7]
              clear hU7 r1 f1
              refine wpAnyH_done (by kernel_rfl) ?_ _
              go_wp2
              go_roundw
              case rel => exact ⟨n, acc ++ [(v : Int)], A6, c6, s5, false, rfl, by rw [List.length_append]; simp; omega, HF5, HA5, HO7, HC7, HB7, HR7, HS7, HZ7⟩
              case measure => have hu := HC7.out.cell 1; have hv := HCW.out; have := HLn.out; rw [hu, hv]; show 5000 - (acc ++ [(v : Int)]).length < 5000 - acc.length; rw [List.length_append]; simp only [List.length_cons, List.length_nil]; omega
        | false =>
          go_wp2_with fail
          refine HN.out.mono ?_
          rintro e1 w3 ⟨rfl, hb3⟩
          replace HS := Lib.hid (HS.out.below hb3)
          replace HZs := Lib.hid (Nat.le_trans HZs.out hb3.size)
          replace HO := Lib.hid (ownsRow_below HO.out hb3)
          replace HC := Lib.hid (HC.out.below hb3 HC.out.lt)
          replace HB := Lib.hid (HB.out.below hb3 HB.out.lt)
          replace HRr := Lib.hid (HRr.out.below hb3 HRr.out.lt)
          clear hb3 HN c11 c9 cB
          have cB : w3.cell? ⟨w.heap.size, 0, none⟩ = some (pR r) := HB.out.cell 0
          simp only [Bool.false_eq_true, if_false] at HA5 HF5
          have HT4 := Lib.hid (otake HE.out HS.out.refl 3 (by decide) ⟨#[44]⟩)
          rw [show (⟨#[44]⟩ : ByteArray).data.toList = [44] from rfl] at HT4
          have HSA : Hid ((takeA r.x.l 3 [44] (.ok i)).2 = stepA r.x.l 3 [44] (.ok i)) := Lib.hid rfl
          go_wp2_with fail
          refine HT4.out.mono ?_
          rintro e4 w5 ⟨rfl, h4⟩
          replace HS := Lib.hid (HS.out.then h4)
          replace HZs := Lib.hid (Nat.le_trans HZs.out h4.gr.size)
          replace HO := Lib.hid (ownsRow_gro HO.out h4.gr HZL.out.1 HZL.out.2.1)
          replace HC := Lib.hid (h4.gr.blk HC.out HNG.out.1 HNG.out.2.1)
          replace HB := Lib.hid (h4.gr.blk HB.out HNB.out.1 HNB.out.2.1)
          replace HRr := Lib.hid (h4.gr.blk HRr.out HNB.out.2.2.1 HNB.out.2.2.2)
          clear h4 HT4 cB
          rw [HSA.out] at HS
          have cB : w5.cell? ⟨w.heap.size, 0, none⟩ = some (pR r) := HB.out.cell 0
          generalize stepA r.x.l 3 [44] (.ok i) = s4 at *
          clear HSA
          go_upto_region 10 with fail
          have HSD := Lib.hid (HS.out.below (below_drew (Below.refl _ _)))
          have HOD := Lib.hid (ownsRow_below HO.out (below_drew (Below.refl _ _)))
          have HCD := Lib.hid (HC.out.below (below_drew (Below.refl _ _)) HC.out.lt)
          have HBD := Lib.hid (HB.out.below (below_drew (Below.refl _ _)) HB.out.lt)
          have HRD := Lib.hid (HRr.out.below (below_drew (Below.refl _ _)) HRr.out.lt)
          have HLn : Hid (acc.length ≤ 4098) := Lib.hid (by have := HM.out; have := HFew.out; omega)
          have HCg := Lib.hid (HC.out.cell 1)
          clear HS HO HC HB HRr cB
          refine wp_region_held_drew (S := (fun u => u.cell? ⟨w.heap.size, 0, none⟩ = some (pR r))) (by kernel_rfl) (HBD.out.cell 0) (fun hHeld => ?_)
          refine wpAnyH_take (i := 0) (oi := { dst := some 52, op := Op.fieldAddr 35 (Operand.tmp 3) 1, type := 0, pos := "optext.go:148", after := #[], guard := none }) (v := ?d1_v0) rfl (by kernel_rfl) (by kernel_rfl) (by kernel_rfl) (fun _ _ _ h => h) (Or.inl ⟨by rfl, ?d1_y0⟩) (by assumption) ?d1_r0
          case d1_y0 => (intro w hSw; (try dsimp only at hSw); go_simp; try (with_reducible rfl))
          try simp only [Act.put, List.setIfInBounds_toArray, List.set_cons_zero, List.set_cons_succ]
          refine wpAnyH_take (i := 2) (oi := { dst := some 54, op := Op.load 120 (Operand.tmp 1), type := 120, pos := "optext.go:148", after := #[], guard := none }) (v := ?d2_v2) rfl (by kernel_rfl) (by kernel_rfl) (by kernel_rfl) (fun _ _ _ h => h) (Or.inl ⟨by rfl, ?d2_y2⟩) (by assumption) ?d2_r2
          case d2_y2 => (intro w hSw; (try dsimp only at hSw); go_simp; try (with_reducible rfl))
          try simp only [Act.put, List.setIfInBounds_toArray, List.set_cons_zero, List.set_cons_succ]
          refine wpAnyH_ready (rs := [1, 3]) (by kernel_rfl) (by simp) ?_
          refine AllReadyH.cons (o := { dst := some 53, op := Op.load 33 (Operand.tmp 52), type := 33, pos := "optext.go:148", after := #[{ on := 0, ground := Ground.data }], guard := none }) rfl (fun K hK => ?_) (AllReadyH.cons (o := { dst := some 55, op := Op.call { callee := Callee.value (Operand.func 134), args := #[Operand.tmp 54], argTypes := #[120] }, type := 66, pos := "optext.go:148", after := #[{ on := 2, ground := Ground.data }], guard := none }) rfl (fun K hK => ?_) (AllReadyH.nil))
          · skip
            have cg := HCg.out
            go_simp
            refine hK.out _ _ (HBD.out.cell 0) (fun hHeldL => ?_)
            clear hK K cg
            try simp only [Act.put, List.setIfInBounds_toArray, List.set_cons_zero, List.set_cons_succ]
            refine wpAnyH_ready (rs := [3]) (by kernel_rfl) (by simp) ?_
            refine AllReadyH.cons (o := { dst := some 55, op := Op.call { callee := Callee.value (Operand.func 134), args := #[Operand.tmp 54], argTypes := #[120] }, type := 66, pos := "optext.go:148", after := #[{ on := 2, ground := Ground.data }], guard := none }) rfl (fun K hK => ?_) (AllReadyH.nil)
            go_simp
            go_at_call 134
            refine (onumber HE.out HSD.out.refl).mono ?_
            rintro e w4 ⟨rfl, h4⟩
            have HS4 := Lib.hid (HSD.out.then h4)
            have HZ4 : Hid (Z.heap.size ≤ w4.heap.size) := Lib.hid (Nat.le_trans HZs.out h4.gr.size)
            have HO4 := Lib.hid (ownsRow_gro HOD.out h4.gr HZL.out.1 HZL.out.2.1)
            have HC4 := Lib.hid (h4.gr.blk HCD.out HNG.out.1 HNG.out.2.1)
            have HB4 := Lib.hid (h4.gr.blk HBD.out HNB.out.1 HNB.out.2.1)
            have HR4 := Lib.hid (h4.gr.blk HRD.out HNB.out.2.2.1 HNB.out.2.2.2)
            clear h4
            generalize numA r.x.l s4 = q at *
            obtain ⟨v, s5⟩ := q
            simp only at HS4 HA5 HF5 ⊢
            have hNEW : w4.cell? ⟨w.heap.size, 0, none⟩ = some (pR r) := HB4.out.cell 0
            refine hK.out _ _ hNEW (fun hHeld5 => ?_)
            clear hK K hNEW
            refine wpAnyH_ready (rs := [4]) (by kernel_rfl) (by simp) ?_
            refine AllReadyH.cons (o := { dst := some 56, op := Op.buildSlice 33 1 #[(0, Operand.tmp 55)], type := 33, pos := "optext.go:148", after := #[{ on := 3, ground := Ground.data }], guard := none }) rfl (fun K hK => ?_) (AllReadyH.nil)
            go_simp
            obtain ⟨U, hU⟩ : ∃ U, U = (w4.alloc (.cells #[.int .u32 v] 66)) := ⟨_, rfl⟩
            have HBU : Hid (Below w4.heap.size w4 U) := Lib.hid (by rw [hU]; exact below1 _ _)
            have HNW : Hid (Blk U w4.heap.size 66 #[.int .u32 v]) := Lib.hid (by rw [hU]; exact show Blk (w4.alloc _) _ _ _ from Blk.new w4 _ _)
            have HSU := Lib.hid (HS4.out.below HBU.out)
            have HZU : Hid (Z.heap.size ≤ U.heap.size) := Lib.hid (Nat.le_trans HZ4.out HBU.out.size)
            have HOU := Lib.hid (ownsRow_below HO4.out HBU.out)
            have HCU := Lib.hid (HC4.out.below HBU.out HC4.out.lt)
            have HB5 := Lib.hid (HB4.out.below HBU.out HB4.out.lt)
            have HR5 := Lib.hid (HR4.out.below HBU.out HR4.out.lt)
            have hNEW : (w4.alloc (.cells #[.int .u32 v] 66)).cell? ⟨w.heap.size, 0, none⟩ = some (pR r) := by rw [← hU]; exact HB5.out.cell 0
            refine hK.out _ _ hNEW (fun hHeld6 => ?_)
            clear hK K hNEW
            rw [← hU]
            clear hU
            refine wpAnyH_ready (rs := [5]) (by kernel_rfl) (by simp) ?_
            refine AllReadyH.cons (o := { dst := some 57, op := Op.call { callee := Callee.builtin Builtin.append, args := #[Operand.tmp 53, Operand.tmp 56], argTypes := #[33, 33] }, type := 33, pos := "optext.go:148", after := #[{ on := 1, ground := Ground.data }, { on := 4, ground := Ground.data }, { on := 3, ground := Ground.chain }], guard := none }) rfl (fun K hK => ?_) (AllReadyH.nil)
            rw [if_pos (by rfl)]
            refine opwp_append_O (.tmp 53) (.tmp 56) 33 rfl Z.heap.size 66 i0 _ 1 4 Tryz.underlying33 hi hz0 hz1 hz2 rfl (by decide) _ _ _ rfl HOU.out ⟨[(v : Int)], some ⟨w4.heap.size, 0, none⟩, 1⟩ rfl (one_u32 HNW.out) (fun h => by cases h) (fun _ => rfl) one_uc ?g1q4 ?g2q4 ?g3q4 ?_
            case g1q4 => have := HLn.out; unfold maxLen; simp only [List.length_cons, List.length_nil]; omega
            case g2q4 => have := HLn.out; simp only [List.length_cons, List.length_nil]; omega
            case g3q4 => exact HZU.out
            intro v6 w6 hown6 hgr6
            have hBW : Below Z.heap.size U w6 := grown_below HOU.out hgr6 HZU.out
            have HZ6 : Hid (Z.heap.size ≤ w6.heap.size) := Lib.hid (Nat.le_trans HZU.out hBW.size)
            have HS6 : Hid (OSt W w w6 r s5) := Lib.hid (HSU.out.above hBW HZW.out.1 HZW.out.2 ⟨HZL.out.1, HZL.out.2.1, HZL.out.2.2⟩)
            have HC6 : Hid (Blk w6 g 35 #[.int .i64 R1, .slice A acc.length c]) := Lib.hid (HCU.out.below hBW HZG.out)
            have HB6 : Hid (Blk w6 w.heap.size 120 #[pR r]) := Lib.hid (HB5.out.below hBW HZB.out.1)
            have HR6 : Hid (Blk w6 (w.heap.size + 1) 35 #[.int .i64 0, .slice none 0 0]) := Lib.hid (HR5.out.below hBW HZB.out.2)
            obtain ⟨A6, c6, rfl⟩ := row_sliceO hown6
            have HOl := Lib.hid (own_ltO hown6)
            have HO6 := Lib.hid hown6
            have hNEW : w6.cell? ⟨w.heap.size, 0, none⟩ = some (pR r) := HB6.out.cell 0
            refine hK.out _ _ hNEW (fun hHeld7 => ?_)
            clear hK K hNEW hown6 hgr6 hBW
            try simp only [Act.put, List.setIfInBounds_toArray, List.set_cons_zero, List.set_cons_succ]
            refine wpAnyH_take (i := 6) (oi := { dst := some 58, op := Op.fieldAddr 35 (Operand.tmp 3) 1, type := 0, pos := "optext.go:148", after := #[{ on := 0, ground := Ground.phase }, { on := 1, ground := Ground.phase }, { on := 2, ground := Ground.phase }, { on := 3, ground := Ground.phase }, { on := 4, ground := Ground.phase }, { on := 5, ground := Ground.phase }], guard := none }) (v := ?d3_v6) rfl (by kernel_rfl) (by kernel_rfl) (by kernel_rfl) (fun _ _ _ h => h) (Or.inl ⟨by rfl, ?d3_y6⟩) (by assumption) ?d3_r6
            case d3_y6 => (intro w hSw; (try dsimp only at hSw); go_simp; try (with_reducible rfl))
            try simp only [Act.put, List.setIfInBounds_toArray, List.set_cons_zero, List.set_cons_succ]
            refine wpAnyH_ready (rs := [7]) (by kernel_rfl) (by simp) ?_
            refine AllReadyH.cons (o := { dst := none, op := Op.store 33 (Operand.tmp 58) (Operand.tmp 57), type := 0, pos := "optext.go:148", after := #[{ on := 6, ground := Ground.data }, { on := 5, ground := Ground.data }, { on := 5, ground := Ground.chain }, { on := 0, ground := Ground.phase }, { on := 1, ground := Ground.phase }, { on := 2, ground := Ground.phase }, { on := 3, ground := Ground.phase }, { on := 4, ground := Ground.phase }, { on := 5, ground := Ground.phase }], guard := none }) rfl (fun K hK => ?_) (AllReadyH.nil)
            have r1 : w6.cell? ⟨g, 1, none⟩ = some (.slice A acc.length c) := HC6.out.cell 1
            have f1 : w6.frozen? ⟨g, 1, none⟩ = false := HC6.out.frozen 1
            go_simp
            obtain ⟨U7, hU7⟩ : ∃ U7, U7 = (w6.setCell ⟨g, 1, none⟩ (.slice A6 (acc.length + 1) c6)) := ⟨_, rfl⟩
            have HC7 : Hid (Blk U7 g 35 #[.int .i64 R1, .slice A6 (acc ++ [(v : Int)]).length c6]) := Lib.hid (by rw [hU7, List.length_append]; exact HC6.out.set_ 1 _)
            have HB7 : Hid (Blk U7 w.heap.size 120 #[pR r]) := Lib.hid (by rw [hU7]; exact HB6.out.far (by have := HNG.out; simp; omega) _)
            have HR7 : Hid (Blk U7 (w.heap.size + 1) 35 #[.int .i64 0, .slice none 0 0]) := Lib.hid (by rw [hU7]; exact HR6.out.far (by have := HNG.out; simp; omega) _)
            have HS7 : Hid (OSt W w U7 r s5) := Lib.hid (by rw [hU7]; have h := HNG.out; have h2 := HBW.out; exact HS6.out.set (by omega) (by omega) h.1 h.2.1 h.2.2.1 1 _)
            have HO7 : Hid (U7.ownsRow Z.heap.size 66 1 (.slice A6 (acc ++ [(v : Int)]).length c6) (acc ++ [(v : Int)]).length ((acc ++ [(v : Int)]).flatMap ucell)) := Lib.hid (by rw [hU7, List.length_append, List.flatMap_append]; exact own_setO HO6.out (p := ⟨g, 1, none⟩) (fun e => by have t1 : Z.heap.size ≤ g := (HOl.out _ e).1; have t2 := HZG.out; omega) _)
            have HZ7 : Hid (Z.heap.size ≤ U7.heap.size) := Lib.hid (by rw [hU7]; simpa [World.setCell] using HZ6.out)
            have hNEW : (w6.setCell ⟨g, 1, none⟩ (.slice A6 (acc.length + 1) c6)).cell? ⟨w.heap.size, 0, none⟩ = some (pR r) := by rw [← hU7]; exact HB7.out.cell 0
            refine hK.out _ _ hNEW (fun hHeld8 => ?_)
            clear hK K hNEW
            rw [← hU7]
            clear hU7 r1 f1
            refine wpAnyH_done (by kernel_rfl) ?_ _
            go_wp2
            go_roundw
            case rel => exact ⟨n, acc ++ [(v : Int)], A6, c6, s5, false, rfl, by rw [List.length_append]; simp; omega, HF5, HA5, HO7, HC7, HB7, HR7, HS7, HZ7⟩
            case measure => have hu := HC7.out.cell 1; have hv := HCW.out; have := HLn.out; rw [hu, hv]; show 5000 - (acc ++ [(v : Int)]).length < 5000 - acc.length; rw [List.length_append]; simp only [List.length_cons, List.length_nil]; omega
          · skip
            go_simp
            go_at_call 134
            refine (onumber HE.out HSD.out.refl).mono ?_
            rintro e w4 ⟨rfl, h4⟩
            have HS4 := Lib.hid (HSD.out.then h4)
            have HZ4 : Hid (Z.heap.size ≤ w4.heap.size) := Lib.hid (Nat.le_trans HZs.out h4.gr.size)
            have HO4 := Lib.hid (ownsRow_gro HOD.out h4.gr HZL.out.1 HZL.out.2.1)
            have HC4 := Lib.hid (h4.gr.blk HCD.out HNG.out.1 HNG.out.2.1)
            have HB4 := Lib.hid (h4.gr.blk HBD.out HNB.out.1 HNB.out.2.1)
            have HR4 := Lib.hid (h4.gr.blk HRD.out HNB.out.2.2.1 HNB.out.2.2.2)
            clear h4
            generalize numA r.x.l s4 = q at *
            obtain ⟨v, s5⟩ := q
            simp only at HS4 HA5 HF5 ⊢
            have hNEW : w4.cell? ⟨w.heap.size, 0, none⟩ = some (pR r) := HB4.out.cell 0
            refine hK.out _ _ hNEW (fun hHeld5 => ?_)
            clear hK K hNEW
            refine wpAnyH_ready (rs := [1, 4]) (by kernel_rfl) (by simp) ?_
            refine AllReadyH.cons (o := { dst := some 53, op := Op.load 33 (Operand.tmp 52), type := 33, pos := "optext.go:148", after := #[{ on := 0, ground := Ground.data }], guard := none }) rfl (fun K hK => ?_) (AllReadyH.cons (o := { dst := some 56, op := Op.buildSlice 33 1 #[(0, Operand.tmp 55)], type := 33, pos := "optext.go:148", after := #[{ on := 3, ground := Ground.data }], guard := none }) rfl (fun K hK => ?_) (AllReadyH.nil))
            · skip
              have cg := HC4.out.cell 1
              go_simp
              refine hK.out _ _ (HB4.out.cell 0) (fun hHeldL => ?_)
              clear hK K cg
              try simp only [Act.put, List.setIfInBounds_toArray, List.set_cons_zero, List.set_cons_succ]
              refine wpAnyH_ready (rs := [4]) (by kernel_rfl) (by simp) ?_
              refine AllReadyH.cons (o := { dst := some 56, op := Op.buildSlice 33 1 #[(0, Operand.tmp 55)], type := 33, pos := "optext.go:148", after := #[{ on := 3, ground := Ground.data }], guard := none }) rfl (fun K hK => ?_) (AllReadyH.nil)
              go_simp
              obtain ⟨U, hU⟩ : ∃ U, U = (w4.alloc (.cells #[.int .u32 v] 66)) := ⟨_, rfl⟩
              have HBU : Hid (Below w4.heap.size w4 U) := Lib.hid (by rw [hU]; exact below1 _ _)
              have HNW : Hid (Blk U w4.heap.size 66 #[.int .u32 v]) := Lib.hid (by rw [hU]; exact show Blk (w4.alloc _) _ _ _ from Blk.new w4 _ _)
              have HSU := Lib.hid (HS4.out.below HBU.out)
              have HZU : Hid (Z.heap.size ≤ U.heap.size) := Lib.hid (Nat.le_trans HZ4.out HBU.out.size)
              have HOU := Lib.hid (ownsRow_below HO4.out HBU.out)
              have HCU := Lib.hid (HC4.out.below HBU.out HC4.out.lt)
              have HB5 := Lib.hid (HB4.out.below HBU.out HB4.out.lt)
              have HR5 := Lib.hid (HR4.out.below HBU.out HR4.out.lt)
              have hNEW : (w4.alloc (.cells #[.int .u32 v] 66)).cell? ⟨w.heap.size, 0, none⟩ = some (pR r) := by rw [← hU]; exact HB5.out.cell 0
              refine hK.out _ _ hNEW (fun hHeld6 => ?_)
              clear hK K hNEW
              rw [← hU]
              clear hU
              refine wpAnyH_ready (rs := [5]) (by kernel_rfl) (by simp) ?_
              refine AllReadyH.cons (o := { dst := some 57, op := Op.call { callee := Callee.builtin Builtin.append, args := #[Operand.tmp 53, Operand.tmp 56], argTypes := #[33, 33] }, type := 33, pos := "optext.go:148", after := #[{ on := 1, ground := Ground.data }, { on := 4, ground := Ground.data }, { on := 3, ground := Ground.chain }], guard := none }) rfl (fun K hK => ?_) (AllReadyH.nil)
              rw [if_pos (by rfl)]
              refine opwp_append_O (.tmp 53) (.tmp 56) 33 rfl Z.heap.size 66 i0 _ 1 4 Tryz.underlying33 hi hz0 hz1 hz2 rfl (by decide) _ _ _ rfl HOU.out ⟨[(v : Int)], some ⟨w4.heap.size, 0, none⟩, 1⟩ rfl (one_u32 HNW.out) (fun h => by cases h) (fun _ => rfl) one_uc ?g1q5 ?g2q5 ?g3q5 ?_
              case g1q5 => have := HLn.out; unfold maxLen; simp only [List.length_cons, List.length_nil]; omega
              case g2q5 => have := HLn.out; simp only [List.length_cons, List.length_nil]; omega
              case g3q5 => exact HZU.out
              intro v6 w6 hown6 hgr6
              have hBW : Below Z.heap.size U w6 := grown_below HOU.out hgr6 HZU.out
              have HZ6 : Hid (Z.heap.size ≤ w6.heap.size) := Lib.hid (Nat.le_trans HZU.out hBW.size)
              have HS6 : Hid (OSt W w w6 r s5) := Lib.hid (HSU.out.above hBW HZW.out.1 HZW.out.2 ⟨HZL.out.1, HZL.out.2.1, HZL.out.2.2⟩)
              have HC6 : Hid (Blk w6 g 35 #[.int .i64 R1, .slice A acc.length c]) := Lib.hid (HCU.out.below hBW HZG.out)
              have HB6 : Hid (Blk w6 w.heap.size 120 #[pR r]) := Lib.hid (HB5.out.below hBW HZB.out.1)
              have HR6 : Hid (Blk w6 (w.heap.size + 1) 35 #[.int .i64 0, .slice none 0 0]) := Lib.hid (HR5.out.below hBW HZB.out.2)
              obtain ⟨A6, c6, rfl⟩ := row_sliceO hown6
              have HOl := Lib.hid (own_ltO hown6)
              have HO6 := Lib.hid hown6
              have hNEW : w6.cell? ⟨w.heap.size, 0, none⟩ = some (pR r) := HB6.out.cell 0
              refine hK.out _ _ hNEW (fun hHeld7 => ?_)
              clear hK K hNEW hown6 hgr6 hBW
              try simp only [Act.put, List.setIfInBounds_toArray, List.set_cons_zero, List.set_cons_succ]
              refine wpAnyH_take (i := 6) (oi := { dst := some 58, op := Op.fieldAddr 35 (Operand.tmp 3) 1, type := 0, pos := "optext.go:148", after := #[{ on := 0, ground := Ground.phase }, { on := 1, ground := Ground.phase }, { on := 2, ground := Ground.phase }, { on := 3, ground := Ground.phase }, { on := 4, ground := Ground.phase }, { on := 5, ground := Ground.phase }], guard := none }) (v := ?d4_v6) rfl (by kernel_rfl) (by kernel_rfl) (by kernel_rfl) (fun _ _ _ h => h) (Or.inl ⟨by rfl, ?d4_y6⟩) (by assumption) ?d4_r6
              case d4_y6 => (intro w hSw; (try dsimp only at hSw); go_simp; try (with_reducible rfl))
              try simp only [Act.put, List.setIfInBounds_toArray, List.set_cons_zero, List.set_cons_succ]
              refine wpAnyH_ready (rs := [7]) (by kernel_rfl) (by simp) ?_
              refine AllReadyH.cons (o := { dst := none, op := Op.store 33 (Operand.tmp 58) (Operand.tmp 57), type := 0, pos := "optext.go:148", after := #[{ on := 6, ground := Ground.data }, { on := 5, ground := Ground.data }, { on := 5, ground := Ground.chain }, { on := 0, ground := Ground.phase }, { on := 1, ground := Ground.phase }, { on := 2, ground := Ground.phase }, { on := 3, ground := Ground.phase }, { on := 4, ground := Ground.phase }, { on := 5, ground := Ground.phase }], guard := none }) rfl (fun K hK => ?_) (AllReadyH.nil)
              have r1 : w6.cell? ⟨g, 1, none⟩ = some (.slice A acc.length c) := HC6.out.cell 1
              have f1 : w6.frozen? ⟨g, 1, none⟩ = false := HC6.out.frozen 1
              go_simp
              obtain ⟨U7, hU7⟩ : ∃ U7, U7 = (w6.setCell ⟨g, 1, none⟩ (.slice A6 (acc.length + 1) c6)) := ⟨_, rfl⟩
              have HC7 : Hid (Blk U7 g 35 #[.int .i64 R1, .slice A6 (acc ++ [(v : Int)]).length c6]) := Lib.hid (by rw [hU7, List.length_append]; exact HC6.out.set_ 1 _)
              have HB7 : Hid (Blk U7 w.heap.size 120 #[pR r]) := Lib.hid (by rw [hU7]; exact HB6.out.far (by have := HNG.out; simp; omega) _)
              have HR7 : Hid (Blk U7 (w.heap.size + 1) 35 #[.int .i64 0, .slice none 0 0]) := Lib.hid (by rw [hU7]; exact HR6.out.far (by have := HNG.out; simp; omega) _)
              have HS7 : Hid (OSt W w U7 r s5) := Lib.hid (by rw [hU7]; have h := HNG.out; have h2 := HBW.out; exact HS6.out.set (by omega) (by omega) h.1 h.2.1 h.2.2.1 1 _)
              have HO7 : Hid (U7.ownsRow Z.heap.size 66 1 (.slice A6 (acc ++ [(v : Int)]).length c6) (acc ++ [(v : Int)]).length ((acc ++ [(v : Int)]).flatMap ucell)) := Lib.hid (by rw [hU7, List.length_append, List.flatMap_append]; exact own_setO HO6.out (p := ⟨g, 1, none⟩) (fun e => by have t1 : Z.heap.size ≤ g := (HOl.out _ e).1; have t2 := HZG.out; omega) _)
              have HZ7 : Hid (Z.heap.size ≤ U7.heap.size) := Lib.hid (by rw [hU7]; simpa [World.setCell] using HZ6.out)
              have hNEW : (w6.setCell ⟨g, 1, none⟩ (.slice A6 (acc.length + 1) c6)).cell? ⟨w.heap.size, 0, none⟩ = some (pR r) := by rw [← hU7]; exact HB7.out.cell 0
              refine hK.out _ _ hNEW (fun hHeld8 => ?_)
              clear hK K hNEW
              rw [← hU7]
              clear hU7 r1 f1
              refine wpAnyH_done (by kernel_rfl) ?_ _
              go_wp2
              go_roundw
              case rel => exact ⟨n, acc ++ [(v : Int)], A6, c6, s5, false, rfl, by rw [List.length_append]; simp; omega, HF5, HA5, HO7, HC7, HB7, HR7, HS7, HZ7⟩
              case measure => have hu := HC7.out.cell 1; have hv := HCW.out; have := HLn.out; rw [hu, hv]; show 5000 - (acc ++ [(v : Int)]).length < 5000 - acc.length; rw [List.length_append]; simp only [List.length_cons, List.length_nil]; omega
            · skip
              go_simp
              obtain ⟨U, hU⟩ : ∃ U, U = (w4.alloc (.cells #[.int .u32 v] 66)) := ⟨_, rfl⟩
              have HBU : Hid (Below w4.heap.size w4 U) := Lib.hid (by rw [hU]; exact below1 _ _)
              have HNW : Hid (Blk U w4.heap.size 66 #[.int .u32 v]) := Lib.hid (by rw [hU]; exact show Blk (w4.alloc _) _ _ _ from Blk.new w4 _ _)
              have HSU := Lib.hid (HS4.out.below HBU.out)
              have HZU : Hid (Z.heap.size ≤ U.heap.size) := Lib.hid (Nat.le_trans HZ4.out HBU.out.size)
              have HOU := Lib.hid (ownsRow_below HO4.out HBU.out)
              have HCU := Lib.hid (HC4.out.below HBU.out HC4.out.lt)
              have HB5 := Lib.hid (HB4.out.below HBU.out HB4.out.lt)
              have HR5 := Lib.hid (HR4.out.below HBU.out HR4.out.lt)
              have hNEW : (w4.alloc (.cells #[.int .u32 v] 66)).cell? ⟨w.heap.size, 0, none⟩ = some (pR r) := by rw [← hU]; exact HB5.out.cell 0
              refine hK.out _ _ hNEW (fun hHeld6 => ?_)
              clear hK K hNEW
              rw [← hU]
              clear hU
              refine wpAnyH_ready (rs := [1]) (by kernel_rfl) (by simp) ?_
              refine AllReadyH.cons (o := { dst := some 53, op := Op.load 33 (Operand.tmp 52), type := 33, pos := "optext.go:148", after := #[{ on := 0, ground := Ground.data }], guard := none }) rfl (fun K hK => ?_) (AllReadyH.nil)
              have cg := HCU.out.cell 1
              go_simp
              refine hK.out _ _ (HB5.out.cell 0) (fun hHeldL => ?_)
              clear hK K cg
              try simp only [Act.put, List.setIfInBounds_toArray, List.set_cons_zero, List.set_cons_succ]
              refine wpAnyH_ready (rs := [5]) (by kernel_rfl) (by simp) ?_
              refine AllReadyH.cons (o := { dst := some 57, op := Op.call { callee := Callee.builtin Builtin.append, args := #[Operand.tmp 53, Operand.tmp 56], argTypes := #[33, 33] }, type := 33, pos := "optext.go:148", after := #[{ on := 1, ground := Ground.data }, { on := 4, ground := Ground.data }, { on := 3, ground := Ground.chain }], guard := none }) rfl (fun K hK => ?_) (AllReadyH.nil)
              rw [if_pos (by rfl)]
              refine opwp_append_O (.tmp 53) (.tmp 56) 33 rfl Z.heap.size 66 i0 _ 1 4 Tryz.underlying33 hi hz0 hz1 hz2 rfl (by decide) _ _ _ rfl HOU.out ⟨[(v : Int)], some ⟨w4.heap.size, 0, none⟩, 1⟩ rfl (one_u32 HNW.out) (fun h => by cases h) (fun _ => rfl) one_uc ?g1q6 ?g2q6 ?g3q6 ?_
              case g1q6 => have := HLn.out; unfold maxLen; simp only [List.length_cons, List.length_nil]; omega
              case g2q6 => have := HLn.out; simp only [List.length_cons, List.length_nil]; omega
              case g3q6 => exact HZU.out
              intro v6 w6 hown6 hgr6
              have hBW : Below Z.heap.size U w6 := grown_below HOU.out hgr6 HZU.out
              have HZ6 : Hid (Z.heap.size ≤ w6.heap.size) := Lib.hid (Nat.le_trans HZU.out hBW.size)
              have HS6 : Hid (OSt W w w6 r s5) := Lib.hid (HSU.out.above hBW HZW.out.1 HZW.out.2 ⟨HZL.out.1, HZL.out.2.1, HZL.out.2.2⟩)
              have HC6 : Hid (Blk w6 g 35 #[.int .i64 R1, .slice A acc.length c]) := Lib.hid (HCU.out.below hBW HZG.out)
              have HB6 : Hid (Blk w6 w.heap.size 120 #[pR r]) := Lib.hid (HB5.out.below hBW HZB.out.1)
              have HR6 : Hid (Blk w6 (w.heap.size + 1) 35 #[.int .i64 0, .slice none 0 0]) := Lib.hid (HR5.out.below hBW HZB.out.2)
              obtain ⟨A6, c6, rfl⟩ := row_sliceO hown6
              have HOl := Lib.hid (own_ltO hown6)
              have HO6 := Lib.hid hown6
              have hNEW : w6.cell? ⟨w.heap.size, 0, none⟩ = some (pR r) := HB6.out.cell 0
              refine hK.out _ _ hNEW (fun hHeld7 => ?_)
              clear hK K hNEW hown6 hgr6 hBW
              try simp only [Act.put, List.setIfInBounds_toArray, List.set_cons_zero, List.set_cons_succ]
              refine wpAnyH_take (i := 6) (oi := { dst := some 58, op := Op.fieldAddr 35 (Operand.tmp 3) 1, type := 0, pos := "optext.go:148", after := #[{ on := 0, ground := Ground.phase }, { on := 1, ground := Ground.phase }, { on := 2, ground := Ground.phase }, { on := 3, ground := Ground.phase }, { on := 4, ground := Ground.phase }, { on := 5, ground := Ground.phase }], guard := none }) (v := ?d5_v6) rfl (by kernel_rfl) (by kernel_rfl) (by kernel_rfl) (fun _ _ _ h => h) (Or.inl ⟨by rfl, ?d5_y6⟩) (by assumption) ?d5_r6
              case d5_y6 => (intro w hSw; (try dsimp only at hSw); go_simp; try (with_reducible rfl))
              try simp only [Act.put, List.setIfInBounds_toArray, List.set_cons_zero, List.set_cons_succ]
              refine wpAnyH_ready (rs := [7]) (by kernel_rfl) (by simp) ?_
              refine AllReadyH.cons (o := { dst := none, op := Op.store 33 (Operand.tmp 58) (Operand.tmp 57), type := 0, pos := "optext.go:148", after := #[{ on := 6, ground := Ground.data }, { on := 5, ground := Ground.data }, { on := 5, ground := Ground.chain }, { on := 0, ground := Ground.phase }, { on := 1, ground := Ground.phase }, { on := 2, ground := Ground.phase }, { on := 3, ground := Ground.phase }, { on := 4, ground := Ground.phase }, { on := 5, ground := Ground.phase }], guard := none }) rfl (fun K hK => ?_) (AllReadyH.nil)
              have r1 : w6.cell? ⟨g, 1, none⟩ = some (.slice A acc.length c) := HC6.out.cell 1
              have f1 : w6.frozen? ⟨g, 1, none⟩ = false := HC6.out.frozen 1
              go_simp
              obtain ⟨U7, hU7⟩ : ∃ U7, U7 = (w6.setCell ⟨g, 1, none⟩ (.slice A6 (acc.length + 1) c6)) := ⟨_, rfl⟩
              have HC7 : Hid (Blk U7 g 35 #[.int .i64 R1, .slice A6 (acc ++ [(v : Int)]).length c6]) := Lib.hid (by rw [hU7, List.length_append]; exact HC6.out.set_ 1 _)
              have HB7 : Hid (Blk U7 w.heap.size 120 #[pR r]) := Lib.hid (by rw [hU7]; exact HB6.out.far (by have := HNG.out; simp; omega) _)
              have HR7 : Hid (Blk U7 (w.heap.size + 1) 35 #[.int .i64 0, .slice none 0 0]) := Lib.hid (by rw [hU7]; exact HR6.out.far (by have := HNG.out; simp; omega) _)
              have HS7 : Hid (OSt W w U7 r s5) := Lib.hid (by rw [hU7]; have h := HNG.out; have h2 := HBW.out; exact HS6.out.set (by omega) (by omega) h.1 h.2.1 h.2.2.1 1 _)
              have HO7 : Hid (U7.ownsRow Z.heap.size 66 1 (.slice A6 (acc ++ [(v : Int)]).length c6) (acc ++ [(v : Int)]).length ((acc ++ [(v : Int)]).flatMap ucell)) := Lib.hid (by rw [hU7, List.length_append, List.flatMap_append]; exact own_setO HO6.out (p := ⟨g, 1, none⟩) (fun e => by have t1 : Z.heap.size ≤ g := (HOl.out _ e).1; have t2 := HZG.out; omega) _)
              have HZ7 : Hid (Z.heap.size ≤ U7.heap.size) := Lib.hid (by rw [hU7]; simpa [World.setCell] using HZ6.out)
              have hNEW : (w6.setCell ⟨g, 1, none⟩ (.slice A6 (acc.length + 1) c6)).cell? ⟨w.heap.size, 0, none⟩ = some (pR r) := by rw [← hU7]; exact HB7.out.cell 0
              refine hK.out _ _ hNEW (fun hHeld8 => ?_)
              clear hK K hNEW
              rw [← hU7]
              clear hU7 r1 f1
              refine wpAnyH_done (by kernel_rfl) ?_ _
              go_wp2
              go_roundw
              case rel => exact ⟨n, acc ++ [(v : Int)], A6, c6, s5, false, rfl, by rw [List.length_append]; simp; omega, HF5, HA5, HO7, HC7, HB7, HR7, HS7, HZ7⟩
              case measure => have hu := HC7.out.cell 1; have hv := HCW.out; have := HLn.out; rw [hu, hv]; show 5000 - (acc ++ [(v : Int)]).length < 5000 - acc.length; rw [List.length_append]; simp only [List.length_cons, List.length_nil]; omega
end Go.Proofs.YtofjapcgbajmiaaGreatDoor
namespace Go.Proofs.YtofjapcgbajmiaaGreatDoor
open Go.RowKit
theorem act_ident {p : ProgD} (h : checkM p = none) {j : Nat} (hj : j < p.actions.l.length) : ident p.actions.l[j].name = true := by
  have h1 := firstE_inv (check_parts h).1 j hj
  rw [actAtM_at p j hj] at h1
  by_cases h2 : (actM p p.actions.l[j]).2 ≠ 0
  · rw [if_pos h2] at h1; cases h1
  · generalize p.actions.l[j] = a at *
    rw [actM_eq] at h2
    by_cases h3 : declarM a ≠ 0
    · rw [if_pos h3] at h2; exact absurd h3 h2
    · have h4 : declarM a = 0 := Classical.byContradiction h3
      rw [declarM_eq] at h4
      split at h4
      · cases h4
      · rename_i h5
        simpa using h5
theorem tab_ident {p : ProgD} (h : checkM p = none) {j : Nat} (hj : j < p.tables.l.length) : ident p.tables.l[j].name = true := by
  have h4 := (tab_fine h hj).ok
  unfold tabM at h4
  split at h4
  · cases h4
  · rename_i h5
    simpa using h5
theorem ident_len {l : List UInt8} (h : identM l = true) : l.length ≤ 16 := by
  match l, h with
  | c :: r, h =>
    simp only [identM, Bool.and_eq_true, decide_eq_true_eq] at h
    exact h.1.1
theorem nameA_at {p : ProgD} {j : Nat} (hj : j < p.actions.l.length) : nameA p (j : Int) = p.actions.l[j].name.data.toList := by
  rw [nameA, Int.toNat_natCast, List.getElem?_eq_getElem hj]; rfl
theorem nameT_at {p : ProgD} {j : Nat} (hj : j < p.tables.l.length) : nameT p (j : Int) = p.tables.l[j].name.data.toList := by
  rw [nameT, Int.toNat_natCast, List.getElem?_eq_getElem hj]; rfl
theorem callM_zero {p : ProgD} {a : Int} {args : List Int} (h : callM p a args = 0) : ∃ j : Nat, a = j ∧ ∃ hj : j < p.actions.l.length, args.length = p.actions.l[j].params.l.length := by
  unfold callM at h
  by_cases h0 : a < 0
  · rw [if_pos h0] at h; cases h
  · rw [if_neg h0] at h
    refine ⟨a.toNat, by omega, ?_⟩
    by_cases hj : a.toNat < p.actions.l.length
    · refine ⟨hj, ?_⟩
      rw [List.getElem?_eq_getElem hj] at h
      simp only at h
      by_cases h1 : args.length ≠ p.actions.l[a.toNat].params.l.length
      · rw [if_pos h1] at h; cases h
      · exact Classical.not_not.1 h1
    · rw [List.getElem?_eq_none (by omega)] at h; cases h
def GoodCall (p : ProgD) (a : Int) (args : List Int) : Prop := ∃ j : Nat, a = j ∧ ∃ hj : j < p.actions.l.length, args.length ≤ 4 ∧ p.actions.l[j].name.size ≤ 16
theorem may_good {p : ProgD} (hc : checkM p = none) {t : TabD} {a : Int} {args : List Int} (h : mayM p t a args = 0) : GoodCall p a args := by
  unfold mayM at h
  by_cases h1 : a ∈ t.acts.l
  · rw [if_pos h1] at h
    obtain ⟨j, e, hj, hl⟩ := callM_zero h
    refine ⟨j, e, hj, ?_, ident_len (act_ident hc hj)⟩
    rw [hl]
    exact (par_fine hc _ (List.getElem_mem hj)).1
  · rw [if_neg h1] at h; cases h
structure GoodOp (p : ProgD) (o : OpP) : Prop where
  kind : o.kind = 1 ∨ o.kind = 2 ∨ o.kind = 3 ∨ o.kind = 4
  table : ∃ i : Nat, o.table = i ∧ ∃ hi : i < p.tables.l.length, p.tables.l[i].name.size ≤ 16
  ins : o.kind = 1 → o.keys.length ≤ 6 ∧ 0 ≤ o.prio ∧ o.prio ≤ 255 ∧ GoodCall p o.ea o.eargs
  call : o.kind = 2 ∨ o.kind = 4 → GoodCall p o.ca o.cargs
theorem good_op {p : ProgD} (hc : checkM p = none) {o : OpP} (h : opChk p o = 0) : GoodOp p o := by
  unfold opChk at h
  by_cases h1 : o.kind < 1 ∨ 4 < o.kind
  · rw [if_pos h1] at h; cases h
  rw [if_neg h1] at h
  by_cases h2 : o.table < 0
  · rw [if_pos h2] at h; cases h
  rw [if_neg h2] at h
  by_cases hi : o.table.toNat < p.tables.l.length
  case neg => rw [List.getElem?_eq_none (by omega)] at h; cases h
  rw [List.getElem?_eq_getElem hi] at h
  simp only at h
  have hn := ident_len (tab_ident hc hi)
  have hf := (tab_fine hc hi).keys
  have hsz : p.tables.l[o.table.toNat].name.size ≤ 16 := hn
  obtain ⟨t, ht⟩ : ∃ t, t = p.tables.l[o.table.toNat] := ⟨_, rfl⟩
  rw [← ht] at h hf
  refine ⟨by omega, ⟨o.table.toNat, by omega, hi, ?_⟩, fun hk => ?_, fun hk => ?_⟩
  · exact hsz
  · rw [if_pos hk] at h
    unfold entM at h
    by_cases h3 : o.keys.length ≠ t.keys.l.length
    · rw [if_pos h3] at h; cases h
    rw [if_neg h3] at h
    rcases hfe : firstE t.keys.l.length (keyErrM p o.keys t.keys.l) with _ | e
    · rw [hfe] at h
      simp only at h
      by_cases h4 : o.prio < 0 ∨ 255 < o.prio
      · rw [if_pos h4] at h; cases h
      rw [if_neg h4] at h
      by_cases h5 : o.prio ≠ 0 ∧ kindT t.keys.l ≠ 3
      · rw [if_pos h5] at h; cases h
      rw [if_neg h5] at h
      exact ⟨by omega, by omega, by omega, may_good hc h⟩
    · exfalso
      rw [hfe] at h
      simp only at h
      subst h
      obtain ⟨i, hi, h9, _⟩ := firstE_ex hfe
      unfold keyErrM at h9
      split at h9
      · split at h9
        · rename_i h10
          injection h9 with h9
          exact h10 h9
        · cases h9
      · cases h9
  · have h6 : o.kind ≠ 1 := by omega
    rw [if_neg h6] at h
    by_cases h7 : o.kind ≠ 4 ∧ (o.id < 1 ∨ 1073741824 < o.id)
    · rw [if_pos h7] at h; cases h
    rw [if_neg h7] at h
    by_cases h8 : o.kind = 3
    · omega
    rw [if_neg h8] at h
    exact may_good hc h
end Go.Proofs.YtofjapcgbajmiaaGreatDoor
namespace Go.Proofs.YtofjapcgbajmiaaGreatDoor
open Go.RowKit
theorem itoa_neg (n : Int) (h : n < 0) (h0 : -9223372036854775808 ≤ n) : Lib.itoa n = 45 :: dec n.natAbs := by
  rw [Lib.itoa, if_pos h, dec, dec_eq 20 _ (by omega) (by omega)]
end Go.Proofs.YtofjapcgbajmiaaGreatDoor
namespace Go.Proofs.YtofjapcgbajmiaaGreatDoor
open Go.RowKit
def idS (n : Int) : ByteArray := ⟨(Lib.itoa n).toArray⟩
theorem itoa_len (n : Int) (h0 : -9223372036854775808 ≤ n) (h1 : n ≤ 9223372036854775807) : (idS n).size ≤ 21 := by
  show (Lib.itoa n).length ≤ 21
  by_cases h : 0 ≤ n
  · rw [itoa_dec n h h1]; have : (dec n.toNat).length ≤ 20 := decD_len 20 _; omega
  · rw [itoa_neg n (by omega) h0, List.length_cons]; have : (dec n.natAbs).length ≤ 20 := decD_len 20 _; omega
theorem wf_i64 {n : Int} (h : (Lit.int .i64 n).wf = true) : -9223372036854775808 ≤ n ∧ n ≤ 9223372036854775807 := by
  have e1 : IntKind.i64.min = -9223372036854775808 := rfl
  have e2 : IntKind.i64.max = 9223372036854775807 := rfl
  simp only [Lit.wf, Bool.and_eq_true, decide_eq_true_eq] at h
  rw [e1, e2] at h
  exact h
theorem fmtI_any (n : Int) (hn : (Lit.int .i64 n).wf = true) (w : World) (ht : Tab w) : Calls Tryz.prog 45 #[.int .i64 n] w fun e w' => e = .returned (.string (idS n)) ∧ Below w.heap.size w w' :=
  fmtInt_any n (wf_i64 hn).1 (wf_i64 hn).2 w ht
def keyS (k : KmD) : ByteArray := ⟨(keyT k).toArray⟩
theorem key_str (k : KmD) : decS k.v ++ (⟨#[47]⟩ : ByteArray) ++ decS k.m = keyS k := by
  apply ByteArray.ext; apply Array.ext'; simp [decS, keyS, keyT]
theorem decS_size (v : Int) : (decS v).size ≤ 20 := decD_len 20 _
theorem keyS_size (k : KmD) : (keyS k).size ≤ 41 := by
  rw [← key_str, ByteArray.size_append, ByteArray.size_append]
  have := decS_size k.v
  have := decS_size k.m
  have : (⟨#[47]⟩ : ByteArray).size = 1 := rfl
  omega
def wordsI (nm : ByteArray) (ks : List KmD) (pr : Int) (cs : ByteArray) : List ByteArray := [⟨#[105, 110, 115, 101, 114, 116]⟩, nm] ++ ks.map keyS ++ [⟨#[112, 114, 105, 111, 114, 105, 116, 121]⟩, idS pr, ⟨#[45, 62]⟩, cs]
theorem keys_join : ∀ (ks : List KmD) (r : List (List UInt8)), Lib.joinTail [32] ((ks.map keyS).map (·.data.toList) ++ r) = keysT ks ++ Lib.joinTail [32] r
  | [], r => rfl
  | k :: ks, r => by
    have h := keys_join ks r
    simp only [Lib.joinTail, keysT, List.map_cons, List.cons_append, List.flatten_cons, List.append_assoc] at h ⊢
    rw [h]
    simp [keyS]
theorem ins_str (p : ProgD) (o : OpP) (hk : o.kind = 1) (nm cs : ByteArray) (hn : nm.data.toList = nameT p o.table) (hc : cs.data.toList = callT p o.ea o.eargs) :
    Lib.join ((wordsI nm o.keys o.prio cs).map (·.data.toList)) [32] = opT p o := by
  rw [opT, if_pos hk, wordsI, ← hn, ← hc]
  show Lib.join (wIns :: (([nm] ++ o.keys.map keyS ++ [_, idS o.prio, _, cs]).map (·.data.toList))) [32] = _
  rw [Lib.join_cons, List.map_append, List.map_append]
  have e : ([nm].map fun s : ByteArray => s.data.toList) ++ (o.keys.map keyS).map (fun s : ByteArray => s.data.toList) ++ ([(⟨#[112, 114, 105, 111, 114, 105, 116, 121]⟩ : ByteArray), idS o.prio, ⟨#[45, 62]⟩, cs].map fun s : ByteArray => s.data.toList)
      = nm.data.toList :: ((o.keys.map keyS).map (fun s : ByteArray => s.data.toList) ++ [wPrio, Lib.itoa o.prio, wArrow, cs.data.toList]) := by simp [idS, wPrio, wArrow]
  rw [e]
  show wIns ++ Lib.joinTail [32] (nm.data.toList :: _) = _
  have e2 : ∀ (x : List UInt8) (r : List (List UInt8)), Lib.joinTail [32] (x :: r) = [32] ++ x ++ Lib.joinTail [32] r := fun x r => by simp [Lib.joinTail]
  rw [e2, keys_join, e2, e2, e2, e2]
  simp [Lib.joinTail]
theorem mod_str (p : ProgD) (o : OpP) (hk : o.kind = 2) (nm cs : ByteArray) (hn : nm.data.toList = nameT p o.table) (hc : cs.data.toList = callT p o.ca o.cargs) :
    ((⟨#[109, 111, 100, 105, 102, 121, 32]⟩ : ByteArray) ++ nm ++ ((⟨#[32]⟩ : ByteArray) ++ idS o.id) ++ (⟨#[32, 45, 62, 32]⟩ : ByteArray) ++ cs) = ⟨(opT p o).toArray⟩ := by
  rw [opT, if_neg (by omega), if_pos hk, ← hn, ← hc]
  apply ByteArray.ext; apply Array.ext'; simp [idS, wMod, wArrow]
theorem del_str (p : ProgD) (o : OpP) (hk : o.kind = 3) (nm : ByteArray) (hn : nm.data.toList = nameT p o.table) :
    ((⟨#[100, 101, 108, 101, 116, 101, 32]⟩ : ByteArray) ++ nm ++ ((⟨#[32]⟩ : ByteArray) ++ idS o.id)) = ⟨(opT p o).toArray⟩ := by
  rw [opT, if_neg (by omega), if_neg (by omega), if_pos hk, ← hn]
  apply ByteArray.ext; apply Array.ext'; simp [idS, wDel]
theorem def_str (p : ProgD) (o : OpP) (hk : o.kind = 4) (nm cs : ByteArray) (hn : nm.data.toList = nameT p o.table) (hc : cs.data.toList = callT p o.ca o.cargs) :
    ((⟨#[100, 101, 102, 97, 117, 108, 116, 32]⟩ : ByteArray) ++ nm ++ (⟨#[32, 45, 62, 32]⟩ : ByteArray) ++ cs) = ⟨(opT p o).toArray⟩ := by
  rw [opT, if_neg (by omega), if_neg (by omega), if_neg (by omega), ← hn, ← hc]
  apply ByteArray.ext; apply Array.ext'; simp [wDef, wArrow]
theorem own_newS (w : World) (base : Nat) (l : List ByteArray) (hb : base ≤ w.heap.size) (hl : l.length ≤ 1000) : (w.alloc (.cells (strs l).toArray 9)).ownsRow base 9 1 (.slice (some ⟨w.heap.size, 0, none⟩) l.length l.length) l.length (strs l) :=
  ⟨by simp [strs], .inr ⟨w.heap.size, l.length, (strs l).toArray, rfl, hb, heap_alloc_new w _, Nat.le_refl _, by unfold maxLen; omega, by simp [strs], by simp [strs, List.take_of_length_le]⟩⟩
theorem callT_size {p : ProgD} {a : Int} {args : List Int} (h : GoodCall p a args) : (callT p a args).length ≤ 200 := by
  obtain ⟨j, rfl, hj, hl, hn⟩ := h
  rw [callT, nameA_at hj]
  have h1 : (argsX args).length ≤ 22 * args.length := by
    rw [argsX]
    have := join_len (args.map decI) [44, 32] 20 (fun x hx => by obtain ⟨v, _, rfl⟩ := List.mem_map.1 hx; exact decI_len20 v)
    rw [List.length_map] at this
    exact this
  have h2 : p.actions.l[j].name.data.toList.length ≤ 16 := hn
  simp only [List.length_append, List.length_cons, List.length_nil]
  omega
theorem callT_any (p : ProgD) (a : Int) (y : L Int) (w : World) (o : ProgOk w p) (h : GoodCall p a y.l) (hy : LOk w 1 ucell y) (hu : ∀ v ∈ y.l, (Lit.int .u32 v).wf = true) (ht : Tab w) :
    Calls Tryz.prog 47 #[.agg (progCells p), .agg #[.int .i64 a, .slice y.A y.l.length y.c]] w fun e w' => e = .returned (.string ⟨(callT p a y.l).toArray⟩) ∧ Below w.heap.size w w' := by
  obtain ⟨j, rfl, hj, hl, hn⟩ := h
  exact ocallT_any p j hj y w o hy hu (by omega) (by omega) ht
theorem one_sL {w : World} {g : Nat} {s : ByteArray} (h : Blk w g 9 #[.string s]) : LOk w 1 (fun s : ByteArray => [Value.string s]) ⟨[s], some ⟨g, 0, none⟩, 1⟩ := by
  refine ⟨by unfold maxLen; simp, .inr ⟨g, 0, rfl, h.lt, fun i hi j hj => ?_⟩⟩
  have hi' : i < 1 := hi
  rw [h.cell]
  match i, hi', j, hj with
  | 0, _, 0, _ => rfl
theorem four_sL {w : World} {g : Nat} {a b c d : ByteArray} (h : Blk w g 9 #[.string a, .string b, .string c, .string d]) : LOk w 1 (fun s : ByteArray => [Value.string s]) ⟨[a, b, c, d], some ⟨g, 0, none⟩, 4⟩ := by
  refine ⟨by unfold maxLen; simp, .inr ⟨g, 0, rfl, h.lt, fun i hi j hj => ?_⟩⟩
  have hi' : i < 4 := hi
  rw [h.cell]
  match i, hi', j, hj with
  | 0, _, 0, _ => rfl
  | 1, _, 0, _ => rfl
  | 2, _, 0, _ => rfl
  | 3, _, 0, _ => rfl
theorem join_words (nm : ByteArray) (kl : List KmD) (pr : Int) (CS : ByteArray) (T : List UInt8) (u : World) {B : Nat} {A : Option Addr} {c : Nat} (hE : Lib.join ((wordsI nm kl pr CS).map (·.data.toList)) [32] = T)
    (h : u.ownsRow B 9 1 (.slice A (kl.length + 2 + 4) c) (kl.length + 2 + 4) (strs ([⟨#[105, 110, 115, 101, 114, 116]⟩, nm] ++ kl.map keyS) ++ [⟨#[112, 114, 105, 111, 114, 105, 116, 121]⟩, idS pr, ⟨#[45, 62]⟩, CS].flatMap (fun s : ByteArray => [Value.string s])))
    (hl : kl.length ≤ 6) (hn : nm.size ≤ 16) (hc : CS.size ≤ 200) (hp : (idS pr).size ≤ 21) :
    Calls Tryz.prog 48 #[.slice A (kl.length + 2 + 4) c, .string ⟨#[32]⟩] u fun e w' => e = .returned (.string ⟨T.toArray⟩) ∧ Below u.heap.size u w' := by
  have e1 : (wordsI nm kl pr CS).length = kl.length + 2 + 4 := by simp [wordsI]
  have e2 : strs (wordsI nm kl pr CS) = strs ([⟨#[105, 110, 115, 101, 114, 116]⟩, nm] ++ kl.map keyS) ++ [⟨#[112, 114, 105, 111, 114, 105, 116, 121]⟩, idS pr, ⟨#[45, 62]⟩, CS].flatMap (fun s : ByteArray => [Value.string s]) := by
    rw [wordsI, strs, List.map_append]; rfl
  have h1 := join_any (wordsI nm kl pr CS) ⟨#[32]⟩ u (B := B) (A := A) (c := c) (by rw [e1, e2]; exact h) (by omega) (by
    refine Nat.le_trans (join_len _ _ 300 ?_) ?_
    · intro x hx
      obtain ⟨s, hs, rfl⟩ := List.mem_map.1 hx
      show s.size ≤ 300
      simp only [wordsI, List.mem_append, List.mem_cons, List.not_mem_nil, or_false] at hs
      rcases hs with ((rfl | rfl) | hs) | (rfl | rfl | rfl | rfl)
      · exact (by decide : (6 : Nat) ≤ 300)
      · omega
      · obtain ⟨k, _, rfl⟩ := List.mem_map.1 hs
        have := keyS_size k; omega
      · exact (by decide : (8 : Nat) ≤ 300)
      · omega
      · exact (by decide : (2 : Nat) ≤ 300)
      · omega
    · rw [List.length_map, e1]
      have : (300 + [(32 : UInt8)].length) * (kl.length + 2 + 4) ≤ 301 * 12 := Nat.mul_le_mul (Nat.le_refl _) (by omega)
      exact Nat.le_trans this (by decide))
  rw [e1, hE] at h1
  exact h1
set_option maxRecDepth 100000 in
set_option maxHeartbeats 16000000 in
theorem oformat_any (p : ProgD) (x : OpD) (w : World) (o : ProgOk w p) (hck : checkM p = none) (hc : ∀ t ∈ p.tables.l, (Lit.int .i64 t.defA).wf = true) (hx : OpOk w x) (hf : OpFine x.bare) (ht : Tab w) :
    Calls Tryz.prog 22 #[.agg (progCells p), .agg (opCells x)] w fun e w' => e = .returned (.tuple #[.string ⟨(fmtOp p x.bare).1.toArray⟩, .int .i64 (fmtOp p x.bare).2]) ∧ Below w.heap.size w w' := by
  obtain ⟨W, hW, hw, HB, hp⟩ := box2 w (progCells p) 31 (opCells x) 39
  have HW := Lib.hid hw
  have HCk := Lib.hid (fun u (hb : Below W.heap.size W u) => ocheck_any p x u (o.below (below_step hw hb)) hck hc (hx.below (below_step hw hb)) hf)
  have HFo := Lib.hid (fmtOp.eq_1 p x.bare)
  by_cases hz : opChk p x.bare = 0
  case neg =>
    have hz' : (opChk p x.bare != 0) = true := bne_iff_ne.2 hz
    rw [if_pos hz] at HFo
    have HR := Lib.hid HFo.out
    generalize fmtOp p x.bare = R at *
    generalize opChk p x.bare = z at *
    clear HFo hz o hck hc hx hf ht hw
    go_enter Tryz.func22, Tryz.ntmps22
    go_upto_region 1 with fail
    rw [← hW]
    clear hW
    have hp3 := (hp W HB).1
    have hp4 := (hp W HB).2
    go_wp2_with fail
    refine (HCk.out _ (by first | exact HB | exact below_alloc HB _ | exact below_alloc (below_alloc HB _) _ | exact below_alloc (below_alloc (below_alloc HB _) _) _)).mono ?_
    rintro e w1 ⟨rfl, hbN⟩
    replace HB := below_step (by first | exact HB | exact below_alloc HB _ | exact below_alloc (below_alloc HB _) _ | exact below_alloc (below_alloc (below_alloc HB _) _) _) hbN
    clear hbN
    go_wp2
    go_ret2
    exact ⟨by rw [HR.out]; rfl, below_step HW.out HB⟩
  have HR : Hid (fmtOp p x.bare = (opT p x.bare, 0)) := Lib.hid (HFo.out.trans (if_neg (fun h => h hz)))
  have HG := Lib.hid (good_op hck hz)
  rw [hz] at HCk
  rw [HR.out]
  clear HFo HR hz
  simp only
  obtain ⟨i, hti, hi, hns⟩ := HG.out.table
  have HFI := Lib.hid (fun u (hb : Below W.heap.size W u) => fmtI_any x.id hf.id u (ht.base (below_step hw hb)))
  have HFP := Lib.hid (fun u (hb : Below W.heap.size W u) => fmtI_any x.prio hf.prio u (ht.base (below_step hw hb)))
  have HFK := Lib.hid (fun (k : KmD) (hk : k ∈ x.keys.l) u (hb : Below W.heap.size W u) => And.intro (fmtU_any k.v (hf.keys k hk).1 u (ht.base (below_step hw hb))) (fun (u2 : World) (hb2 : Below W.heap.size W u2) => fmtU_any k.m (hf.keys k hk).2 u2 (ht.base (below_step hw hb2))))
  have HCE := Lib.hid (fun (h : GoodCall p x.ea x.eargs.l) u (hb : Below W.heap.size W u) => callT_any p x.ea x.eargs u (o.below (below_step hw hb)) h (hx.eargs.below (below_step hw hb) (Nat.le_refl _)) hf.eargs (ht.base (below_step hw hb)))
  have HCC := Lib.hid (fun (h : GoodCall p x.ca x.cargs.l) u (hb : Below W.heap.size W u) => callT_any p x.ca x.cargs u (o.below (below_step hw hb)) h (hx.cargs.below (below_step hw hb) (Nat.le_refl _)) hf.cargs (ht.base (below_step hw hb)))
  have HKX := Lib.hid (hx.keys.below hw (Nat.le_refl _))
  have hidz := itoa_len x.id (wf_i64 hf.id).1 (wf_i64 hf.id).2
  have HPz := Lib.hid (itoa_len x.prio (wf_i64 hf.prio).1 (wf_i64 hf.prio).2)
  obtain ⟨g, of, hA, hq⟩ := TabD.atA (o.tables.below hw (Nat.le_refl _)) hi
  have hn1 : (i : Int) < (p.tables.l.length : Int) := by omega
  have HNT : Hid (p.tables.l[i].name.data.toList = nameT p x.bare.table) := Lib.hid (by rw [hti, nameT_at hi])
  have HMS := Lib.hid (mod_str p x.bare)
  have HDS := Lib.hid (del_str p x.bare)
  have HFS := Lib.hid (def_str p x.bare)
  have HIS := Lib.hid (ins_str p x.bare)
  have HCz1 := Lib.hid (fun (h : GoodCall p x.ea x.eargs.l) => callT_size h)
  have HCz2 := Lib.hid (fun (h : GoodCall p x.ca x.cargs.l) => callT_size h)
  have HQ := Lib.hid (fun w' (h : Below W.heap.size W w') => (hq w' h).1)
  obtain ⟨nm, hnm⟩ : ∃ nm, nm = p.tables.l[i].name := ⟨_, rfl⟩
  rw [← hnm] at HNT HQ hns
  obtain ⟨T, hT⟩ : ∃ T, T = opT p x.bare := ⟨_, rfl⟩
  rw [← hT] at HMS HDS HFS HIS ⊢
  obtain ⟨kd, tb, id, ⟨kl, kA, kc⟩, pr, ea, eg, ca, cg⟩ := x
  simp only [OpD.bare] at HNT HMS HDS HFS HIS HG HKX hti hidz HPz HFI HFP HFK HCE HCC HCz1 HCz2
  subst hti
  clear hq o hck hc hx hf ht hw hnm hT
  simp only [progCells, opCells, L.v, hA] at hp hW HCk HCE HCC ⊢
  clear hA
  go_enter Tryz.func22, Tryz.ntmps22
  go_upto_region 1 with fail
  rw [← hW]
  clear hW
  have hp3 := (hp W HB).1
  have hp4 := (hp W HB).2
  go_wp2_with fail
  refine (HCk.out _ (by first | exact HB | exact below_alloc HB _ | exact below_alloc (below_alloc HB _) _ | exact below_alloc (below_alloc (below_alloc HB _) _) _)).mono ?_
  rintro e w1 ⟨rfl, hbN⟩
  replace HB := below_step (by first | exact HB | exact below_alloc HB _ | exact below_alloc (below_alloc HB _) _ | exact below_alloc (below_alloc (below_alloc HB _) _) _) hbN
  clear hbN
  clear hp3 hp4
  have hp3 := (hp _ HB).1
  have hp4 := (hp _ HB).2
  have hq3 := HQ.out _ HB
  go_wp2_with fail
  refine (HFI.out _ (by first | exact HB | exact below_alloc HB _ | exact below_alloc (below_alloc HB _) _ | exact below_alloc (below_alloc (below_alloc HB _) _) _)).mono ?_
  rintro e w2 ⟨rfl, hbN⟩
  replace HB := below_step (by first | exact HB | exact below_alloc HB _ | exact below_alloc (below_alloc HB _) _ | exact below_alloc (below_alloc (below_alloc HB _) _) _) hbN
  clear hbN
  clear hp3 hp4 hq3
  have hp3 := (hp _ HB).1
  have hp4 := (hp _ HB).2
  have z1 : ¬ ((⟨#[32]⟩ : ByteArray).size + (idS id).size > 9223372036854775807) := by have : (⟨#[32]⟩ : ByteArray).size = 1 := rfl; omega
  have z2 : ¬ (1 + (idS id).size > 9223372036854775807) := by omega
  obtain ⟨IDS, hIDS⟩ : ∃ s, s = idS id := ⟨_, rfl⟩
  rw [← hIDS] at z1 z2 hidz HMS HDS ⊢
  clear hIDS
  rcases HG.out.kind with hk | hk | hk | hk
  · have HGI := Lib.hid (HG.out.ins hk)
    have HE0 := Lib.hid (fun cs hc => HIS.out hk nm cs HNT.out hc)
    clear HMS HDS HFS HIS
    simp only at hk HGI HE0
    subst hk
    have HKl : Hid (kl.length ≤ 6) := Lib.hid HGI.out.1
    have hcz := HCz1.out HGI.out.2.2.2
    have HC9 := Lib.hid (fun u hb => HCE.out HGI.out.2.2.2 u hb)
    obtain ⟨CS, hCS⟩ : ∃ s : ByteArray, s = ⟨(callT p ea eg.l).toArray⟩ := ⟨_, rfl⟩
    have HE := Lib.hid (HE0.out CS (by rw [hCS]))
    have hcs : CS.size ≤ 200 := by rw [hCS]; exact hcz
    rw [← hCS] at HC9
    clear hcz hCS HE0
    have HPsz := HPz
    go_upto_region 9 with fail
    obtain ⟨Y, hY⟩ : ∃ Y, Y = w2.alloc (.cells #[.string ⟨#[105, 110, 115, 101, 114, 116]⟩, .string nm] 9) := ⟨_, rfl⟩
    have HWY : Hid (Below W.heap.size W Y) := Lib.hid (by rw [hY]; exact below_alloc HB _)
    have HOY : Hid (Y.ownsRow w2.heap.size 9 1 (.slice (some ⟨w2.heap.size, 0, none⟩) 2 2) 2 (strs [⟨#[105, 110, 115, 101, 114, 116]⟩, nm])) := Lib.hid (by rw [hY]; exact own_newS w2 _ [⟨#[105, 110, 115, 101, 114, 116]⟩, nm] (Nat.le_refl _) (by simp))
    have HBY : Hid (w2.heap.size ≤ Y.heap.size) := Lib.hid (by rw [hY]; simp)
    have HWB : Hid (W.heap.size ≤ w2.heap.size) := Lib.hid HB.size
    rw [← hY]
    clear hY hp3 hp4 HB
    obtain ⟨B, hB⟩ : ∃ B, B = w2.heap.size := ⟨_, rfl⟩
    replace HOY : Hid (Y.ownsRow B 9 1 (.slice (some ⟨w2.heap.size, 0, none⟩) 2 2) 2 (strs [⟨#[105, 110, 115, 101, 114, 116]⟩, nm])) := Lib.hid (by rw [hB]; exact HOY.out)
    rw [← hB] at HBY HWB
    have HBe := Lib.hid hB
    have hp4 := (hp Y HWY.out).2
    obtain ⟨i0, hi, hz0, hz1, hz2⟩ := info_parts Tryz.infoString
    go_wp2
    clear hp4
    go_loopw [9, 11, 39] (fun lv _ iv wr => ∃ (k : Nat) (A : Option Addr) (c : Nat), k ≤ kl.length ∧ iv = .int .i64 k ∧ lv = .slice A (k + 2) c ∧ Hid (wr.ownsRow B 9 1 (.slice A (k + 2) c) (k + 2) (strs ([⟨#[105, 110, 115, 101, 114, 116]⟩, nm] ++ (kl.take k).map keyS))) ∧ Below W.heap.size W wr ∧ Hid (B ≤ wr.heap.size))
      (fun _ _ i _ => kl.length - (intOf i).toNat)
    case atStart => exact ⟨0, some ⟨w2.heap.size, 0, none⟩, 2, Nat.zero_le _, rfl, rfl, HOY, HWY.out, HBY⟩
    case round =>
      obtain ⟨k, A, c, hk, rfl, rfl, HOw, HB, HBs⟩ := hrel
      by_cases hlt : k < kl.length
      · obtain ⟨g2, of2, hA2, hd⟩ := KmD.atA HKX.out hlt
        obtain ⟨d0, d1⟩ := hd wr HB
        have HF0 := Lib.hid (HFK.out _ (List.getElem_mem hlt))
        have HTk : Hid (strs ([⟨#[105, 110, 115, 101, 114, 116]⟩, nm] ++ (kl.take (k + 1)).map keyS) = strs ([⟨#[105, 110, 115, 101, 114, 116]⟩, nm] ++ (kl.take k).map keyS) ++ [keyS kl[k]].flatMap (fun s : ByteArray => [Value.string s])) := Lib.hid (by
          rw [take_snoc kl k hlt, List.map_append, ← List.append_assoc, strs, List.map_append]; rfl)
        have HLT : Hid (k + 1 ≤ kl.length) := Lib.hid hlt
        simp only at hA2 d0 d1
        subst hA2
        clear hd
        generalize kl[k] = km0 at *
        obtain ⟨kv, km⟩ := km0
        simp only at d0 d1 HF0
        have HF : Hid ((∀ u, Below W.heap.size W u → Calls Tryz.prog 46 #[.int .u32 kv] u fun e w' => e = .returned (.string (decS kv)) ∧ Below u.heap.size u w') ∧ (∀ u, Below W.heap.size W u → Calls Tryz.prog 46 #[.int .u32 km] u fun e w' => e = .returned (.string (decS km)) ∧ Below u.heap.size u w')) := Lib.hid ⟨fun u h => (HF0.out u h).1, fun u h => (HF0.out u h).2 u h⟩
        have HKS := Lib.hid (key_str ⟨kv, km⟩)
        have hsv := decS_size kv
        have hsm := decS_size km
        simp only at HKS
        obtain ⟨sv, hsv0⟩ : ∃ s, s = decS kv := ⟨_, rfl⟩
        obtain ⟨sm, hsm0⟩ : ∃ s, s = decS km := ⟨_, rfl⟩
        rw [← hsv0] at hsv HKS HF
        rw [← hsm0] at hsm HKS HF
        clear hsv0 hsm0 HF0
        have y1 : ¬ (sv.size + (⟨#[47]⟩ : ByteArray).size > 9223372036854775807) := by have : (⟨#[47]⟩ : ByteArray).size = 1 := rfl; omega
        have y2 : ¬ (sv.size + 1 > 9223372036854775807) := by omega
        have y3 : ¬ ((sv ++ (⟨#[47]⟩ : ByteArray)).size + sm.size > 9223372036854775807) := by rw [ByteArray.size_append]; have : (⟨#[47]⟩ : ByteArray).size = 1 := rfl; omega
        have y4 : ¬ (sv.size + 1 + sm.size > 9223372036854775807) := by omega
        obtain ⟨X, hX⟩ : ∃ X, X = wr.alloc (.cells #[.int .u32 kv, .int .u32 km] 68) := ⟨_, rfl⟩
        have HXB : Hid (Blk X wr.heap.size 68 #[.int .u32 kv, .int .u32 km]) := Lib.hid (by rw [hX]; exact Blk.new _ _ _)
        have HBX : Hid (Below W.heap.size W X) := Lib.hid (by rw [hX]; exact below_alloc HB _)
        have HOX : Hid (X.ownsRow B 9 1 (.slice A (k + 2) c) (k + 2) (strs ([⟨#[105, 110, 115, 101, 114, 116]⟩, nm] ++ (kl.take k).map keyS))) := Lib.hid (by rw [hX]; exact HOw.out.alloc _)
        have HWX : Hid (wr.heap.size ≤ X.heap.size) := Lib.hid (by rw [hX]; simp)
        go_upto_region 12 with fail
        rw [← hX]
        clear hX d0 d1 HB
        refine wp_region_held_drew (S := (fun u => u.cell? ⟨wr.heap.size, 0, none⟩ = some (.int .u32 kv) ∧ u.cell? ⟨wr.heap.size, 1, none⟩ = some (.int .u32 km))) (by kernel_rfl) (⟨(HXB.out.below (below_drew (Below.refl _ _)) HXB.out.lt).cell 0, (HXB.out.below (below_drew (Below.refl _ _)) HXB.out.lt).cell 1⟩) (fun hHeld => ?_)
        refine wpAnyH_take (i := 0) (oi := { dst := some 43, op := Op.move (Operand.tmp 9), type := 86, pos := "optext.go:65", after := #[], guard := none }) (v := ?a1_v0) rfl (by kernel_rfl) (by kernel_rfl) (by kernel_rfl) (fun _ _ _ h => h) (Or.inl ⟨by rfl, ?a1_y0⟩) (by assumption) ?a1_r0
        case a1_y0 => (intro w hSw; (try dsimp only at hSw); go_simp; try (with_reducible rfl))
        try simp only [Act.put, List.setIfInBounds_toArray, List.set_cons_zero, List.set_cons_succ]
        refine wpAnyH_take (i := 1) (oi := { dst := some 44, op := Op.fieldAddr 68 (Operand.tmp 11) 0, type := 0, pos := "optext.go:65", after := #[], guard := none }) (v := ?a2_v1) rfl (by kernel_rfl) (by kernel_rfl) (by kernel_rfl) (fun _ _ _ h => h) (Or.inl ⟨by rfl, ?a2_y1⟩) (by assumption) ?a2_r1
        case a2_y1 => (intro w hSw; (try dsimp only at hSw); go_simp; try (with_reducible rfl))
        try simp only [Act.put, List.setIfInBounds_toArray, List.set_cons_zero, List.set_cons_succ]
        refine wpAnyH_take (i := 2) (oi := { dst := some 45, op := Op.load 66 (Operand.tmp 44), type := 66, pos := "optext.go:65", after := #[{ on := 1, ground := Ground.data }], guard := none }) (v := ?a3_v2) rfl (by kernel_rfl) (by kernel_rfl) (by kernel_rfl) (fun _ _ _ h => h) (Or.inl ⟨by rfl, ?a3_y2⟩) (by assumption) ?a3_r2
        case a3_y2 => (intro w hSw; (try dsimp only at hSw); go_simp; try (with_reducible rfl))
        try simp only [Act.put, List.setIfInBounds_toArray, List.set_cons_zero, List.set_cons_succ]
        refine wpAnyH_take (i := 5) (oi := { dst := some 48, op := Op.fieldAddr 68 (Operand.tmp 11) 1, type := 0, pos := "optext.go:65", after := #[], guard := none }) (v := ?a4_v5) rfl (by kernel_rfl) (by kernel_rfl) (by kernel_rfl) (fun _ _ _ h => h) (Or.inl ⟨by rfl, ?a4_y5⟩) (by assumption) ?a4_r5
        case a4_y5 => (intro w hSw; (try dsimp only at hSw); go_simp; try (with_reducible rfl))
        try simp only [Act.put, List.setIfInBounds_toArray, List.set_cons_zero, List.set_cons_succ]
        refine wpAnyH_take (i := 6) (oi := { dst := some 49, op := Op.load 66 (Operand.tmp 48), type := 66, pos := "optext.go:65", after := #[{ on := 5, ground := Ground.data }], guard := none }) (v := ?a5_v6) rfl (by kernel_rfl) (by kernel_rfl) (by kernel_rfl) (fun _ _ _ h => h) (Or.inl ⟨by rfl, ?a5_y6⟩) (by assumption) ?a5_r6
        case a5_y6 => (intro w hSw; (try dsimp only at hSw); go_simp; try (with_reducible rfl))
        try simp only [Act.put, List.setIfInBounds_toArray, List.set_cons_zero, List.set_cons_succ]
        refine wpAnyH_ready (rs := [3]) (by kernel_rfl) (by simp) ?_
        refine AllReadyH.cons (o := { dst := some 46, op := Op.call { callee := Callee.value (Operand.func 46), args := #[Operand.tmp 45], argTypes := #[66] }, type := 9, pos := "optext.go:65", after := #[{ on := 2, ground := Ground.data }], guard := none }) rfl (fun K hK => ?_) (AllReadyH.nil)
        go_simp
        go_at_call 46
        refine (HF.out.1 _ (below_step HBX.out (below_drew (Below.refl _ _)))).mono ?_
        rintro e w3 ⟨rfl, hb3⟩
        have HX3 : Hid (Below X.heap.size X w3) := Lib.hid (below_step (below_drew (Below.refl _ _)) hb3)
        clear hb3
        have hNEW : w3.cell? ⟨wr.heap.size, 0, none⟩ = some (.int .u32 kv) ∧ w3.cell? ⟨wr.heap.size, 1, none⟩ = some (.int .u32 km) := ⟨(HXB.out.below HX3.out HXB.out.lt).cell 0, (HXB.out.below HX3.out HXB.out.lt).cell 1⟩
        refine hK.out _ _ hNEW (fun hHeld5 => ?_)
        clear hK K hNEW
        refine wpAnyH_take (i := 4) (oi := { dst := some 47, op := Op.binOp BinOp.add 9 (Operand.tmp 46) (Operand.const (Value.string { data := #[47] })) 9, type := 9, pos := "optext.go:65", after := #[{ on := 3, ground := Ground.data }], guard := none }) (v := ?a6_v4) rfl (by kernel_rfl) (by kernel_rfl) (by kernel_rfl) (fun _ _ _ h => h) (Or.inl ⟨by rfl, ?a6_y4⟩) (by assumption) ?a6_r4
        case a6_y4 => (intro w hSw; (try dsimp only at hSw); go_simp; try (with_reducible rfl))
        try simp only [Act.put, List.setIfInBounds_toArray, List.set_cons_zero, List.set_cons_succ]
        refine wpAnyH_ready (rs := [7]) (by kernel_rfl) (by simp) ?_
        refine AllReadyH.cons (o := { dst := some 50, op := Op.call { callee := Callee.value (Operand.func 46), args := #[Operand.tmp 49], argTypes := #[66] }, type := 9, pos := "optext.go:65", after := #[{ on := 6, ground := Ground.data }, { on := 3, ground := Ground.chain }], guard := none }) rfl (fun K hK => ?_) (AllReadyH.nil)
        go_simp
        go_at_call 46
        refine (HF.out.2 _ (below_step HBX.out HX3.out)).mono ?_
        rintro e w4 ⟨rfl, hb4⟩
        have HX4 : Hid (Below X.heap.size X w4) := Lib.hid (below_step HX3.out hb4)
        clear hb4
        have hNEW : w4.cell? ⟨wr.heap.size, 0, none⟩ = some (.int .u32 kv) ∧ w4.cell? ⟨wr.heap.size, 1, none⟩ = some (.int .u32 km) := ⟨(HXB.out.below HX4.out HXB.out.lt).cell 0, (HXB.out.below HX4.out HXB.out.lt).cell 1⟩
        refine hK.out _ _ hNEW (fun hHeld6 => ?_)
        clear hK K hNEW
        refine wpAnyH_take (i := 8) (oi := { dst := some 51, op := Op.binOp BinOp.add 9 (Operand.tmp 47) (Operand.tmp 50) 9, type := 9, pos := "optext.go:65", after := #[{ on := 4, ground := Ground.data }, { on := 7, ground := Ground.data }], guard := none }) (v := ?a7_v8) rfl (by kernel_rfl) (by kernel_rfl) (by kernel_rfl) (fun _ _ _ h => h) (Or.inl ⟨by rfl, ?a7_y8⟩) (by assumption) ?a7_r8
        case a7_y8 => (intro w hSw; (try dsimp only at hSw); go_simp; try (with_reducible rfl))
        try simp only [Act.put, List.setIfInBounds_toArray, List.set_cons_zero, List.set_cons_succ]
        refine wpAnyH_ready (rs := [9]) (by kernel_rfl) (by simp) ?_
        refine AllReadyH.cons (o := { dst := some 52, op := Op.buildSlice 86 1 #[(0, Operand.tmp 51)], type := 86, pos := "optext.go:65", after := #[{ on := 8, ground := Ground.data }], guard := none }) rfl (fun K hK => ?_) (AllReadyH.nil)
        go_simp
        obtain ⟨U, hU⟩ : ∃ U, U = (w4.alloc (.cells #[.string (sv ++ ⟨#[47]⟩ ++ sm)] 9)) := ⟨_, rfl⟩
        have HXU : Hid (Below X.heap.size X U) := Lib.hid (below_step HX4.out (by rw [hU]; exact below1 _ _))
        have HNW : Hid (Blk U w4.heap.size 9 #[.string (sv ++ ⟨#[47]⟩ ++ sm)]) := Lib.hid (by rw [hU]; exact Blk.new _ _ _)
        have HOU := Lib.hid (ownsRow_below HOX.out HXU.out)
        have HBU : Hid (B ≤ U.heap.size) := Lib.hid (Nat.le_trans HBs.out (Nat.le_trans HWX.out HXU.out.size))
        have hNEW : (w4.alloc (.cells #[.string (sv ++ ⟨#[47]⟩ ++ sm)] 9)).cell? ⟨wr.heap.size, 0, none⟩ = some (.int .u32 kv) ∧ (w4.alloc (.cells #[.string (sv ++ ⟨#[47]⟩ ++ sm)] 9)).cell? ⟨wr.heap.size, 1, none⟩ = some (.int .u32 km) := by rw [← hU]; exact ⟨(HXB.out.below HXU.out HXB.out.lt).cell 0, (HXB.out.below HXU.out HXB.out.lt).cell 1⟩
        refine hK.out _ _ hNEW (fun hHeld7 => ?_)
        clear hK K hNEW
        rw [← hU]
        clear hU
        refine wpAnyH_ready (rs := [10]) (by kernel_rfl) (by simp) ?_
        refine AllReadyH.cons (o := { dst := some 53, op := Op.call { callee := Callee.builtin Builtin.append, args := #[Operand.tmp 43, Operand.tmp 52], argTypes := #[86, 86] }, type := 86, pos := "optext.go:65", after := #[{ on := 0, ground := Ground.data }, { on := 9, ground := Ground.data }, { on := 7, ground := Ground.chain }], guard := none }) rfl (fun K hK => ?_) (AllReadyH.nil)
        rw [if_pos (by rfl)]
        refine opwp_append_O (.tmp 43) (.tmp 52) 86 rfl B 9 i0 _ 1 16 Tryz.underlying86 hi hz0 hz1 hz2 rfl (by decide) _ _ _ rfl HOU.out (cells := (fun s : ByteArray => [Value.string s])) ⟨[sv ++ ⟨#[47]⟩ ++ sm], some ⟨w4.heap.size, 0, none⟩, 1⟩ rfl (one_sL HNW.out) (fun h => by cases h) (fun _ => rfl) (fun s c hc => by simp only [List.mem_singleton] at hc; subst hc; rfl) ?j11 ?j12 ?j13 ?_
        case j11 => have := HKl.out; unfold maxLen; simp only [List.length_cons, List.length_nil]; omega
        case j12 => have := HKl.out; simp only [List.length_cons, List.length_nil]; omega
        case j13 => exact HBU.out
        intro v6 w6 hown6 hgr6
        have hBW : Below B U w6 := grown_below HOU.out hgr6 HBU.out
        have HXW : Hid (Below W.heap.size W w6) := Lib.hid ((below_step HBX.out HXU.out).trans (hBW.mono HWB.out))
        have HB6 : Hid (B ≤ w6.heap.size) := Lib.hid (Nat.le_trans HBU.out hBW.size)
        have hne : (Value.slice A (k + 2) c).ownBlock ≠ some wr.heap.size := fun e => by have := (own_ltO HOw.out _ e).2; omega
        have hXB6 : Blk w6 wr.heap.size 68 #[.int .u32 kv, .int .u32 km] := (HXB.out.below HXU.out HXB.out.lt).grown hgr6 (fun e => hne e.symm)
        obtain ⟨A6, c6, rfl⟩ := row_sliceO hown6
        have HO6 := Lib.hid hown6
        have hNEW : w6.cell? ⟨wr.heap.size, 0, none⟩ = some (.int .u32 kv) ∧ w6.cell? ⟨wr.heap.size, 1, none⟩ = some (.int .u32 km) := ⟨hXB6.cell 0, hXB6.cell 1⟩
        refine hK.out _ _ hNEW (fun hHeld8 => ?_)
        clear hK K hNEW hown6 hgr6 hBW hne hXB6
        try simp only [Act.put, List.setIfInBounds_toArray, List.set_cons_zero, List.set_cons_succ]
        refine wpAnyH_take (i := 11) (oi := { dst := some 9, op := Op.assign (Operand.tmp 53), type := 86, pos := "optext.go:65", after := #[{ on := 10, ground := Ground.data }, { on := 10, ground := Ground.chain }, { on := 0, ground := Ground.phase }, { on := 1, ground := Ground.phase }, { on := 2, ground := Ground.phase }, { on := 3, ground := Ground.phase }, { on := 4, ground := Ground.phase }, { on := 5, ground := Ground.phase }, { on := 6, ground := Ground.phase }, { on := 7, ground := Ground.phase }, { on := 8, ground := Ground.phase }, { on := 9, ground := Ground.phase }, { on := 10, ground := Ground.phase }], guard := none }) (v := ?a8_v11) rfl (by kernel_rfl) (by kernel_rfl) (by kernel_rfl) (fun _ _ _ h => h) (Or.inl ⟨by rfl, ?a8_y11⟩) (by assumption) ?a8_r11
        case a8_y11 => (intro w hSw; (try dsimp only at hSw); go_simp; try (with_reducible rfl))
        try simp only [Act.put, List.setIfInBounds_toArray, List.set_cons_zero, List.set_cons_succ]
        refine wpAnyH_done (by kernel_rfl) ?_ _
        have hk6 := HKl.out
        have hk7 := HLT.out
        go_wp2
        go_roundw
        case rel => exact ⟨k + 1, A6, c6, HLT.out, by go_num, by first | rfl | (congr 1; omega), by (have h := HO6.out; rw [show sv ++ (⟨#[47]⟩ : ByteArray) ++ sm = keyS ⟨kv, km⟩ from HKS.out] at h; exact Lib.hid (by rw [HTk.out]; exact h)), HXW.out, HB6⟩
        case measure => have := HLT.out; simp [intOf]; omega
      · have e : k = kl.length := by omega
        rw [e, List.take_length] at HOw
        have HBr := Lib.hid HB
        subst e
        clear HB
        go_upto_region 14 with fail
        have hp3 := fun u (h : Below W.heap.size W u) => (hp u h).1
        have hp4 := fun u (h : Below W.heap.size W u) => (hp u h).2
        refine wp_region_held_drew (S := (fun u => Below W.heap.size W u)) (by kernel_rfl) (below_step HBr.out (below_drew (Below.refl _ _))) (fun hHeld => ?_)
        refine wpAnyH_take (i := 0) (oi := { dst := some 55, op := Op.move (Operand.tmp 9), type := 86, pos := "optext.go:67", after := #[], guard := none }) (v := ?b1_v0) rfl (by kernel_rfl) (by kernel_rfl) (by kernel_rfl) (fun _ _ _ h => h) (Or.inl ⟨by rfl, ?b1_y0⟩) (by assumption) ?b1_r0
        case b1_y0 => (intro w hSw; (try dsimp only at hSw); go_simp; try (with_reducible rfl))
        try simp only [Act.put, List.setIfInBounds_toArray, List.set_cons_zero, List.set_cons_succ]
        refine wpAnyH_take (i := 1) (oi := { dst := some 56, op := Op.fieldAddr 39 (Operand.tmp 3) 3, type := 0, pos := "optext.go:67", after := #[], guard := none }) (v := ?b2_v1) rfl (by kernel_rfl) (by kernel_rfl) (by kernel_rfl) (fun _ _ _ h => h) (Or.inl ⟨by rfl, ?b2_y1⟩) (by assumption) ?b2_r1
        case b2_y1 => (intro w hSw; (try dsimp only at hSw); go_simp; try (with_reducible rfl))
        try simp only [Act.put, List.setIfInBounds_toArray, List.set_cons_zero, List.set_cons_succ]
        refine wpAnyH_take (i := 2) (oi := { dst := some 57, op := Op.fieldAddr 37 (Operand.tmp 56) 1, type := 0, pos := "optext.go:67", after := #[{ on := 1, ground := Ground.data }], guard := none }) (v := ?b3_v2) rfl (by kernel_rfl) (by kernel_rfl) (by kernel_rfl) (fun _ _ _ h => h) (Or.inl ⟨by rfl, ?b3_y2⟩) (by assumption) ?b3_r2
        case b3_y2 => (intro w hSw; (try dsimp only at hSw); go_simp; try (with_reducible rfl))
        try simp only [Act.put, List.setIfInBounds_toArray, List.set_cons_zero, List.set_cons_succ]
        refine wpAnyH_take (i := 3) (oi := { dst := some 58, op := Op.load 3 (Operand.tmp 57), type := 3, pos := "optext.go:67", after := #[{ on := 2, ground := Ground.data }], guard := none }) (v := ?b4_v3) rfl (by kernel_rfl) (by kernel_rfl) (by kernel_rfl) (fun _ _ _ h => h) (Or.inl ⟨by rfl, ?b4_y3⟩) (by assumption) ?b4_r3
        case b4_y3 => (intro w hSw; (try dsimp only at hSw); go_simp; try (with_reducible rfl))
        try simp only [Act.put, List.setIfInBounds_toArray, List.set_cons_zero, List.set_cons_succ]
        refine wpAnyH_take (i := 5) (oi := { dst := some 60, op := Op.load 31 (Operand.tmp 2), type := 31, pos := "optext.go:67", after := #[], guard := none }) (v := ?b5_v5) rfl (by kernel_rfl) (by kernel_rfl) (by kernel_rfl) (fun _ _ _ h => h) (Or.inl ⟨by rfl, ?b5_y5⟩) (by assumption) ?b5_r5
        case b5_y5 => (intro w hSw; (try dsimp only at hSw); go_simp; try (with_reducible rfl))
        try simp only [Act.put, List.setIfInBounds_toArray, List.set_cons_zero, List.set_cons_succ]
        refine wpAnyH_take (i := 6) (oi := { dst := some 61, op := Op.fieldAddr 39 (Operand.tmp 3) 3, type := 0, pos := "optext.go:67", after := #[], guard := none }) (v := ?b6_v6) rfl (by kernel_rfl) (by kernel_rfl) (by kernel_rfl) (fun _ _ _ h => h) (Or.inl ⟨by rfl, ?b6_y6⟩) (by assumption) ?b6_r6
        case b6_y6 => (intro w hSw; (try dsimp only at hSw); go_simp; try (with_reducible rfl))
        try simp only [Act.put, List.setIfInBounds_toArray, List.set_cons_zero, List.set_cons_succ]
        refine wpAnyH_take (i := 7) (oi := { dst := some 62, op := Op.fieldAddr 37 (Operand.tmp 61) 2, type := 0, pos := "optext.go:67", after := #[{ on := 6, ground := Ground.data }], guard := none }) (v := ?b7_v7) rfl (by kernel_rfl) (by kernel_rfl) (by kernel_rfl) (fun _ _ _ h => h) (Or.inl ⟨by rfl, ?b7_y7⟩) (by assumption) ?b7_r7
        case b7_y7 => (intro w hSw; (try dsimp only at hSw); go_simp; try (with_reducible rfl))
        try simp only [Act.put, List.setIfInBounds_toArray, List.set_cons_zero, List.set_cons_succ]
        refine wpAnyH_take (i := 8) (oi := { dst := some 63, op := Op.load 35 (Operand.tmp 62), type := 35, pos := "optext.go:67", after := #[{ on := 7, ground := Ground.data }], guard := none }) (v := ?b8_v8) rfl (by kernel_rfl) (by kernel_rfl) (by kernel_rfl) (fun _ _ _ h => h) (Or.inl ⟨by rfl, ?b8_y8⟩) (by assumption) ?b8_r8
        case b8_y8 => (intro w hSw; (try dsimp only at hSw); go_simp; try (with_reducible rfl))
        try simp only [Act.put, List.setIfInBounds_toArray, List.set_cons_zero, List.set_cons_succ]
        refine wpAnyH_ready (rs := [4]) (by kernel_rfl) (by simp) ?_
        refine AllReadyH.cons (o := { dst := some 59, op := Op.call { callee := Callee.value (Operand.func 45), args := #[Operand.tmp 58], argTypes := #[3] }, type := 9, pos := "optext.go:67", after := #[{ on := 3, ground := Ground.data }], guard := none }) rfl (fun K hK => ?_) (AllReadyH.nil)
        go_simp
        go_at_call 45
        refine (HFP.out _ (below_step HBr.out (below_drew (Below.refl _ _)))).mono ?_
        rintro e w3 ⟨rfl, hb3⟩
        have HX3 : Hid (Below wr.heap.size wr w3) := Lib.hid (below_step (below_drew (Below.refl _ _)) hb3)
        clear hb3
        have hNEW : Below W.heap.size W w3 := below_step HBr.out HX3.out
        refine hK.out _ _ hNEW (fun hHeld5 => ?_)
        clear hK K hNEW
        refine wpAnyH_ready (rs := [9]) (by kernel_rfl) (by simp) ?_
        refine AllReadyH.cons (o := { dst := some 64, op := Op.call { callee := Callee.value (Operand.func 47), args := #[Operand.tmp 60, Operand.tmp 63], argTypes := #[31, 35] }, type := 9, pos := "optext.go:67", after := #[{ on := 5, ground := Ground.data }, { on := 8, ground := Ground.data }, { on := 4, ground := Ground.chain }], guard := none }) rfl (fun K hK => ?_) (AllReadyH.nil)
        go_simp
        go_at_call 47
        refine (HC9.out _ (below_step HBr.out HX3.out)).mono ?_
        rintro e w4 ⟨rfl, hb4⟩
        have HX4 : Hid (Below wr.heap.size wr w4) := Lib.hid (below_step HX3.out hb4)
        clear hb4
        have hNEW : Below W.heap.size W w4 := below_step HBr.out HX4.out
        refine hK.out _ _ hNEW (fun hHeld6 => ?_)
        clear hK K hNEW
        refine wpAnyH_ready (rs := [10]) (by kernel_rfl) (by simp) ?_
        refine AllReadyH.cons (o := { dst := some 65, op := Op.buildSlice 86 4 #[(0, Operand.const (Value.string { data := #[112, 114, 105, 111, 114, 105, 116, 121] })), (1, Operand.tmp 59), (2, Operand.const (Value.string { data := #[45, 62] })), (3, Operand.tmp 64)], type := 86, pos := "optext.go:67", after := #[{ on := 4, ground := Ground.data }, { on := 9, ground := Ground.data }], guard := none }) rfl (fun K hK => ?_) (AllReadyH.nil)
        go_simp
        obtain ⟨U, hU⟩ : ∃ U, U = (w4.alloc (.cells #[.string ⟨#[112, 114, 105, 111, 114, 105, 116, 121]⟩, .string (idS pr), .string ⟨#[45, 62]⟩, .string CS] 9)) := ⟨_, rfl⟩
        have HXU : Hid (Below wr.heap.size wr U) := Lib.hid (below_step HX4.out (by rw [hU]; exact below1 _ _))
        have HNW : Hid (Blk U w4.heap.size 9 #[.string ⟨#[112, 114, 105, 111, 114, 105, 116, 121]⟩, .string (idS pr), .string ⟨#[45, 62]⟩, .string CS]) := Lib.hid (by rw [hU]; exact Blk.new _ _ _)
        have HOU := Lib.hid (ownsRow_below HOw.out HXU.out)
        have HBU : Hid (B ≤ U.heap.size) := Lib.hid (Nat.le_trans HBs.out HXU.out.size)
        have hNEW : Below W.heap.size W (w4.alloc (.cells #[.string ⟨#[112, 114, 105, 111, 114, 105, 116, 121]⟩, .string (idS pr), .string ⟨#[45, 62]⟩, .string CS] 9)) := by rw [← hU]; exact below_step HBr.out HXU.out
        refine hK.out _ _ hNEW (fun hHeld7 => ?_)
        clear hK K hNEW
        rw [← hU]
        clear hU
        refine wpAnyH_ready (rs := [11]) (by kernel_rfl) (by simp) ?_
        refine AllReadyH.cons (o := { dst := some 66, op := Op.call { callee := Callee.builtin Builtin.append, args := #[Operand.tmp 55, Operand.tmp 65], argTypes := #[86, 86] }, type := 86, pos := "optext.go:67", after := #[{ on := 0, ground := Ground.data }, { on := 10, ground := Ground.data }, { on := 9, ground := Ground.chain }], guard := none }) rfl (fun K hK => ?_) (AllReadyH.nil)
        rw [if_pos (by rfl)]
        refine opwp_append_O (.tmp 55) (.tmp 65) 86 rfl B 9 i0 _ 1 16 Tryz.underlying86 hi hz0 hz1 hz2 rfl (by decide) _ _ _ rfl HOU.out (cells := (fun s : ByteArray => [Value.string s])) ⟨[⟨#[112, 114, 105, 111, 114, 105, 116, 121]⟩, idS pr, ⟨#[45, 62]⟩, CS], some ⟨w4.heap.size, 0, none⟩, 4⟩ rfl (four_sL HNW.out) (fun h => by cases h) (fun _ => rfl) (fun s c hc => by simp only [List.mem_singleton] at hc; subst hc; rfl) ?j21 ?j22 ?j23 ?_
        case j21 => have := HKl.out; unfold maxLen; simp only [List.length_cons, List.length_nil]; omega
        case j22 => have := HKl.out; simp only [List.length_cons, List.length_nil]; omega
        case j23 => exact HBU.out
        intro v6 w6 hown6 hgr6
        have hBW : Below B U w6 := grown_below HOU.out hgr6 HBU.out
        have HXW : Hid (Below W.heap.size W w6) := Lib.hid ((below_step HBr.out HXU.out).trans (hBW.mono HWB.out))
        obtain ⟨A6, c6, rfl⟩ := row_sliceO hown6
        have HO6 := Lib.hid hown6
        have hNEW : Below W.heap.size W w6 := HXW.out
        refine hK.out _ _ hNEW (fun hHeld8 => ?_)
        clear hK K hNEW hown6 hgr6 hBW
        try simp only [Act.put, List.setIfInBounds_toArray, List.set_cons_zero, List.set_cons_succ]
        refine wpAnyH_take (i := 12) (oi := { dst := some 9, op := Op.assign (Operand.tmp 66), type := 86, pos := "optext.go:67", after := #[{ on := 11, ground := Ground.data }, { on := 11, ground := Ground.chain }, { on := 0, ground := Ground.phase }, { on := 1, ground := Ground.phase }, { on := 2, ground := Ground.phase }, { on := 3, ground := Ground.phase }, { on := 4, ground := Ground.phase }, { on := 5, ground := Ground.phase }, { on := 6, ground := Ground.phase }, { on := 7, ground := Ground.phase }, { on := 8, ground := Ground.phase }, { on := 9, ground := Ground.phase }, { on := 10, ground := Ground.phase }, { on := 11, ground := Ground.phase }], guard := none }) (v := ?b9_v12) rfl (by kernel_rfl) (by kernel_rfl) (by kernel_rfl) (fun _ _ _ h => h) (Or.inl ⟨by rfl, ?b9_y12⟩) (by assumption) ?b9_r12
        case b9_y12 => (intro w hSw; (try dsimp only at hSw); go_simp; try (with_reducible rfl))
        try simp only [Act.put, List.setIfInBounds_toArray, List.set_cons_zero, List.set_cons_succ]
        refine wpAnyH_done (by kernel_rfl) ?_ _
        have HJ := Lib.hid (join_words nm kl pr CS T w6 (B := B) (A := A6) (c := c6) HE.out HO6.out HKl.out hns hcs HPsz.out)
        clear HO6
        go_wp2_with fail
        refine HJ.out.mono ?_
        rintro e w7 ⟨rfl, hb7⟩
        have HB7 := Lib.hid (below_step HXW.out hb7)
        clear hb7
        go_wp2
        go_ret2
        exact ⟨rfl, below_step HW.out HB7.out⟩
  · have HGC := Lib.hid (HG.out.call (.inl hk))
    have hcz := HCz2.out HGC.out
    have HE := Lib.hid (fun cs hc => HMS.out hk nm cs HNT.out hc)
    clear HMS HDS HFS HIS
    simp only at hk
    subst hk
    have HC9 := Lib.hid (fun u hb => HCC.out HGC.out u hb)
    obtain ⟨CS, hCS⟩ : ∃ s : ByteArray, s = ⟨(callT p ca cg.l).toArray⟩ := ⟨_, rfl⟩
    replace HE := Lib.hid (HE.out CS (by rw [hCS]))
    have hcs : CS.size ≤ 200 := by rw [hCS]; exact hcz
    rw [← hCS] at HC9
    clear hcz hCS
    have y0 : ¬ ((⟨#[109, 111, 100, 105, 102, 121, 32]⟩ : ByteArray).size + nm.size > 9223372036854775807) := by (try simp only [ByteArray.size_append]); have : (⟨#[32]⟩ : ByteArray).size = 1 := rfl; have : (⟨#[109, 111, 100, 105, 102, 121, 32]⟩ : ByteArray).size = 7 := rfl; have : (⟨#[32, 45, 62, 32]⟩ : ByteArray).size = 4 := rfl; omega
    have x0 : ¬ (7 + nm.size > 9223372036854775807) := by omega
    have y1 : ¬ (((⟨#[109, 111, 100, 105, 102, 121, 32]⟩ : ByteArray) ++ nm).size + ((⟨#[32]⟩ : ByteArray) ++ IDS).size > 9223372036854775807) := by (try simp only [ByteArray.size_append]); have : (⟨#[32]⟩ : ByteArray).size = 1 := rfl; have : (⟨#[109, 111, 100, 105, 102, 121, 32]⟩ : ByteArray).size = 7 := rfl; have : (⟨#[32, 45, 62, 32]⟩ : ByteArray).size = 4 := rfl; omega
    have x1 : ¬ (7 + nm.size + (1 + IDS.size) > 9223372036854775807) := by omega
    have y2 : ¬ ((((⟨#[109, 111, 100, 105, 102, 121, 32]⟩ : ByteArray) ++ nm) ++ ((⟨#[32]⟩ : ByteArray) ++ IDS)).size + (⟨#[32, 45, 62, 32]⟩ : ByteArray).size > 9223372036854775807) := by (try simp only [ByteArray.size_append]); have : (⟨#[32]⟩ : ByteArray).size = 1 := rfl; have : (⟨#[109, 111, 100, 105, 102, 121, 32]⟩ : ByteArray).size = 7 := rfl; have : (⟨#[32, 45, 62, 32]⟩ : ByteArray).size = 4 := rfl; omega
    have x2 : ¬ (7 + nm.size + (1 + IDS.size) + 4 > 9223372036854775807) := by omega
    have y3 : ¬ (((((⟨#[109, 111, 100, 105, 102, 121, 32]⟩ : ByteArray) ++ nm) ++ ((⟨#[32]⟩ : ByteArray) ++ IDS)) ++ (⟨#[32, 45, 62, 32]⟩ : ByteArray)).size + CS.size > 9223372036854775807) := by (try simp only [ByteArray.size_append]); have : (⟨#[32]⟩ : ByteArray).size = 1 := rfl; have : (⟨#[109, 111, 100, 105, 102, 121, 32]⟩ : ByteArray).size = 7 := rfl; have : (⟨#[32, 45, 62, 32]⟩ : ByteArray).size = 4 := rfl; omega
    have x3 : ¬ (7 + nm.size + (1 + IDS.size) + 4 + CS.size > 9223372036854775807) := by omega
    go_wp2_with fail
    refine (HC9.out _ (by first | exact HB | exact below_alloc HB _ | exact below_alloc (below_alloc HB _) _ | exact below_alloc (below_alloc (below_alloc HB _) _) _)).mono ?_
    rintro e w3 ⟨rfl, hbN⟩
    replace HB := below_step (by first | exact HB | exact below_alloc HB _ | exact below_alloc (below_alloc HB _) _ | exact below_alloc (below_alloc (below_alloc HB _) _) _) hbN
    clear hbN
    go_wp2
    go_ret2
    exact ⟨by rw [← HE.out]; rfl, below_step HW.out HB⟩
  · have HE := Lib.hid (HDS.out hk nm HNT.out)
    clear HMS HDS HFS HIS
    simp only at hk
    subst hk
    have y0 : ¬ ((⟨#[100, 101, 108, 101, 116, 101, 32]⟩ : ByteArray).size + nm.size > 9223372036854775807) := by (try simp only [ByteArray.size_append]); have : (⟨#[32]⟩ : ByteArray).size = 1 := rfl; have : (⟨#[100, 101, 108, 101, 116, 101, 32]⟩ : ByteArray).size = 7 := rfl; omega
    have x0 : ¬ (7 + nm.size > 9223372036854775807) := by omega
    have y1 : ¬ (((⟨#[100, 101, 108, 101, 116, 101, 32]⟩ : ByteArray) ++ nm).size + ((⟨#[32]⟩ : ByteArray) ++ IDS).size > 9223372036854775807) := by (try simp only [ByteArray.size_append]); have : (⟨#[32]⟩ : ByteArray).size = 1 := rfl; have : (⟨#[100, 101, 108, 101, 116, 101, 32]⟩ : ByteArray).size = 7 := rfl; omega
    have x1 : ¬ (7 + nm.size + (1 + IDS.size) > 9223372036854775807) := by omega
    go_wp2
    go_ret2
    exact ⟨by rw [← HE.out]; rfl, below_step HW.out HB⟩
  · have HGC := Lib.hid (HG.out.call (.inr hk))
    have hcz := HCz2.out HGC.out
    have HE := Lib.hid (fun cs hc => HFS.out hk nm cs HNT.out hc)
    clear HMS HDS HFS HIS
    simp only at hk
    subst hk
    have HC9 := Lib.hid (fun u hb => HCC.out HGC.out u hb)
    obtain ⟨CS, hCS⟩ : ∃ s : ByteArray, s = ⟨(callT p ca cg.l).toArray⟩ := ⟨_, rfl⟩
    replace HE := Lib.hid (HE.out CS (by rw [hCS]))
    have hcs : CS.size ≤ 200 := by rw [hCS]; exact hcz
    rw [← hCS] at HC9
    clear hcz hCS
    have y0 : ¬ ((⟨#[100, 101, 102, 97, 117, 108, 116, 32]⟩ : ByteArray).size + nm.size > 9223372036854775807) := by (try simp only [ByteArray.size_append]); have : (⟨#[100, 101, 102, 97, 117, 108, 116, 32]⟩ : ByteArray).size = 8 := rfl; have : (⟨#[32, 45, 62, 32]⟩ : ByteArray).size = 4 := rfl; omega
    have x0 : ¬ (8 + nm.size > 9223372036854775807) := by omega
    have y1 : ¬ (((⟨#[100, 101, 102, 97, 117, 108, 116, 32]⟩ : ByteArray) ++ nm).size + (⟨#[32, 45, 62, 32]⟩ : ByteArray).size > 9223372036854775807) := by (try simp only [ByteArray.size_append]); have : (⟨#[100, 101, 102, 97, 117, 108, 116, 32]⟩ : ByteArray).size = 8 := rfl; have : (⟨#[32, 45, 62, 32]⟩ : ByteArray).size = 4 := rfl; omega
    have x1 : ¬ (8 + nm.size + 4 > 9223372036854775807) := by omega
    have y2 : ¬ ((((⟨#[100, 101, 102, 97, 117, 108, 116, 32]⟩ : ByteArray) ++ nm) ++ (⟨#[32, 45, 62, 32]⟩ : ByteArray)).size + CS.size > 9223372036854775807) := by (try simp only [ByteArray.size_append]); have : (⟨#[100, 101, 102, 97, 117, 108, 116, 32]⟩ : ByteArray).size = 8 := rfl; have : (⟨#[32, 45, 62, 32]⟩ : ByteArray).size = 4 := rfl; omega
    have x2 : ¬ (8 + nm.size + 4 + CS.size > 9223372036854775807) := by omega
    go_wp2_with fail
    refine (HC9.out _ (by first | exact HB | exact below_alloc HB _ | exact below_alloc (below_alloc HB _) _ | exact below_alloc (below_alloc (below_alloc HB _) _) _)).mono ?_
    rintro e w3 ⟨rfl, hbN⟩
    replace HB := below_step (by first | exact HB | exact below_alloc HB _ | exact below_alloc (below_alloc HB _) _ | exact below_alloc (below_alloc (below_alloc HB _) _) _) hbN
    clear hbN
    go_wp2
    go_ret2
    exact ⟨by rw [← HE.out]; rfl, below_step HW.out HB⟩
end Go.Proofs.YtofjapcgbajmiaaGreatDoor
namespace Go.Proofs.YtofjapcgbajmiaaGreatDoor
open Go.RowKit Go.Maps
set_option maxRecDepth 100000 in
set_option maxHeartbeats 2000000 in
theorem op_name (r : OR) (gB : Nat) : NamesF 131 (r.p.tables.l.map TabD.name) r gB := by
  intro u e i hi hR hB hP
  have hi' : i < r.p.tables.l.length := by simpa using hi
  obtain ⟨g, of, hA, hall⟩ := TabD.atA hP.tables hi'
  obtain ⟨d0, d1, d2, d3, d4, d5⟩ := hall u (Below.refl _ _)
  have c4 : u.cell? ⟨r.gR, 5, none⟩ = some (.slice r.p.tables.A r.p.tables.l.length r.p.tables.c) := hR.cell 5
  have cB : u.cell? ⟨gB, 0, none⟩ = some (.pointer (some ⟨r.gR, 0, none⟩)) := hB.cell 0
  have HN := Lib.hid (show (r.p.tables.l.map TabD.name)[i] = r.p.tables.l[i].name from List.getElem_map _)
  have hlt : (i : Int) < (r.p.tables.l.length : Int) := by omega
  rw [hA] at c4
  rw [HN.out]
  generalize r.p.tables.l[i] = y at *
  obtain ⟨nm, kl, al, td, tg, ts⟩ := y
  simp only at d0 ⊢
  clear hall hR hB hP hA d1 d2 d3 d4 d5 HN
  go_enter Tryz.func131, Tryz.ntmps131
  go_wp2
  go_ret
  exact ⟨rfl, rfl⟩
def kindsD : DataW Unit := ((((DataW.map []).put (.string wIns) (.lit (.int .i64 1))).put (.string wMod) (.lit (.int .i64 2))).put (.string wDel) (.lit (.int .i64 3))).put (.string wDef) (.lit (.int .i64 4))
theorem lit_ne {a b : List UInt8} (h : a ≠ b) : (Lit.string a) ≠ .string b := fun e => h (by injection e)
theorem kinds_at (l : List UInt8) : kindsD.atKey (.string l) (.lit (.int .i64 0)) = .lit (.int .i64 (kindW l)) ∧ Maps.has kindsD (.string l) = decide (kindW l ≠ 0) := by
  by_cases h1 : l = wIns
  · subst h1; exact ⟨by kernel_rfl, by kernel_rfl⟩
  by_cases h2 : l = wMod
  · subst h2; exact ⟨by kernel_rfl, by kernel_rfl⟩
  by_cases h3 : l = wDel
  · subst h3; exact ⟨by kernel_rfl, by kernel_rfl⟩
  by_cases h4 : l = wDef
  · subst h4; exact ⟨by kernel_rfl, by kernel_rfl⟩
  have hk : kindW l = 0 := by rw [kindW, if_neg h1, if_neg h2, if_neg h3, if_neg h4]
  rw [hk]
  unfold kindsD
  constructor
  · rw [atKey_put_other (lit_ne h4), atKey_put_other (lit_ne h3), atKey_put_other (lit_ne h2), atKey_put_other (lit_ne h1)]; rfl
  · rw [Maps.has_put_other (lit_ne h4), Maps.has_put_other (lit_ne h3), Maps.has_put_other (lit_ne h2), Maps.has_put_other (lit_ne h1)]; rfl
theorem wpList_insert_O {P : Program} (w : World) {ops : Array Oper} {rest : List Oper} {o : Oper} {a : Act} {Q : Exit → Act → World → Prop}
    (hg : o.guard = none) (m x v : Operand) (t : TypeId) (hop : o.op = Op.insert t m x v)
    (k e : TypeId) (K : Keyed P k) (ht : P.underlying t = some (.map k e)) (R : Value → Option (DataW Unit × List MemPlace)) (b n : Nat) (D : DataW Unit)
    (hm : a.eval m = .map (some b)) (hown : w.ownsMap P k R b n D) (hn : n < maxLen) (key val : Value) (kl : Lit) (hx : a.eval x = key) (hv : a.eval v = val) (hkey : keyOf P k key = some kl)
    (d : DataW Unit) (ps : List MemPlace) (hval : R val = some (d, ps))
    (hK : ∀ w', w'.ownsMap P k R b (n + 1) (D.put kl d) → w.grownBy w' (some b) → wpList P ops Q rest (a.put o.dst undef) w') :
    wpList P ops Q (o :: rest) a w := by
  refine wpList_plain hg fun K' hK' => ?_
  obtain ⟨w', hrun, r1, r2⟩ := hown.update K ht hn hkey hval
  unfold Oper.wp
  simp [execOp, hop, hm, hx, hv, hrun, Result.andThen]
  exact hK' _ _ (hK w' r1 r2)
theorem kindW_five (l : List UInt8) : kindW l = 0 ∨ kindW l = 1 ∨ kindW l = 2 ∨ kindW l = 3 ∨ kindW l = 4 := by
  unfold kindW
  split
  · simp
  split
  · simp
  split
  · simp
  split <;> simp
def Abv (B : Nat) (A : Option Addr) : Prop := ∀ ad, A = some ad → B ≤ ad.block
theorem Abv.nil (B : Nat) : Abv B none := fun _ h => by cases h
theorem LOk.farO {w : World} {k : Nat} {α : Type} {cells : α → List Value} {x : L α} (h : LOk w k cells x) {b j : Nat} {v : Value} (hA : ∀ ad, x.A = some ad → ad.block ≠ b) : LOk (w.setCell ⟨b, j, none⟩ v) k cells x := by
  refine ⟨h.1, ?_⟩
  rcases h.2 with h0 | ⟨g, o, e, hl, hc⟩
  · exact .inl h0
  · have n1 := hA _ e
    refine .inr ⟨g, o, e, by simpa [World.setCell] using hl, fun i hi jj hj => ?_⟩
    rw [World.cell?_of_block (show (w.setCell ⟨b, j, none⟩ v).heap[(⟨g, o + i * k + jj, none⟩ : Addr).block]? = w.heap[(⟨g, o + i * k + jj, none⟩ : Addr).block]? from Below.heap_setCell w _ v g n1)]
    exact hc i hi jj hj
set_option maxHeartbeats 2000000 in
theorem put9O {w : World} {k : Nat} {ty : TypeId} {a0 a1 a2 a3 a4 a5 a6 a7 a8 : Value} (h : Blk w k ty #[a0, a1, a2, a3, a4, a5, a6, a7, a8]) (x0 x1 x2 x3 x4 x5 x6 x7 x8 : Value) :
    Blk (((((((((w.setCell ⟨k, 0, none⟩ (x0)).setCell ⟨k, 1, none⟩ (x1)).setCell ⟨k, 2, none⟩ (x2)).setCell ⟨k, 3, none⟩ (x3)).setCell ⟨k, 4, none⟩ (x4)).setCell ⟨k, 5, none⟩ (x5)).setCell ⟨k, 6, none⟩ (x6)).setCell ⟨k, 7, none⟩ (x7)).setCell ⟨k, 8, none⟩ (x8)) k ty #[x0, x1, x2, x3, x4, x5, x6, x7, x8] := by
  have h0 : Blk (w.setCell ⟨k, 0, none⟩ x0) k ty #[x0, a1, a2, a3, a4, a5, a6, a7, a8] := h.set_ 0 x0
  have h1 : Blk ((w.setCell ⟨k, 0, none⟩ x0).setCell ⟨k, 1, none⟩ x1) k ty #[x0, x1, a2, a3, a4, a5, a6, a7, a8] := h0.set_ 1 x1
  have h2 : Blk (((w.setCell ⟨k, 0, none⟩ x0).setCell ⟨k, 1, none⟩ x1).setCell ⟨k, 2, none⟩ x2) k ty #[x0, x1, x2, a3, a4, a5, a6, a7, a8] := h1.set_ 2 x2
  have h3 : Blk ((((w.setCell ⟨k, 0, none⟩ x0).setCell ⟨k, 1, none⟩ x1).setCell ⟨k, 2, none⟩ x2).setCell ⟨k, 3, none⟩ x3) k ty #[x0, x1, x2, x3, a4, a5, a6, a7, a8] := h2.set_ 3 x3
  have h4 : Blk (((((w.setCell ⟨k, 0, none⟩ x0).setCell ⟨k, 1, none⟩ x1).setCell ⟨k, 2, none⟩ x2).setCell ⟨k, 3, none⟩ x3).setCell ⟨k, 4, none⟩ x4) k ty #[x0, x1, x2, x3, x4, a5, a6, a7, a8] := h3.set_ 4 x4
  have h5 : Blk ((((((w.setCell ⟨k, 0, none⟩ x0).setCell ⟨k, 1, none⟩ x1).setCell ⟨k, 2, none⟩ x2).setCell ⟨k, 3, none⟩ x3).setCell ⟨k, 4, none⟩ x4).setCell ⟨k, 5, none⟩ x5) k ty #[x0, x1, x2, x3, x4, x5, a6, a7, a8] := h4.set_ 5 x5
  have h6 : Blk (((((((w.setCell ⟨k, 0, none⟩ x0).setCell ⟨k, 1, none⟩ x1).setCell ⟨k, 2, none⟩ x2).setCell ⟨k, 3, none⟩ x3).setCell ⟨k, 4, none⟩ x4).setCell ⟨k, 5, none⟩ x5).setCell ⟨k, 6, none⟩ x6) k ty #[x0, x1, x2, x3, x4, x5, x6, a7, a8] := h5.set_ 6 x6
  have h7 : Blk ((((((((w.setCell ⟨k, 0, none⟩ x0).setCell ⟨k, 1, none⟩ x1).setCell ⟨k, 2, none⟩ x2).setCell ⟨k, 3, none⟩ x3).setCell ⟨k, 4, none⟩ x4).setCell ⟨k, 5, none⟩ x5).setCell ⟨k, 6, none⟩ x6).setCell ⟨k, 7, none⟩ x7) k ty #[x0, x1, x2, x3, x4, x5, x6, x7, a8] := h6.set_ 7 x7
  exact h7.set_ 8 x8
theorem keys_lok {w : World} {b : Nat} {l : List KmD} {A : Option Addr} {c : Nat} (h : w.ownsRow b 68 2 (.slice A l.length c) l.length (l.flatMap KmD.cells)) {B : Nat} (hB : B ≤ b) : LOk w 2 KmD.cells ⟨l, A, c⟩ ∧ Abv B A := by
  obtain ⟨A', c', e3, _, h2, _, h4⟩ := own_list (cells := KmD.cells) (fun _ => rfl) h
  rw [Value.slice.injEq] at e3
  obtain ⟨rfl, _, rfl⟩ := e3
  exact ⟨h2, fun ad e => Nat.le_trans hB (h4 ad e).1⟩
structure OpLies (w : World) (o : OpD) (B : Nat) : Prop where
  ok : OpOk w o
  k : Abv B o.keys.A
  e : Abv B o.eargs.A
  c : Abv B o.cargs.A
theorem OpLies.mono {w : World} {o : OpD} {B B' : Nat} (h : OpLies w o B) (hb : B' ≤ B) : OpLies w o B' := ⟨h.ok, fun ad e => Nat.le_trans hb (h.k ad e), fun ad e => Nat.le_trans hb (h.e ad e), fun ad e => Nat.le_trans hb (h.c ad e)⟩
def OperEnd (W w : World) (r : OR) (R : OpP × PS) (e : Ending) (w' : World) : Prop := ∃ o : OpD, e = .returned (.agg (opCells o)) ∧ o.bare = R.1 ∧ OpLies w' o w.heap.size ∧ OSt W w w' r R.2
theorem OpLies.set {w : World} {o : OpD} {B : Nat} (h : OpLies w o B) {b j : Nat} {v : Value} (hb : b < B) : OpLies (w.setCell ⟨b, j, none⟩ v) o B :=
  ⟨⟨h.ok.keys.farO fun ad e => by have := h.k ad e; omega, h.ok.eargs.farO fun ad e => by have := h.e ad e; omega, h.ok.cargs.farO fun ad e => by have := h.c ad e; omega⟩, h.k, h.e, h.c⟩
theorem OpLies.below {w w' : World} {o : OpD} {B : Nat} (h : OpLies w o B) (hb : Below w.heap.size w w') : OpLies w' o B := ⟨h.ok.below hb, h.k, h.e, h.c⟩
def zeroO : OpD := ⟨0, 0, 0, ⟨[], none, 0⟩, 0, 0, ⟨[], none, 0⟩, 0, ⟨[], none, 0⟩⟩
theorem nilLO {α : Type} (w : World) (k : Nat) (cells : α → List Value) : LOk w k cells ⟨[], none, 0⟩ := ⟨Nat.zero_le _, .inl rfl⟩
theorem zero_lies (w : World) (B : Nat) : OpLies w zeroO B := ⟨⟨nilLO _ _ _, nilLO _ _ _, nilLO _ _ _⟩, Abv.nil _, Abv.nil _, Abv.nil _⟩
theorem oper_end {W w wx : World} {r : OR} {R : OpP × PS} {o : OpD} {s : PS} {B : Nat} (hR : R = (o.bare, s)) (hS : OSt W w wx r s) (hL : OpLies wx o B) (hB : w.heap.size + 1 < B) (hW : W.heap.size ≤ w.heap.size + 1)
    (hn : w.heap.size + 1 ≠ r.gR ∧ w.heap.size + 1 ≠ r.gA ∧ w.heap.size + 1 ≠ r.gL) (x0 x1 x2 x3 x4 x5 x6 x7 x8 : Value) :
    OperEnd W w r R (.returned (.agg (opCells o))) (((((((((wx.setCell ⟨w.heap.size + 1, 0, none⟩ (x0)).setCell ⟨w.heap.size + 1, 1, none⟩ (x1)).setCell ⟨w.heap.size + 1, 2, none⟩ (x2)).setCell ⟨w.heap.size + 1, 3, none⟩ (x3)).setCell ⟨w.heap.size + 1, 4, none⟩ (x4)).setCell ⟨w.heap.size + 1, 5, none⟩ (x5)).setCell ⟨w.heap.size + 1, 6, none⟩ (x6)).setCell ⟨w.heap.size + 1, 7, none⟩ (x7)).setCell ⟨w.heap.size + 1, 8, none⟩ (x8)) := by
  subst hR
  refine ⟨o, rfl, rfl, (((((((((hL.set hB).set hB).set hB).set hB).set hB).set hB).set hB).set hB).set hB).mono (by omega), ?_⟩
  have q := fun {u : World} (h : OSt W w u r s) (j : Nat) (v : Value) => h.set (Nat.le_succ w.heap.size) hW hn.1 hn.2.1 hn.2.2 j v
  exact q (q (q (q (q (q (q (q (q hS 0 x0) 1 x1) 2 x2) 3 x3) 4 x4) 5 x5) 6 x6) 7 x7) 8 x8
theorem far9 {w : World} {k ga : Nat} {ty : TypeId} {cs : Array Value} (h : Blk w ga ty cs) (hne : ga ≠ k) (x0 x1 x2 x3 x4 x5 x6 x7 x8 : Value) : Blk (((((((((w.setCell ⟨k, 0, none⟩ (x0)).setCell ⟨k, 1, none⟩ (x1)).setCell ⟨k, 2, none⟩ (x2)).setCell ⟨k, 3, none⟩ (x3)).setCell ⟨k, 4, none⟩ (x4)).setCell ⟨k, 5, none⟩ (x5)).setCell ⟨k, 6, none⟩ (x6)).setCell ⟨k, 7, none⟩ (x7)).setCell ⟨k, 8, none⟩ (x8)) ga ty cs :=
  (((((((((h.far hne _).far hne _).far hne _).far hne _).far hne _).far hne _).far hne _).far hne _).far hne _)
theorem set9 {W w0 w : World} {r : OR} {s : PS} {k : Nat} (h : OSt W w0 w r s) (hk : w0.heap.size ≤ k) (hW : W.heap.size ≤ k) (hn : k ≠ r.gR ∧ k ≠ r.gA ∧ k ≠ r.gL) (x0 x1 x2 x3 x4 x5 x6 x7 x8 : Value) : OSt W w0 (((((((((w.setCell ⟨k, 0, none⟩ (x0)).setCell ⟨k, 1, none⟩ (x1)).setCell ⟨k, 2, none⟩ (x2)).setCell ⟨k, 3, none⟩ (x3)).setCell ⟨k, 4, none⟩ (x4)).setCell ⟨k, 5, none⟩ (x5)).setCell ⟨k, 6, none⟩ (x6)).setCell ⟨k, 7, none⟩ (x7)).setCell ⟨k, 8, none⟩ (x8)) r s := by
  have q := fun {u : World} (h : OSt W w0 u r s) (j : Nat) (v : Value) => h.set hk hW hn.1 hn.2.1 hn.2.2 j v
  exact q (q (q (q (q (q (q (q (q h 0 x0) 1 x1) 2 x2) 3 x3) 4 x4) 5 x5) 6 x6) 7 x7) 8 x8
def TabSt (b0 : Nat) (r : OR) (u : World) : Prop := u.cell? ⟨b0, 0, none⟩ = some (pR r) ∧ u.cell? ⟨r.gR, 5, none⟩ = some (.slice r.p.tables.A r.p.tables.l.length r.p.tables.c)
theorem tabSt_of {W w0 u : World} {r : OR} {s : PS} {b0 : Nat} (h : OSt W w0 u r s) (hb : Blk u b0 120 #[pR r]) : TabSt b0 r u := by
  obtain ⟨a, e, h1, _⟩ := h.ex
  exact ⟨hb.cell 0, h1.cell 5⟩
set_option maxRecDepth 100000 in
set_option maxHeartbeats 8000000 in
theorem ooper {W w : World} {r : OR} (E : OEnv W r) (h : OSt W w w r (.ok 0)) (hna : r.p.actions.l.length ≤ 1000) (hnt : r.p.tables.l.length ≤ 1000) (htx : ∀ t ∈ r.x.l, t.text.length ≤ 16384) :
    Calls Tryz.prog 62 #[.pointer (some ⟨r.gR, 0, none⟩)] w (OperEnd W w r ((opA r.p r.x.l).1, endA r.x.l (opA r.p r.x.l).2)) := by
  have HE := Lib.hid E
  have HLT := Lib.hid h.lt
  have HBW := Lib.hid h.base.size
  have HNM := Lib.hid (And.intro hna hnt)
  obtain ⟨V, hV⟩ : ∃ V, V = (w.alloc (.cells #[pR r] 120)).alloc (.cells #[.int .i64 0, .int .i64 0, .int .i64 0, .slice none 0 0, .int .i64 0, .int .i64 0, .slice none 0 0, .int .i64 0, .slice none 0 0] 39) := ⟨_, rfl⟩
  have HwV : Hid (Below w.heap.size w V) := Lib.hid (by rw [hV]; exact below2 _ _ _)
  have HBV : Hid (Blk V w.heap.size 120 #[pR r]) := Lib.hid (by rw [hV]; exact (Blk.new _ _ _).alloc _)
  have HRV : Hid (Blk V (w.heap.size + 1) 39 #[.int .i64 0, .int .i64 0, .int .i64 0, .slice none 0 0, .int .i64 0, .int .i64 0, .slice none 0 0, .int .i64 0, .slice none 0 0]) := Lib.hid (by
    rw [hV]
    have := Blk.new (w.alloc (.cells #[pR r] 120)) 39 #[.int .i64 0, .int .i64 0, .int .i64 0, .slice none 0 0, .int .i64 0, .int .i64 0, .slice none 0 0, .int .i64 0, .slice none 0 0]
    simpa using this)
  have HSV := Lib.hid (h.below HwV.out)
  have HNB : Hid (w.heap.size ≠ r.gR ∧ w.heap.size ≠ r.gA ∧ w.heap.size + 1 ≠ r.gR ∧ w.heap.size + 1 ≠ r.gA) := Lib.hid (by have := HLT.out; omega)
  have HNG2 : Hid (w.heap.size + 1 ≠ r.gR ∧ w.heap.size + 1 ≠ r.gA ∧ w.heap.size + 1 ≠ r.gL) := Lib.hid (by have := HLT.out; omega)
  have HTXl : Hid ((nxt r.x.l 0).text.length ≤ 16384) := Lib.hid (by
    rcases Nat.eq_zero_or_pos r.x.l.length with h0 | h0
    · rw [nxt_out (by omega)]; exact Nat.zero_le _
    · rw [nxt_in h0]; exact htx _ (List.getElem_mem h0))
  have HPOS : Hid (kindW (nxt r.x.l 0).text ≠ 0 → 0 < r.x.l.length) := Lib.hid (fun hk => by
    rcases Nat.eq_zero_or_pos r.x.l.length with h0 | h0
    · rw [nxt_out (by omega)] at hk; exact absurd rfl hk
    · exact h0)
  have HOA := Lib.hid (opA.eq_1 r.p r.x.l)
  generalize opA r.p r.x.l = RO at *
  have hmm := @run_makeMap Tryz.prog
  clear E h hna hnt htx
  obtain ⟨V1, hV1⟩ : ∃ V1, V1 = V.alloc (.map #[] 0) := ⟨_, rfl⟩
  have HB1V : Hid (Below V.heap.size V V1) := Lib.hid (by rw [hV1]; exact below1 _ _)
  have HOM : Hid (V1.ownsMap Tryz.prog 9 (plainElem (H := Unit) Tryz.prog 3) V.heap.size 0 (DataW.map [])) := Lib.hid (by rw [hV1]; exact World.ownsMap_made _ _ _ _)
  go_enter Tryz.func62, Tryz.ntmps62
  go_upto_region 1 with fail
  rw [← hV]
  clear hV
  go_wp2_with (first
    | (refine wpList_insert_O _ rfl _ _ _ 194 rfl 9 3 (string_keyed Tryz.underlying9) Tryz.underlying194 (plainElem (H := Unit) Tryz.prog 3) V.heap.size 0 _ rfl (by rw [← hV1]; exact HOM.out) (by unfold maxLen; decide) _ _ (.string wIns) rfl rfl (Go.WideMaps.keyOf_string_mk Tryz.underlying9 (by show (6 : Nat) ≤ maxLen; unfold maxLen; decide)) (.lit (.int .i64 1)) [] (plainElem_int Tryz.underlying3 (by decide)) ?_))
  intro m1 hm1 hg1
  rw [← hV1] at hg1
  go_wp2_with (first
    | (refine wpList_insert_O _ rfl _ _ _ 194 rfl 9 3 (string_keyed Tryz.underlying9) Tryz.underlying194 (plainElem (H := Unit) Tryz.prog 3) V.heap.size 1 _ rfl hm1 (by unfold maxLen; decide) _ _ (.string wMod) rfl rfl (Go.WideMaps.keyOf_string_mk Tryz.underlying9 (by show (6 : Nat) ≤ maxLen; unfold maxLen; decide)) (.lit (.int .i64 2)) [] (plainElem_int Tryz.underlying3 (by decide)) ?_))
  intro m2 hm2 hg2
  go_wp2_with (first
    | (refine wpList_insert_O _ rfl _ _ _ 194 rfl 9 3 (string_keyed Tryz.underlying9) Tryz.underlying194 (plainElem (H := Unit) Tryz.prog 3) V.heap.size 2 _ rfl hm2 (by unfold maxLen; decide) _ _ (.string wDel) rfl rfl (Go.WideMaps.keyOf_string_mk Tryz.underlying9 (by show (6 : Nat) ≤ maxLen; unfold maxLen; decide)) (.lit (.int .i64 3)) [] (plainElem_int Tryz.underlying3 (by decide)) ?_))
  intro m3 hm3 hg3
  go_wp2_with (first
    | (refine wpList_insert_O _ rfl _ _ _ 194 rfl 9 3 (string_keyed Tryz.underlying9) Tryz.underlying194 (plainElem (H := Unit) Tryz.prog 3) V.heap.size 3 _ rfl hm3 (by unfold maxLen; decide) _ _ (.string wDef) rfl rfl (Go.WideMaps.keyOf_string_mk Tryz.underlying9 (by show (7 : Nat) ≤ maxLen; unfold maxLen; decide)) (.lit (.int .i64 4)) [] (plainElem_int Tryz.underlying3 (by decide)) ?_))
  intro m4 hm4 hg4
  have HB5 : Hid (Below V.heap.size V m4) := Lib.hid (by
    have q := fun {a b : World} (h : Below V.heap.size V a) (g : a.grownBy b (some V.heap.size)) => h.grown g h.size (fun k hk => by cases hk; exact Nat.le_refl _)
    exact q (q (q (q HB1V.out hg1) hg2) hg3) hg4)
  have HM4 : Hid (m4.ownsMap Tryz.prog 9 (plainElem (H := Unit) Tryz.prog 3) V.heap.size 4 kindsD) := Lib.hid hm4
  clear hm1 hm2 hm3 hm4 hg1 hg2 hg3 hg4 hV1 hmm HOM HB1V
  have HS5 := Lib.hid (HSV.out.below HB5.out)
  have HBb := Lib.hid (HBV.out.below HB5.out HBV.out.lt)
  have HRb := Lib.hid (HRV.out.below HB5.out HRV.out.lt)
  clear HSV HBV HRV HB5 HwV
  obtain ⟨bR, bA, hi1⟩ := HS5.out.okc
  have c9 : m4.cell? ⟨r.gR, 9, none⟩ = some (nextF r) := bR.cell 9
  unfold nextF at c9
  have cB : m4.cell? ⟨w.heap.size, 0, none⟩ = some (pR r) := HBb.out.cell 0
  have HN := Lib.hid (onext_any r.x 0 r.gA r.gL m4 (HE.out.toks.below HS5.out.base (Nat.le_refl _)) bA HS5.out.lb)
  clear bR bA hi1
  generalize nxt r.x.l 0 = t at *
  obtain ⟨tk, tx, tv, tl⟩ := t
  simp only at HOA HTXl HPOS HN
  have hft := tk_text (.int .i64 tk) (.string ⟨tx.toArray⟩) (.int .u32 tv) (.int .i64 tl)
  have HKy := Lib.hid (Go.WideMaps.keyOf_string_mk (P := Tryz.prog) Tryz.underlying9 (s := ⟨tx.toArray⟩) (by show tx.length ≤ maxLen; have := HTXl.out; unfold maxLen; omega))
  go_wp2_with fail
  refine HN.out.mono ?_
  rintro e1 m5 ⟨rfl, hb5⟩
  have HS6 := Lib.hid (HS5.out.below hb5)
  have HB6 := Lib.hid (HBb.out.below hb5 HBb.out.lt)
  have HR6 := Lib.hid (HRb.out.below hb5 HRb.out.lt)
  have HM5 := Lib.hid (HM4.out.kept (only_of_below hb5 none) (by simp))
  clear hb5 HN c9 cB HS5 HBb HRb HM4
  go_wp2_with (first
    | (at_lookup; refine wpList_lookup_own_ok_int _ rfl _ _ 194 rfl 9 3 .i64 (string_keyed Tryz.underlying9) Tryz.underlying194 Tryz.underlying3 (by kernel_rfl) V.heap.size 4 kindsD rfl HM5.out _ (.string tx) rfl HKy.out ?_))
  intro c hat hwc
  obtain rfl : c = (kindW tx : Int) := by
    rw [(kinds_at tx).1] at hat
    injection hat with e
    injection e with _ e
    exact e.symm
  rw [(kinds_at tx).2]
  clear hat hwc HM5 HKy HTXl hft
  have HK5 : (kindW tx = 0 ∧ ((kindW tx : Nat) : Int) = 0 ∧ decide (kindW tx ≠ 0) = false) ∨ (kindW tx ≠ 0 ∧ decide (kindW tx ≠ 0) = true) := by
    by_cases h : kindW tx = 0
    · rw [h]; exact .inl ⟨rfl, rfl, rfl⟩
    · exact .inr ⟨h, decide_eq_true h⟩
  rcases HK5 with ⟨hk, e1, e2⟩ | ⟨hk, e2⟩
  · have HRO := Lib.hid (HOA.out.trans (if_pos hk))
    rw [e1, e2]
    clear e1 e2 hk HOA HPOS
    obtain ⟨bR, _⟩ := HS6.out.okc
    have c11 : m5.cell? ⟨r.gR, 11, none⟩ = some (.int .i64 0) := bR.cell 11
    have f11 : m5.frozen? ⟨r.gR, 11, none⟩ = false := bR.frozen 11
    have cB : m5.cell? ⟨w.heap.size, 0, none⟩ = some (pR r) := HB6.out.cell 0
    clear bR
    go_upto_region 5 with fail
    obtain ⟨X, hX⟩ : ∃ X, X = m5.setCell ⟨r.gR, 11, none⟩ (.int .i64 5) := ⟨_, rfl⟩
    have HS : Hid (OSt W w X r (.bad 5)) := Lib.hid (by rw [hX]; exact HS6.out.err HE.out (x := 5) (by decide))
    have HR : Hid (Blk X (w.heap.size + 1) 39 #[.int .i64 0, .int .i64 0, .int .i64 0, .slice none 0 0, .int .i64 0, .int .i64 0, .slice none 0 0, .int .i64 0, .slice none 0 0]) := Lib.hid (by rw [hX]; exact HR6.out.far HNG2.out.1 _)
    rw [← hX]
    clear hX c11 f11 cB HS6 HB6 HR6
    have q0 : X.cell? ⟨w.heap.size + 1, 0, none⟩ = some (.int .i64 0) := HR.out.cell 0
    have g0 : X.frozen? ⟨w.heap.size + 1, 0, none⟩ = false := HR.out.frozen 0
    have q1 : X.cell? ⟨w.heap.size + 1, 1, none⟩ = some (.int .i64 0) := HR.out.cell 1
    have g1 : X.frozen? ⟨w.heap.size + 1, 1, none⟩ = false := HR.out.frozen 1
    have q2 : X.cell? ⟨w.heap.size + 1, 2, none⟩ = some (.int .i64 0) := HR.out.cell 2
    have g2 : X.frozen? ⟨w.heap.size + 1, 2, none⟩ = false := HR.out.frozen 2
    have q3 : X.cell? ⟨w.heap.size + 1, 3, none⟩ = some (.slice none 0 0) := HR.out.cell 3
    have g3 : X.frozen? ⟨w.heap.size + 1, 3, none⟩ = false := HR.out.frozen 3
    have q4 : X.cell? ⟨w.heap.size + 1, 4, none⟩ = some (.int .i64 0) := HR.out.cell 4
    have g4 : X.frozen? ⟨w.heap.size + 1, 4, none⟩ = false := HR.out.frozen 4
    have q5 : X.cell? ⟨w.heap.size + 1, 5, none⟩ = some (.int .i64 0) := HR.out.cell 5
    have g5 : X.frozen? ⟨w.heap.size + 1, 5, none⟩ = false := HR.out.frozen 5
    have q6 : X.cell? ⟨w.heap.size + 1, 6, none⟩ = some (.slice none 0 0) := HR.out.cell 6
    have g6 : X.frozen? ⟨w.heap.size + 1, 6, none⟩ = false := HR.out.frozen 6
    have q7 : X.cell? ⟨w.heap.size + 1, 7, none⟩ = some (.int .i64 0) := HR.out.cell 7
    have g7 : X.frozen? ⟨w.heap.size + 1, 7, none⟩ = false := HR.out.frozen 7
    have q8 : X.cell? ⟨w.heap.size + 1, 8, none⟩ = some (.slice none 0 0) := HR.out.cell 8
    have g8 : X.frozen? ⟨w.heap.size + 1, 8, none⟩ = false := HR.out.frozen 8
    go_wp2
    refine bodyPost_ret (v := .agg (opCells zeroO)) ?_ rfl ?_
    · exact results_cell_row (fn := Tryz.f62) (p := 2) (ty := 39) rfl _ _ (w.heap.size + 1) 39 (opCells zeroO) (0, 0) _ rfl (put9O HR.out _ _ _ _ _ _ _ _ _) Tryz.underlying39 rfl (by kernel_rfl)
    · exact oper_end (o := zeroO) (s := .bad 5) (B := w.heap.size + 2) (by rw [HRO.out]; rfl) HS.out (zero_lies _ _) (by omega) (by have := HBW.out; omega) HNG2.out _ _ _ _ _ _ _ _ _
  have HIL := Lib.hid (HPOS.out hk)
  have HKN := Lib.hid hk
  rw [e2]
  obtain ⟨KI, hKI⟩ : ∃ K : Int, K = ((kindW tx : Nat) : Int) := ⟨_, rfl⟩
  rw [← hKI]
  have HK := Lib.hid hKI
  clear e2 hk hKI HPOS
  obtain ⟨bR, bA, hi1⟩ := HS6.out.okc
  have c10 : m5.cell? ⟨r.gR, 10, none⟩ = some (stepF r) := bR.cell 10
  unfold stepF at c10
  have cB : m5.cell? ⟨w.heap.size, 0, none⟩ = some (pR r) := HB6.out.cell 0
  have HST := Lib.hid (ostep_any 0 r.gA m5 (by decide) bA)
  have HSX := Lib.hid (HS6.out.step HE.out HIL.out)
  clear bR bA hi1
  go_wp2_with fail
  refine HST.out.mono ?_
  rintro e1 w1 ⟨rfl, hw2⟩
  have HS1 : Hid (OSt W w w1 r (.ok 1)) := Lib.hid (by rw [hw2]; exact HSX.out)
  have HBb1 : Hid (Blk w1 w.heap.size 120 #[pR r]) := Lib.hid (by rw [hw2]; exact HB6.out.far HNB.out.2.1 _)
  have HRb1 : Hid (Blk w1 (w.heap.size + 1) 39 #[.int .i64 0, .int .i64 0, .int .i64 0, .slice none 0 0, .int .i64 0, .int .i64 0, .slice none 0 0, .int .i64 0, .slice none 0 0]) := Lib.hid (by rw [hw2]; exact HR6.out.far HNB.out.2.2.2 _)
  clear hw2 HSX HST c10 cB HS6 HB6 HR6
  go_upto_region 7 with fail
  have HSD := Lib.hid (HS1.out.below (below_drew (Below.refl _ _))).refl
  have HBD : Hid (Blk w1.drew w.heap.size 120 #[pR r]) := Lib.hid HBb1.out
  have HRD : Hid (Blk w1.drew (w.heap.size + 1) 39 #[.int .i64 0, .int .i64 0, .int .i64 0, .slice none 0 0, .int .i64 0, .int .i64 0, .slice none 0 0, .int .i64 0, .slice none 0 0]) := Lib.hid HRb1.out
  have HRS := Lib.hid (fun (u : World) (hu : OSt W u u r (.ok 1)) (hb : Blk u w.heap.size 120 #[pR r]) => show Calls Tryz.prog 130 #[.pointer (some ⟨r.gR, 0, none⟩), .int .i64 r.p.tables.l.length, .func (.func 131) #[] #[.pointer (some ⟨w.heap.size, 0, none⟩)]] u fun e w' => e = .returned (.int .i64 (resA r.x.l (r.p.tables.l.map TabD.name) (.ok 1)).1) ∧ OSt W u w' r (resA r.x.l (r.p.tables.l.map TabD.name) (.ok 1)).2 from by
    have h := oresolveT HE.out hu (r.p.tables.l.map TabD.name) (by rw [List.length_map]; exact HNM.out.2) w.heap.size (op_name r _) hb HNB.out.1 HNB.out.2.1
    rw [List.length_map] at h
    exact h)
  generalize resA r.x.l (r.p.tables.l.map TabD.name) (.ok 1) = q2 at *
  obtain ⟨R1, s2⟩ := q2
  simp only at HOA HRS
  go_cut [6] from 31 to 42 (fun v6 wr => ∃ g : Nat, v6 = .pointer (some ⟨g, 0, none⟩) ∧ w.heap.size + 1 < g ∧ Hid (Blk wr g 39 #[.int .i64 KI, .int .i64 R1, .int .i64 0, .slice none 0 0, .int .i64 0, .int .i64 0, .slice none 0 0, .int .i64 0, .slice none 0 0]) ∧ Hid (Blk wr w.heap.size 120 #[pR r]) ∧ Hid (Blk wr (w.heap.size + 1) 39 #[.int .i64 0, .int .i64 0, .int .i64 0, .slice none 0 0, .int .i64 0, .int .i64 0, .slice none 0 0, .int .i64 0, .slice none 0 0]) ∧ Hid (OSt W w wr r s2) ∧ Hid (g ≠ r.gR ∧ g ≠ r.gA ∧ g ≠ r.gL ∧ w.heap.size + 1 < g))
  case first =>
    refine wp_region_held_drew (S := (fun u => u.cell? ⟨w.heap.size, 0, none⟩ = some (pR r) ∧ u.cell? ⟨r.gR, 5, none⟩ = some (.slice r.p.tables.A r.p.tables.l.length r.p.tables.c))) (by kernel_rfl) (tabSt_of (HS1.out.below (below_drew (Below.refl _ _))) HBD.out) (fun hHeld => ?_)
    refine wpAnyH_take (i := 0) (oi := { dst := some 31, op := Op.move (Operand.tmp 4), type := 3, pos := "optext.go:175", after := #[], guard := none }) (v := ?a1_v0) rfl (by kernel_rfl) (by kernel_rfl) (by kernel_rfl) (fun _ _ _ h => h) (Or.inl ⟨by rfl, ?a1_y0⟩) (by assumption) ?a1_r0
    case a1_y0 => (intro w hSw; (try dsimp only at hSw); go_simp; try (with_reducible rfl))
    try simp only [Act.put, List.setIfInBounds_toArray, List.set_cons_zero, List.set_cons_succ]
    refine wpAnyH_take (i := 1) (oi := { dst := some 32, op := Op.load 120 (Operand.tmp 1), type := 120, pos := "optext.go:175", after := #[], guard := none }) (v := ?a2_v1) rfl (by kernel_rfl) (by kernel_rfl) (by kernel_rfl) (fun _ _ _ h => h) (Or.inl ⟨by rfl, ?a2_y1⟩) (by assumption) ?a2_r1
    case a2_y1 => (intro w hSw; (try dsimp only at hSw); go_simp; try (with_reducible rfl))
    try simp only [Act.put, List.setIfInBounds_toArray, List.set_cons_zero, List.set_cons_succ]
    refine wpAnyH_take (i := 2) (oi := { dst := some 33, op := Op.load 120 (Operand.tmp 1), type := 120, pos := "optext.go:175", after := #[], guard := none }) (v := ?a3_v2) rfl (by kernel_rfl) (by kernel_rfl) (by kernel_rfl) (fun _ _ _ h => h) (Or.inl ⟨by rfl, ?a3_y2⟩) (by assumption) ?a3_r2
    case a3_y2 => (intro w hSw; (try dsimp only at hSw); go_simp; try (with_reducible rfl))
    try simp only [Act.put, List.setIfInBounds_toArray, List.set_cons_zero, List.set_cons_succ]
    refine wpAnyH_take (i := 3) (oi := { dst := some 34, op := Op.nilCheck (Operand.tmp 33), type := 0, pos := "optext.go:175", after := #[{ on := 2, ground := Ground.data }], guard := none }) (v := ?a4_v3) rfl (by kernel_rfl) (by kernel_rfl) (by kernel_rfl) (fun _ _ _ h => h) (Or.inl ⟨by rfl, ?a4_y3⟩) (by assumption) ?a4_r3
    case a4_y3 => (intro w hSw; (try dsimp only at hSw); go_simp; try (with_reducible rfl))
    try simp only [Act.put, List.setIfInBounds_toArray, List.set_cons_zero, List.set_cons_succ]
    refine wpAnyH_take (i := 4) (oi := { dst := some 35, op := Op.fieldAddr 125 (Operand.tmp 34) 0, type := 0, pos := "optext.go:175", after := #[{ on := 3, ground := Ground.data }], guard := none }) (v := ?a5_v4) rfl (by kernel_rfl) (by kernel_rfl) (by kernel_rfl) (fun _ _ _ h => h) (Or.inl ⟨by rfl, ?a5_y4⟩) (by assumption) ?a5_r4
    case a5_y4 => (intro w hSw; (try dsimp only at hSw); go_simp; try (with_reducible rfl))
    try simp only [Act.put, List.setIfInBounds_toArray, List.set_cons_zero, List.set_cons_succ]
    refine wpAnyH_take (i := 5) (oi := { dst := some 36, op := Op.fieldAddr 31 (Operand.tmp 35) 5, type := 0, pos := "optext.go:175", after := #[{ on := 4, ground := Ground.data }], guard := none }) (v := ?a6_v5) rfl (by kernel_rfl) (by kernel_rfl) (by kernel_rfl) (fun _ _ _ h => h) (Or.inl ⟨by rfl, ?a6_y5⟩) (by assumption) ?a6_r5
    case a6_y5 => (intro w hSw; (try dsimp only at hSw); go_simp; try (with_reducible rfl))
    try simp only [Act.put, List.setIfInBounds_toArray, List.set_cons_zero, List.set_cons_succ]
    refine wpAnyH_take (i := 6) (oi := { dst := some 37, op := Op.load 26 (Operand.tmp 36), type := 26, pos := "optext.go:175", after := #[{ on := 5, ground := Ground.data }], guard := none }) (v := ?a7_v6) rfl (by kernel_rfl) (by kernel_rfl) (by kernel_rfl) (fun _ _ _ h => h) (Or.inl ⟨by rfl, ?a7_y6⟩) (by assumption) ?a7_r6
    case a7_y6 => (intro w hSw; (try dsimp only at hSw); go_simp; try (with_reducible rfl))
    try simp only [Act.put, List.setIfInBounds_toArray, List.set_cons_zero, List.set_cons_succ]
    refine wpAnyH_take (i := 7) (oi := { dst := some 38, op := Op.call { callee := Callee.builtin Builtin.len, args := #[Operand.tmp 37], argTypes := #[26] }, type := 3, pos := "optext.go:175", after := #[{ on := 6, ground := Ground.data }], guard := none }) (v := ?a8_v7) rfl (by kernel_rfl) (by kernel_rfl) (by kernel_rfl) (fun _ _ _ h => h) (Or.inl ⟨by rfl, ?a8_y7⟩) (by assumption) ?a8_r7
    case a8_y7 => (intro w hSw; (try dsimp only at hSw); go_simp; try (with_reducible rfl))
    try simp only [Act.put, List.setIfInBounds_toArray, List.set_cons_zero, List.set_cons_succ]
    refine wpAnyH_take (i := 8) (oi := { dst := some 39, op := Op.makeFunc (Fn.func 131) #[] #[Operand.tmp 1], type := 73, pos := "optext.go:175", after := #[], guard := none }) (v := ?a9_v8) rfl (by kernel_rfl) (by kernel_rfl) (by kernel_rfl) (fun _ _ _ h => h) (Or.inl ⟨by rfl, ?a9_y8⟩) (by assumption) ?a9_r8
    case a9_y8 => (intro w hSw; (try dsimp only at hSw); go_simp; try (with_reducible rfl))
    try simp only [Act.put, List.setIfInBounds_toArray, List.set_cons_zero, List.set_cons_succ]
    refine wpAnyH_ready (rs := [9, 11]) (by kernel_rfl) (by simp) ?_
    refine AllReadyH.cons (o := { dst := some 40, op := Op.call { callee := Callee.value (Operand.func 130), args := #[Operand.tmp 32, Operand.tmp 38, Operand.tmp 39], argTypes := #[120, 3, 73] }, type := 3, pos := "optext.go:175", after := #[{ on := 1, ground := Ground.data }, { on := 7, ground := Ground.data }, { on := 8, ground := Ground.data }], guard := none }) rfl (fun K hK => ?_) (AllReadyH.cons (o := { dst := some 6, op := Op.alloc 39, type := 0, pos := "optext.go:175", after := #[], guard := none }) rfl (fun K hK => ?_) (AllReadyH.nil))
    · skip
      go_simp
      go_at_call 130
      refine (HRS.out _ HSD.out HBD.out).mono ?_
      rintro e u2 ⟨rfl, h2⟩
      have HS2 := Lib.hid ((HS1.out.below (below_drew (Below.refl _ _))).then h2)
      have HB2 := Lib.hid (h2.gr.blk HBD.out HNB.out.1 HNB.out.2.1)
      have HR2 := Lib.hid (h2.gr.blk HRD.out HNB.out.2.2.1 HNB.out.2.2.2)
      clear h2
      have hNEW : TabSt w.heap.size r u2 := tabSt_of HS2.out HB2.out
      refine hK.out _ _ hNEW (fun hHeld5 => ?_)
      clear hK K hNEW
      refine wpAnyH_take (i := 10) (oi := { dst := some 41, op := Op.build 39 #[(0, Operand.tmp 31), (1, Operand.tmp 40)], type := 39, pos := "optext.go:175", after := #[{ on := 0, ground := Ground.data }, { on := 9, ground := Ground.data }], guard := none }) (v := ?a10_v10) rfl (by kernel_rfl) (by kernel_rfl) (by kernel_rfl) (fun _ _ _ h => h) (Or.inl ⟨by rfl, ?a10_y10⟩) (by assumption) ?a10_r10
      case a10_y10 => (intro w hSw; (try dsimp only at hSw); go_simp; try (with_reducible rfl))
      try simp only [Act.put, List.setIfInBounds_toArray, List.set_cons_zero, List.set_cons_succ]
      refine wpAnyH_ready (rs := [11]) (by kernel_rfl) (by simp) ?_
      refine AllReadyH.cons (o := { dst := some 6, op := Op.alloc 39, type := 0, pos := "optext.go:175", after := #[], guard := none }) rfl (fun K hK => ?_) (AllReadyH.nil)
      go_simp
      obtain ⟨U1, hU1⟩ : ∃ U1, U1 = (u2.alloc (.cells #[.int .i64 0, .int .i64 0, .int .i64 0, .slice none 0 0, .int .i64 0, .int .i64 0, .slice none 0 0, .int .i64 0, .slice none 0 0] 39)) := ⟨_, rfl⟩
      have HBL : Hid (Below u2.heap.size u2 U1) := Lib.hid (by rw [hU1]; exact below1 _ _)
      have HSU := Lib.hid (HS2.out.below HBL.out)
      have HBU := Lib.hid (HB2.out.below HBL.out HB2.out.lt)
      have HRU := Lib.hid (HR2.out.below HBL.out HR2.out.lt)
      have HCU : Hid (Blk U1 u2.heap.size 39 #[.int .i64 0, .int .i64 0, .int .i64 0, .slice none 0 0, .int .i64 0, .int .i64 0, .slice none 0 0, .int .i64 0, .slice none 0 0]) := Lib.hid (by rw [hU1]; exact show Blk (u2.alloc _) _ _ _ from Blk.new u2 _ _)
      have HNG : Hid (u2.heap.size ≠ r.gR ∧ u2.heap.size ≠ r.gA ∧ u2.heap.size ≠ r.gL ∧ w.heap.size + 1 < u2.heap.size) := Lib.hid (by have h1 := HS2.out.lt; have h2 := HR2.out.lt; omega)
      have hNEW : TabSt w.heap.size r (u2.alloc (.cells #[.int .i64 0, .int .i64 0, .int .i64 0, .slice none 0 0, .int .i64 0, .int .i64 0, .slice none 0 0, .int .i64 0, .slice none 0 0] 39)) := by rw [← hU1]; exact tabSt_of HSU.out HBU.out
      refine hK.out _ _ hNEW (fun hHeld6 => ?_)
      clear hK K hNEW
      rw [← hU1]
      clear hU1
      refine wpAnyH_ready (rs := [12]) (by kernel_rfl) (by simp) ?_
      refine AllReadyH.cons (o := { dst := none, op := Op.store 39 (Operand.tmp 6) (Operand.tmp 41), type := 0, pos := "optext.go:175", after := #[{ on := 11, ground := Ground.data }, { on := 10, ground := Ground.data }, { on := 9, ground := Ground.chain }, { on := 0, ground := Ground.phase }, { on := 1, ground := Ground.phase }, { on := 2, ground := Ground.phase }, { on := 3, ground := Ground.phase }, { on := 4, ground := Ground.phase }, { on := 5, ground := Ground.phase }, { on := 6, ground := Ground.phase }, { on := 7, ground := Ground.phase }, { on := 8, ground := Ground.phase }, { on := 9, ground := Ground.phase }, { on := 10, ground := Ground.phase }, { on := 11, ground := Ground.phase }], guard := none }) rfl (fun K hK => ?_) (AllReadyH.nil)
      have r0 : U1.cell? ⟨u2.heap.size, 0, none⟩ = some (.int .i64 0) := HCU.out.cell 0
      have f0 : U1.frozen? ⟨u2.heap.size, 0, none⟩ = false := HCU.out.frozen 0
      have r1 : U1.cell? ⟨u2.heap.size, 1, none⟩ = some (.int .i64 0) := HCU.out.cell 1
      have f1 : U1.frozen? ⟨u2.heap.size, 1, none⟩ = false := HCU.out.frozen 1
      have r2 : U1.cell? ⟨u2.heap.size, 2, none⟩ = some (.int .i64 0) := HCU.out.cell 2
      have f2 : U1.frozen? ⟨u2.heap.size, 2, none⟩ = false := HCU.out.frozen 2
      have r3 : U1.cell? ⟨u2.heap.size, 3, none⟩ = some (.slice none 0 0) := HCU.out.cell 3
      have f3 : U1.frozen? ⟨u2.heap.size, 3, none⟩ = false := HCU.out.frozen 3
      have r4 : U1.cell? ⟨u2.heap.size, 4, none⟩ = some (.int .i64 0) := HCU.out.cell 4
      have f4 : U1.frozen? ⟨u2.heap.size, 4, none⟩ = false := HCU.out.frozen 4
      have r5 : U1.cell? ⟨u2.heap.size, 5, none⟩ = some (.int .i64 0) := HCU.out.cell 5
      have f5 : U1.frozen? ⟨u2.heap.size, 5, none⟩ = false := HCU.out.frozen 5
      have r6 : U1.cell? ⟨u2.heap.size, 6, none⟩ = some (.slice none 0 0) := HCU.out.cell 6
      have f6 : U1.frozen? ⟨u2.heap.size, 6, none⟩ = false := HCU.out.frozen 6
      have r7 : U1.cell? ⟨u2.heap.size, 7, none⟩ = some (.int .i64 0) := HCU.out.cell 7
      have f7 : U1.frozen? ⟨u2.heap.size, 7, none⟩ = false := HCU.out.frozen 7
      have r8 : U1.cell? ⟨u2.heap.size, 8, none⟩ = some (.slice none 0 0) := HCU.out.cell 8
      have f8 : U1.frozen? ⟨u2.heap.size, 8, none⟩ = false := HCU.out.frozen 8
      go_simp
      obtain ⟨U3, hU3⟩ : ∃ U3, U3 = (((((((((U1.setCell ⟨u2.heap.size, 0, none⟩ (.int .i64 KI)).setCell ⟨u2.heap.size, 1, none⟩ (.int .i64 R1)).setCell ⟨u2.heap.size, 2, none⟩ (.int .i64 0)).setCell ⟨u2.heap.size, 3, none⟩ (.slice none 0 0)).setCell ⟨u2.heap.size, 4, none⟩ (.int .i64 0)).setCell ⟨u2.heap.size, 5, none⟩ (.int .i64 0)).setCell ⟨u2.heap.size, 6, none⟩ (.slice none 0 0)).setCell ⟨u2.heap.size, 7, none⟩ (.int .i64 0)).setCell ⟨u2.heap.size, 8, none⟩ (.slice none 0 0)) := ⟨_, rfl⟩
      have HC3 : Hid (Blk U3 (u2.heap.size) 39 #[.int .i64 KI, .int .i64 R1, .int .i64 0, .slice none 0 0, .int .i64 0, .int .i64 0, .slice none 0 0, .int .i64 0, .slice none 0 0]) := Lib.hid (by rw [hU3]; exact put9O HCU.out _ _ _ _ _ _ _ _ _)
      have HFr : Hid (w.heap.size ≠ u2.heap.size ∧ w.heap.size + 1 ≠ u2.heap.size) := Lib.hid (by have := HNG.out; omega)
      have HB3 : Hid (Blk U3 w.heap.size 120 #[pR r]) := Lib.hid (by rw [hU3]; exact far9 HBU.out HFr.out.1 _ _ _ _ _ _ _ _ _)
      have HR3 : Hid (Blk U3 (w.heap.size + 1) 39 #[.int .i64 0, .int .i64 0, .int .i64 0, .slice none 0 0, .int .i64 0, .int .i64 0, .slice none 0 0, .int .i64 0, .slice none 0 0]) := Lib.hid (by rw [hU3]; exact far9 HRU.out HFr.out.2 _ _ _ _ _ _ _ _ _)
      have HS3 : Hid (OSt W w U3 r s2) := Lib.hid (by rw [hU3]; have h := HNG.out; have h2 := HBW.out; exact set9 HSU.out (by omega) (by omega) ⟨h.1, h.2.1, h.2.2.1⟩ _ _ _ _ _ _ _ _ _)
      have hNEW : TabSt w.heap.size r (((((((((U1.setCell ⟨u2.heap.size, 0, none⟩ (.int .i64 KI)).setCell ⟨u2.heap.size, 1, none⟩ (.int .i64 R1)).setCell ⟨u2.heap.size, 2, none⟩ (.int .i64 0)).setCell ⟨u2.heap.size, 3, none⟩ (.slice none 0 0)).setCell ⟨u2.heap.size, 4, none⟩ (.int .i64 0)).setCell ⟨u2.heap.size, 5, none⟩ (.int .i64 0)).setCell ⟨u2.heap.size, 6, none⟩ (.slice none 0 0)).setCell ⟨u2.heap.size, 7, none⟩ (.int .i64 0)).setCell ⟨u2.heap.size, 8, none⟩ (.slice none 0 0)) := by rw [← hU3]; exact tabSt_of HS3.out HB3.out
      refine hK.out _ _ hNEW (fun hHeld7 => ?_)
      clear hK K hNEW
      rw [← hU3]
      clear hU3 r0 f0 r1 f1 r2 f2 r3 f3 r4 f4 r5 f5 r6 f6 r7 f7 r8 f8
      refine wpAnyH_done (by kernel_rfl) ?_ _
      go_wp2
      go_meet
      case rel => exact ⟨_, rfl, HNG.out.2.2.2, HC3, HB3, HR3, HS3, HNG⟩
    · skip
      go_simp
      obtain ⟨U1, hU1⟩ : ∃ U1, U1 = ((w1.alloc (.cells #[.int .i64 0, .int .i64 0, .int .i64 0, .slice none 0 0, .int .i64 0, .int .i64 0, .slice none 0 0, .int .i64 0, .slice none 0 0] 39)).drew) := ⟨_, rfl⟩
      have HBL : Hid (Below w1.heap.size w1 U1) := Lib.hid (by rw [hU1]; exact below_drew (below1 _ _))
      have HSU := Lib.hid (HS1.out.below HBL.out)
      have HBU := Lib.hid (HBb1.out.below HBL.out HBb1.out.lt)
      have HRU := Lib.hid (HRb1.out.below HBL.out HRb1.out.lt)
      have HCU : Hid (Blk U1 w1.heap.size 39 #[.int .i64 0, .int .i64 0, .int .i64 0, .slice none 0 0, .int .i64 0, .int .i64 0, .slice none 0 0, .int .i64 0, .slice none 0 0]) := Lib.hid (by rw [hU1]; exact show Blk (w1.alloc _) _ _ _ from Blk.new w1 _ _)
      have HNG : Hid (w1.heap.size ≠ r.gR ∧ w1.heap.size ≠ r.gA ∧ w1.heap.size ≠ r.gL ∧ w.heap.size + 1 < w1.heap.size) := Lib.hid (by have h1 := HS1.out.lt; have h2 := HRb1.out.lt; omega)
      have hNEW : TabSt w.heap.size r ((w1.alloc (.cells #[.int .i64 0, .int .i64 0, .int .i64 0, .slice none 0 0, .int .i64 0, .int .i64 0, .slice none 0 0, .int .i64 0, .slice none 0 0] 39)).drew) := by rw [← hU1]; exact tabSt_of HSU.out HBU.out
      refine hK.out _ _ hNEW (fun hHeld6 => ?_)
      clear hK K hNEW
      rw [← hU1]
      clear hU1
      refine wpAnyH_ready (rs := [9]) (by kernel_rfl) (by simp) ?_
      refine AllReadyH.cons (o := { dst := some 40, op := Op.call { callee := Callee.value (Operand.func 130), args := #[Operand.tmp 32, Operand.tmp 38, Operand.tmp 39], argTypes := #[120, 3, 73] }, type := 3, pos := "optext.go:175", after := #[{ on := 1, ground := Ground.data }, { on := 7, ground := Ground.data }, { on := 8, ground := Ground.data }], guard := none }) rfl (fun K hK => ?_) (AllReadyH.nil)
      go_simp
      go_at_call 130
      refine (HRS.out _ HSU.out.refl HBU.out).mono ?_
      rintro e u2 ⟨rfl, h2⟩
      have HS2 := Lib.hid (HSU.out.then h2)
      have HB2 := Lib.hid (h2.gr.blk HBU.out HNB.out.1 HNB.out.2.1)
      have HR2 := Lib.hid (h2.gr.blk HRU.out HNB.out.2.2.1 HNB.out.2.2.2)
      have HC2 := Lib.hid (h2.gr.blk HCU.out HNG.out.1 HNG.out.2.1)
      clear h2
      have hNEW : TabSt w.heap.size r u2 := tabSt_of HS2.out HB2.out
      refine hK.out _ _ hNEW (fun hHeld5 => ?_)
      clear hK K hNEW
      refine wpAnyH_take (i := 10) (oi := { dst := some 41, op := Op.build 39 #[(0, Operand.tmp 31), (1, Operand.tmp 40)], type := 39, pos := "optext.go:175", after := #[{ on := 0, ground := Ground.data }, { on := 9, ground := Ground.data }], guard := none }) (v := ?a11_v10) rfl (by kernel_rfl) (by kernel_rfl) (by kernel_rfl) (fun _ _ _ h => h) (Or.inl ⟨by rfl, ?a11_y10⟩) (by assumption) ?a11_r10
      case a11_y10 => (intro w hSw; (try dsimp only at hSw); go_simp; try (with_reducible rfl))
      try simp only [Act.put, List.setIfInBounds_toArray, List.set_cons_zero, List.set_cons_succ]
      refine wpAnyH_ready (rs := [12]) (by kernel_rfl) (by simp) ?_
      refine AllReadyH.cons (o := { dst := none, op := Op.store 39 (Operand.tmp 6) (Operand.tmp 41), type := 0, pos := "optext.go:175", after := #[{ on := 11, ground := Ground.data }, { on := 10, ground := Ground.data }, { on := 9, ground := Ground.chain }, { on := 0, ground := Ground.phase }, { on := 1, ground := Ground.phase }, { on := 2, ground := Ground.phase }, { on := 3, ground := Ground.phase }, { on := 4, ground := Ground.phase }, { on := 5, ground := Ground.phase }, { on := 6, ground := Ground.phase }, { on := 7, ground := Ground.phase }, { on := 8, ground := Ground.phase }, { on := 9, ground := Ground.phase }, { on := 10, ground := Ground.phase }, { on := 11, ground := Ground.phase }], guard := none }) rfl (fun K hK => ?_) (AllReadyH.nil)
      have r0 : u2.cell? ⟨w1.heap.size, 0, none⟩ = some (.int .i64 0) := HC2.out.cell 0
      have f0 : u2.frozen? ⟨w1.heap.size, 0, none⟩ = false := HC2.out.frozen 0
      have r1 : u2.cell? ⟨w1.heap.size, 1, none⟩ = some (.int .i64 0) := HC2.out.cell 1
      have f1 : u2.frozen? ⟨w1.heap.size, 1, none⟩ = false := HC2.out.frozen 1
      have r2 : u2.cell? ⟨w1.heap.size, 2, none⟩ = some (.int .i64 0) := HC2.out.cell 2
      have f2 : u2.frozen? ⟨w1.heap.size, 2, none⟩ = false := HC2.out.frozen 2
      have r3 : u2.cell? ⟨w1.heap.size, 3, none⟩ = some (.slice none 0 0) := HC2.out.cell 3
      have f3 : u2.frozen? ⟨w1.heap.size, 3, none⟩ = false := HC2.out.frozen 3
      have r4 : u2.cell? ⟨w1.heap.size, 4, none⟩ = some (.int .i64 0) := HC2.out.cell 4
      have f4 : u2.frozen? ⟨w1.heap.size, 4, none⟩ = false := HC2.out.frozen 4
      have r5 : u2.cell? ⟨w1.heap.size, 5, none⟩ = some (.int .i64 0) := HC2.out.cell 5
      have f5 : u2.frozen? ⟨w1.heap.size, 5, none⟩ = false := HC2.out.frozen 5
      have r6 : u2.cell? ⟨w1.heap.size, 6, none⟩ = some (.slice none 0 0) := HC2.out.cell 6
      have f6 : u2.frozen? ⟨w1.heap.size, 6, none⟩ = false := HC2.out.frozen 6
      have r7 : u2.cell? ⟨w1.heap.size, 7, none⟩ = some (.int .i64 0) := HC2.out.cell 7
      have f7 : u2.frozen? ⟨w1.heap.size, 7, none⟩ = false := HC2.out.frozen 7
      have r8 : u2.cell? ⟨w1.heap.size, 8, none⟩ = some (.slice none 0 0) := HC2.out.cell 8
      have f8 : u2.frozen? ⟨w1.heap.size, 8, none⟩ = false := HC2.out.frozen 8
      go_simp
      obtain ⟨U3, hU3⟩ : ∃ U3, U3 = (((((((((u2.setCell ⟨w1.heap.size, 0, none⟩ (.int .i64 KI)).setCell ⟨w1.heap.size, 1, none⟩ (.int .i64 R1)).setCell ⟨w1.heap.size, 2, none⟩ (.int .i64 0)).setCell ⟨w1.heap.size, 3, none⟩ (.slice none 0 0)).setCell ⟨w1.heap.size, 4, none⟩ (.int .i64 0)).setCell ⟨w1.heap.size, 5, none⟩ (.int .i64 0)).setCell ⟨w1.heap.size, 6, none⟩ (.slice none 0 0)).setCell ⟨w1.heap.size, 7, none⟩ (.int .i64 0)).setCell ⟨w1.heap.size, 8, none⟩ (.slice none 0 0)) := ⟨_, rfl⟩
      have HC3 : Hid (Blk U3 (w1.heap.size) 39 #[.int .i64 KI, .int .i64 R1, .int .i64 0, .slice none 0 0, .int .i64 0, .int .i64 0, .slice none 0 0, .int .i64 0, .slice none 0 0]) := Lib.hid (by rw [hU3]; exact put9O HC2.out _ _ _ _ _ _ _ _ _)
      have HFr : Hid (w.heap.size ≠ w1.heap.size ∧ w.heap.size + 1 ≠ w1.heap.size) := Lib.hid (by have := HNG.out; omega)
      have HB3 : Hid (Blk U3 w.heap.size 120 #[pR r]) := Lib.hid (by rw [hU3]; exact far9 HB2.out HFr.out.1 _ _ _ _ _ _ _ _ _)
      have HR3 : Hid (Blk U3 (w.heap.size + 1) 39 #[.int .i64 0, .int .i64 0, .int .i64 0, .slice none 0 0, .int .i64 0, .int .i64 0, .slice none 0 0, .int .i64 0, .slice none 0 0]) := Lib.hid (by rw [hU3]; exact far9 HR2.out HFr.out.2 _ _ _ _ _ _ _ _ _)
      have HS3 : Hid (OSt W w U3 r s2) := Lib.hid (by rw [hU3]; have h := HNG.out; have h2 := HBW.out; exact set9 HS2.out (by omega) (by omega) ⟨h.1, h.2.1, h.2.2.1⟩ _ _ _ _ _ _ _ _ _)
      have hNEW : TabSt w.heap.size r (((((((((u2.setCell ⟨w1.heap.size, 0, none⟩ (.int .i64 KI)).setCell ⟨w1.heap.size, 1, none⟩ (.int .i64 R1)).setCell ⟨w1.heap.size, 2, none⟩ (.int .i64 0)).setCell ⟨w1.heap.size, 3, none⟩ (.slice none 0 0)).setCell ⟨w1.heap.size, 4, none⟩ (.int .i64 0)).setCell ⟨w1.heap.size, 5, none⟩ (.int .i64 0)).setCell ⟨w1.heap.size, 6, none⟩ (.slice none 0 0)).setCell ⟨w1.heap.size, 7, none⟩ (.int .i64 0)).setCell ⟨w1.heap.size, 8, none⟩ (.slice none 0 0)) := by rw [← hU3]; exact tabSt_of HS3.out HB3.out
      refine hK.out _ _ hNEW (fun hHeld7 => ?_)
      clear hK K hNEW
      rw [← hU3]
      clear hU3 r0 f0 r1 f1 r2 f2 r3 f3 r4 f4 r5 f5 r6 f6 r7 f7 r8 f8
      refine wpAnyH_done (by kernel_rfl) ?_ _
      go_wp2
      go_meet
      case rel => exact ⟨_, rfl, HNG.out.2.2.2, HC3, HB3, HR3, HS3, HNG⟩
  case rest =>
  obtain ⟨g, rfl, hg, HC, HB, HR, HS, HNG⟩ := hcut
  clear HS1 HBb1 HRb1 HSD HBD HRD HRS
  have HGL : Hid (g < wc.heap.size) := Lib.hid HC.out.lt
  go_upto_block 0 with fail
  go_cut [] from 43 to 80 (fun wr => ∃ (o : OpD) (s : PS), Hid (RO = (o.bare, s)) ∧ Hid (Blk wr g 39 (opCells o)) ∧ Hid (OpLies wr o (g + 1)) ∧ Hid (Blk wr w.heap.size 120 #[pR r]) ∧ Hid (Blk wr (w.heap.size + 1) 39 #[.int .i64 0, .int .i64 0, .int .i64 0, .slice none 0 0, .int .i64 0, .int .i64 0, .slice none 0 0, .int .i64 0, .slice none 0 0]) ∧ Hid (OSt W w wr r s))
  case first =>
    have HK4 : (kindW tx = 1 ∧ KI = 1) ∨ (kindW tx = 2 ∧ KI = 2) ∨ (kindW tx = 3 ∧ KI = 3) ∨ (kindW tx = 4 ∧ KI = 4) := by
      have h1 := HK.out
      have h2 := HKN.out
      rcases kindW_five tx with h | h | h | h | h
      · exact absurd h h2
      · exact .inl ⟨h, by rw [h1, h]; rfl⟩
      · exact .inr (.inl ⟨h, by rw [h1, h]; rfl⟩)
      · exact .inr (.inr (.inl ⟨h, by rw [h1, h]; rfl⟩))
      · exact .inr (.inr (.inr ⟨h, by rw [h1, h]; rfl⟩))
    rcases HK4 with ⟨hk, rfl⟩ | ⟨hk, rfl⟩ | ⟨hk, rfl⟩ | ⟨hk, rfl⟩
    · have HRO := Lib.hid (HOA.out.trans ((if_neg (by rw [hk]; decide)).trans (if_pos hk)))
      clear hk HOA
      have HGB : Hid (r.gR < wc.heap.size ∧ r.gA < wc.heap.size) := Lib.hid (by have := HS.out.lt; omega)
      have cB := HB.out.cell 0
      go_wp2_with fail
      refine (okeys HE.out HS.out.refl).mono ?_
      rintro e x1 ⟨A1, c1, rfl, ho1, h1⟩
      replace HS := Lib.hid (HS.out.then h1)
      replace HC := Lib.hid (h1.gr.blk HC.out HNG.out.1 HNG.out.2.1)
      replace HB := Lib.hid (h1.gr.blk HB.out HNB.out.1 HNB.out.2.1)
      replace HR := Lib.hid (h1.gr.blk HR.out HNB.out.2.2.1 HNB.out.2.2.2)
      have HO := Lib.hid ho1
      clear h1 ho1 cB
      generalize keysA r.x.l (r.x.l.length + 2) [] s2 = q at *
      obtain ⟨ks, s3⟩ := q
      simp only at HS HRO HO ⊢
      have rj : x1.cell? ⟨g, 3, none⟩ = some (.slice none 0 0) := HC.out.cell 3
      have fj : x1.frozen? ⟨g, 3, none⟩ = false := HC.out.frozen 3
      go_upto_region 11 with fail
      obtain ⟨Zx1, hZx1⟩ : ∃ Z, Z = x1.setCell ⟨g, 3, none⟩ (.slice A1 ks.length c1) := ⟨_, rfl⟩
      rw [← hZx1]
      replace HC := Lib.hid (HC.out.set_ 3 (.slice A1 ks.length c1))
      replace HB := Lib.hid (HB.out.far (p := ⟨g, 3, none⟩) (by have := HNG.out; simp; omega) (.slice A1 ks.length c1))
      replace HR := Lib.hid (HR.out.far (p := ⟨g, 3, none⟩) (by have := HNG.out; simp; omega) (.slice A1 ks.length c1))
      replace HS := Lib.hid (HS.out.set (k := g) (by have := HNG.out; omega) (by have := HNG.out; have := HBW.out; omega) HNG.out.1 HNG.out.2.1 HNG.out.2.2.1 3 (.slice A1 ks.length c1))
      replace HO := Lib.hid (own_setO HO.out (p := ⟨g, 3, none⟩) (fun e => by have t1 : wc.heap.size ≤ g := (own_ltO HO.out _ e).1; have := HGL.out; omega) (.slice A1 ks.length c1))
      rw [← hZx1] at HC HB HR HS HO
      clear hZx1 rj fj
      have cB := HB.out.cell 0
      have HT4 := Lib.hid (otake HE.out HS.out.refl (s := s3) 1 (by decide) ⟨#[112, 114, 105, 111, 114, 105, 116, 121]⟩)
      rw [show (⟨#[112, 114, 105, 111, 114, 105, 116, 121]⟩ : ByteArray).data.toList = wPrio from rfl] at HT4
      have HSA : Hid ((takeA r.x.l 1 wPrio s3).2 = stepA r.x.l 1 wPrio s3) := Lib.hid rfl
      go_wp2_with fail
      refine HT4.out.mono ?_
      rintro e x2 ⟨rfl, h2⟩
      replace HS := Lib.hid (HS.out.then h2)
      replace HC := Lib.hid (h2.gr.blk HC.out HNG.out.1 HNG.out.2.1)
      replace HB := Lib.hid (h2.gr.blk HB.out HNB.out.1 HNB.out.2.1)
      replace HR := Lib.hid (h2.gr.blk HR.out HNB.out.2.2.1 HNB.out.2.2.2)
      replace HO := Lib.hid (ownsRow_gro HO.out h2.gr HGB.out.1 HGB.out.2)
      clear h2 cB HT4
      rw [HSA.out] at HS
      generalize stepA r.x.l 1 wPrio s3 = s4 at *
      clear HSA
      have cB := HB.out.cell 0
      have hle := num_le HE.out.ok s4
      go_wp2_with fail
      refine (onumber HE.out HS.out.refl).mono ?_
      rintro e x3 ⟨rfl, hx3⟩
      replace HS := Lib.hid (HS.out.then hx3)
      replace HC := Lib.hid (hx3.gr.blk HC.out HNG.out.1 HNG.out.2.1)
      replace HB := Lib.hid (hx3.gr.blk HB.out HNB.out.1 HNB.out.2.1)
      replace HR := Lib.hid (hx3.gr.blk HR.out HNB.out.2.2.1 HNB.out.2.2.2)
      replace HO := Lib.hid (ownsRow_gro HO.out hx3.gr HGB.out.1 HGB.out.2)
      clear hx3 cB
      generalize numA r.x.l s4 = q at *
      obtain ⟨v1, s5⟩ := q
      simp only at HS HRO hle ⊢
      have hwv : IntKind.i64.wrap ((v1 : Nat) : Int) = v1 := IntWalk.i64_in _ (by omega)
      have rj : x3.cell? ⟨g, 4, none⟩ = some (.int .i64 0) := HC.out.cell 4
      have fj : x3.frozen? ⟨g, 4, none⟩ = false := HC.out.frozen 4
      go_upto_region 13 with fail
      obtain ⟨Zx3, hZx3⟩ : ∃ Z, Z = x3.setCell ⟨g, 4, none⟩ (.int .i64 v1) := ⟨_, rfl⟩
      rw [← hZx3]
      replace HC := Lib.hid (HC.out.set_ 4 (.int .i64 v1))
      replace HB := Lib.hid (HB.out.far (p := ⟨g, 4, none⟩) (by have := HNG.out; simp; omega) (.int .i64 v1))
      replace HR := Lib.hid (HR.out.far (p := ⟨g, 4, none⟩) (by have := HNG.out; simp; omega) (.int .i64 v1))
      replace HS := Lib.hid (HS.out.set (k := g) (by have := HNG.out; omega) (by have := HNG.out; have := HBW.out; omega) HNG.out.1 HNG.out.2.1 HNG.out.2.2.1 4 (.int .i64 v1))
      replace HO := Lib.hid (own_setO HO.out (p := ⟨g, 4, none⟩) (fun e => by have t1 : wc.heap.size ≤ g := (own_ltO HO.out _ e).1; have := HGL.out; omega) (.int .i64 v1))
      rw [← hZx3] at HC HB HR HS HO
      clear hZx3 rj fj
      have cB := HB.out.cell 0
      have HZ0 := Lib.hid HC.out.lt
      go_wp2_with fail
      refine (orcall HE.out HS.out.refl HNM.out.1).mono ?_
      rintro e x4 ⟨A5, c5, rfl, hl5, ha5, hx4⟩
      replace HS := Lib.hid (HS.out.then hx4)
      replace HC := Lib.hid (hx4.gr.blk HC.out HNG.out.1 HNG.out.2.1)
      replace HB := Lib.hid (hx4.gr.blk HB.out HNB.out.1 HNB.out.2.1)
      replace HR := Lib.hid (hx4.gr.blk HR.out HNB.out.2.2.1 HNB.out.2.2.2)
      replace HO := Lib.hid (ownsRow_gro HO.out hx4.gr HGB.out.1 HGB.out.2)
      have HA5 : Hid (Abv (g + 1) A5) := Lib.hid (fun ad e => by have := ha5 ad e; have := HZ0.out; omega)
      have HL5 := Lib.hid hl5
      clear hx4 cB hl5 ha5 HZ0
      generalize callA r.p r.x.l s5 = q at *
      obtain ⟨⟨R5, L5⟩, s9⟩ := q
      simp only at HS HRO HL5 ⊢
      have rj : x4.cell? ⟨g, 5, none⟩ = some (.int .i64 0) := HC.out.cell 5
      have fj : x4.frozen? ⟨g, 5, none⟩ = false := HC.out.frozen 5
      have rk : x4.cell? ⟨g, 6, none⟩ = some (.slice none 0 0) := HC.out.cell 6
      have fk : x4.frozen? ⟨g, 6, none⟩ = false := HC.out.frozen 6
      have HC9 : Hid (Blk (((x4.setCell ⟨g, 5, none⟩ (.int .i64 R5)).setCell ⟨g, 6, none⟩ (.slice A5 L5.length c5))) g 39 (opCells ⟨1, R1, 0, ⟨ks, A1, c1⟩, v1, R5, ⟨L5, A5, c5⟩, 0, ⟨[], none, 0⟩⟩)) := Lib.hid ((HC.out.set_ 5 (.int .i64 R5)).set_ 6 (.slice A5 L5.length c5))
      have HB9 := Lib.hid ((HB.out.far (p := ⟨g, 5, none⟩) (by have := HNG.out; simp; omega) (.int .i64 R5)).far (p := ⟨g, 6, none⟩) (by have := HNG.out; simp; omega) (.slice A5 L5.length c5))
      have HR9 := Lib.hid ((HR.out.far (p := ⟨g, 5, none⟩) (by have := HNG.out; simp; omega) (.int .i64 R5)).far (p := ⟨g, 6, none⟩) (by have := HNG.out; simp; omega) (.slice A5 L5.length c5))
      have HS9 := Lib.hid ((HS.out.set (k := g) (by have := HNG.out; omega) (by have := HNG.out; have := HBW.out; omega) HNG.out.1 HNG.out.2.1 HNG.out.2.2.1 5 (.int .i64 R5)).set (k := g) (by have := HNG.out; omega) (by have := HNG.out; have := HBW.out; omega) HNG.out.1 HNG.out.2.1 HNG.out.2.2.1 6 (.slice A5 L5.length c5))
      have HL9 := Lib.hid ((HL5.out.farO (b := g) (j := 5) (v := .int .i64 R5) (fun ad e => by have := HA5.out ad e; omega)).farO (b := g) (j := 6) (v := .slice A5 L5.length c5) (fun ad e => by have := HA5.out ad e; omega))
      have HK9 := Lib.hid (keys_lok (own_setO (own_setO HO.out (p := ⟨g, 5, none⟩) (fun e => by have t1 : wc.heap.size ≤ g := (own_ltO HO.out _ e).1; have := HGL.out; omega) (.int .i64 R5)) (p := ⟨g, 6, none⟩) (fun e => by have t1 : wc.heap.size ≤ g := (own_ltO HO.out _ e).1; have := HGL.out; omega) (.slice A5 L5.length c5)) (B := g + 1) (by have := HGL.out; omega))
      go_wp2
      go_meet
      case rel => exact ⟨⟨1, R1, 0, ⟨ks, A1, c1⟩, v1, R5, ⟨L5, A5, c5⟩, 0, ⟨[], none, 0⟩⟩, s9, HRO, HC9, Lib.hid ⟨⟨HK9.out.1, HL9.out, nilLO _ _ _⟩, HK9.out.2, HA5.out, Abv.nil _⟩, HB9, HR9, HS9⟩
    · have HRO := Lib.hid (HOA.out.trans ((if_neg (by rw [hk]; decide)).trans ((if_neg (by rw [hk]; decide)).trans (if_pos hk))))
      clear hk HOA
      have cB := HB.out.cell 0
      have hle := num_le HE.out.ok s2
      go_wp2_with fail
      refine (onumber HE.out HS.out.refl).mono ?_
      rintro e x3 ⟨rfl, hx3⟩
      replace HS := Lib.hid (HS.out.then hx3)
      replace HC := Lib.hid (hx3.gr.blk HC.out HNG.out.1 HNG.out.2.1)
      replace HB := Lib.hid (hx3.gr.blk HB.out HNB.out.1 HNB.out.2.1)
      replace HR := Lib.hid (hx3.gr.blk HR.out HNB.out.2.2.1 HNB.out.2.2.2)
      clear hx3 cB
      generalize numA r.x.l s2 = q at *
      obtain ⟨v1, s5⟩ := q
      simp only at HS HRO hle ⊢
      have hwv : IntKind.i64.wrap ((v1 : Nat) : Int) = v1 := IntWalk.i64_in _ (by omega)
      have rj : x3.cell? ⟨g, 2, none⟩ = some (.int .i64 0) := HC.out.cell 2
      have fj : x3.frozen? ⟨g, 2, none⟩ = false := HC.out.frozen 2
      go_upto_region 16 with fail
      obtain ⟨Zx3, hZx3⟩ : ∃ Z, Z = x3.setCell ⟨g, 2, none⟩ (.int .i64 v1) := ⟨_, rfl⟩
      rw [← hZx3]
      replace HC := Lib.hid (HC.out.set_ 2 (.int .i64 v1))
      replace HB := Lib.hid (HB.out.far (p := ⟨g, 2, none⟩) (by have := HNG.out; simp; omega) (.int .i64 v1))
      replace HR := Lib.hid (HR.out.far (p := ⟨g, 2, none⟩) (by have := HNG.out; simp; omega) (.int .i64 v1))
      replace HS := Lib.hid (HS.out.set (k := g) (by have := HNG.out; omega) (by have := HNG.out; have := HBW.out; omega) HNG.out.1 HNG.out.2.1 HNG.out.2.2.1 2 (.int .i64 v1))
      rw [← hZx3] at HC HB HR HS
      clear hZx3 rj fj
      have cB := HB.out.cell 0
      have HZ0 := Lib.hid HC.out.lt
      go_wp2_with fail
      refine (orcall HE.out HS.out.refl HNM.out.1).mono ?_
      rintro e x4 ⟨A5, c5, rfl, hl5, ha5, hx4⟩
      replace HS := Lib.hid (HS.out.then hx4)
      replace HC := Lib.hid (hx4.gr.blk HC.out HNG.out.1 HNG.out.2.1)
      replace HB := Lib.hid (hx4.gr.blk HB.out HNB.out.1 HNB.out.2.1)
      replace HR := Lib.hid (hx4.gr.blk HR.out HNB.out.2.2.1 HNB.out.2.2.2)
      have HA5 : Hid (Abv (g + 1) A5) := Lib.hid (fun ad e => by have := ha5 ad e; have := HZ0.out; omega)
      have HL5 := Lib.hid hl5
      clear hx4 cB hl5 ha5 HZ0
      generalize callA r.p r.x.l s5 = q at *
      obtain ⟨⟨R5, L5⟩, s9⟩ := q
      simp only at HS HRO HL5 ⊢
      have rj : x4.cell? ⟨g, 7, none⟩ = some (.int .i64 0) := HC.out.cell 7
      have fj : x4.frozen? ⟨g, 7, none⟩ = false := HC.out.frozen 7
      have rk : x4.cell? ⟨g, 8, none⟩ = some (.slice none 0 0) := HC.out.cell 8
      have fk : x4.frozen? ⟨g, 8, none⟩ = false := HC.out.frozen 8
      have HC9 : Hid (Blk (((x4.setCell ⟨g, 7, none⟩ (.int .i64 R5)).setCell ⟨g, 8, none⟩ (.slice A5 L5.length c5))) g 39 (opCells ⟨2, R1, v1, ⟨[], none, 0⟩, 0, 0, ⟨[], none, 0⟩, R5, ⟨L5, A5, c5⟩⟩)) := Lib.hid ((HC.out.set_ 7 (.int .i64 R5)).set_ 8 (.slice A5 L5.length c5))
      have HB9 := Lib.hid ((HB.out.far (p := ⟨g, 7, none⟩) (by have := HNG.out; simp; omega) (.int .i64 R5)).far (p := ⟨g, 8, none⟩) (by have := HNG.out; simp; omega) (.slice A5 L5.length c5))
      have HR9 := Lib.hid ((HR.out.far (p := ⟨g, 7, none⟩) (by have := HNG.out; simp; omega) (.int .i64 R5)).far (p := ⟨g, 8, none⟩) (by have := HNG.out; simp; omega) (.slice A5 L5.length c5))
      have HS9 := Lib.hid ((HS.out.set (k := g) (by have := HNG.out; omega) (by have := HNG.out; have := HBW.out; omega) HNG.out.1 HNG.out.2.1 HNG.out.2.2.1 7 (.int .i64 R5)).set (k := g) (by have := HNG.out; omega) (by have := HNG.out; have := HBW.out; omega) HNG.out.1 HNG.out.2.1 HNG.out.2.2.1 8 (.slice A5 L5.length c5))
      have HL9 := Lib.hid ((HL5.out.farO (b := g) (j := 7) (v := .int .i64 R5) (fun ad e => by have := HA5.out ad e; omega)).farO (b := g) (j := 8) (v := .slice A5 L5.length c5) (fun ad e => by have := HA5.out ad e; omega))
      go_wp2
      go_meet
      case rel => exact ⟨⟨2, R1, v1, ⟨[], none, 0⟩, 0, 0, ⟨[], none, 0⟩, R5, ⟨L5, A5, c5⟩⟩, s9, HRO, HC9, Lib.hid ⟨⟨nilLO _ _ _, nilLO _ _ _, HL9.out⟩, Abv.nil _, Abv.nil _, HA5.out⟩, HB9, HR9, HS9⟩
    · have HRO := Lib.hid (HOA.out.trans ((if_neg (by rw [hk]; decide)).trans ((if_neg (by rw [hk]; decide)).trans ((if_neg (by rw [hk]; decide)).trans (if_pos hk)))))
      clear hk HOA
      have cB := HB.out.cell 0
      have hle := num_le HE.out.ok s2
      go_wp2_with fail
      refine (onumber HE.out HS.out.refl).mono ?_
      rintro e x3 ⟨rfl, hx3⟩
      replace HS := Lib.hid (HS.out.then hx3)
      replace HC := Lib.hid (hx3.gr.blk HC.out HNG.out.1 HNG.out.2.1)
      replace HB := Lib.hid (hx3.gr.blk HB.out HNB.out.1 HNB.out.2.1)
      replace HR := Lib.hid (hx3.gr.blk HR.out HNB.out.2.2.1 HNB.out.2.2.2)
      clear hx3 cB
      generalize numA r.x.l s2 = q at *
      obtain ⟨v1, s5⟩ := q
      simp only at HS HRO hle ⊢
      have hwv : IntKind.i64.wrap ((v1 : Nat) : Int) = v1 := IntWalk.i64_in _ (by omega)
      have rj : x3.cell? ⟨g, 2, none⟩ = some (.int .i64 0) := HC.out.cell 2
      have fj : x3.frozen? ⟨g, 2, none⟩ = false := HC.out.frozen 2
      go_wp2
      go_meet
      case rel => exact ⟨⟨3, R1, v1, ⟨[], none, 0⟩, 0, 0, ⟨[], none, 0⟩, 0, ⟨[], none, 0⟩⟩, s5, HRO, Lib.hid (HC.out.set_ 2 (.int .i64 v1)), Lib.hid ⟨⟨nilLO _ _ _, nilLO _ _ _, nilLO _ _ _⟩, Abv.nil _, Abv.nil _, Abv.nil _⟩, Lib.hid (HB.out.far (p := ⟨g, 2, none⟩) (by have := HNG.out; simp; omega) _), Lib.hid (HR.out.far (p := ⟨g, 2, none⟩) (by have := HNG.out; simp; omega) _), Lib.hid (HS.out.set (k := g) (by have := HNG.out; omega) (by have := HNG.out; have := HBW.out; omega) HNG.out.1 HNG.out.2.1 HNG.out.2.2.1 2 _)⟩
    · have HRO := Lib.hid (HOA.out.trans ((if_neg (by rw [hk]; decide)).trans ((if_neg (by rw [hk]; decide)).trans ((if_neg (by rw [hk]; decide)).trans ((if_neg (by rw [hk]; decide)).trans (rfl))))))
      clear hk HOA
      have cB := HB.out.cell 0
      have HZ0 := Lib.hid HC.out.lt
      go_wp2_with fail
      refine (orcall HE.out HS.out.refl HNM.out.1).mono ?_
      rintro e x4 ⟨A5, c5, rfl, hl5, ha5, hx4⟩
      replace HS := Lib.hid (HS.out.then hx4)
      replace HC := Lib.hid (hx4.gr.blk HC.out HNG.out.1 HNG.out.2.1)
      replace HB := Lib.hid (hx4.gr.blk HB.out HNB.out.1 HNB.out.2.1)
      replace HR := Lib.hid (hx4.gr.blk HR.out HNB.out.2.2.1 HNB.out.2.2.2)
      have HA5 : Hid (Abv (g + 1) A5) := Lib.hid (fun ad e => by have := ha5 ad e; have := HZ0.out; omega)
      have HL5 := Lib.hid hl5
      clear hx4 cB hl5 ha5 HZ0
      generalize callA r.p r.x.l s2 = q at *
      obtain ⟨⟨R5, L5⟩, s9⟩ := q
      simp only at HS HRO HL5 ⊢
      have rj : x4.cell? ⟨g, 7, none⟩ = some (.int .i64 0) := HC.out.cell 7
      have fj : x4.frozen? ⟨g, 7, none⟩ = false := HC.out.frozen 7
      have rk : x4.cell? ⟨g, 8, none⟩ = some (.slice none 0 0) := HC.out.cell 8
      have fk : x4.frozen? ⟨g, 8, none⟩ = false := HC.out.frozen 8
      have HC9 : Hid (Blk (((x4.setCell ⟨g, 7, none⟩ (.int .i64 R5)).setCell ⟨g, 8, none⟩ (.slice A5 L5.length c5))) g 39 (opCells ⟨4, R1, 0, ⟨[], none, 0⟩, 0, 0, ⟨[], none, 0⟩, R5, ⟨L5, A5, c5⟩⟩)) := Lib.hid ((HC.out.set_ 7 (.int .i64 R5)).set_ 8 (.slice A5 L5.length c5))
      have HB9 := Lib.hid ((HB.out.far (p := ⟨g, 7, none⟩) (by have := HNG.out; simp; omega) (.int .i64 R5)).far (p := ⟨g, 8, none⟩) (by have := HNG.out; simp; omega) (.slice A5 L5.length c5))
      have HR9 := Lib.hid ((HR.out.far (p := ⟨g, 7, none⟩) (by have := HNG.out; simp; omega) (.int .i64 R5)).far (p := ⟨g, 8, none⟩) (by have := HNG.out; simp; omega) (.slice A5 L5.length c5))
      have HS9 := Lib.hid ((HS.out.set (k := g) (by have := HNG.out; omega) (by have := HNG.out; have := HBW.out; omega) HNG.out.1 HNG.out.2.1 HNG.out.2.2.1 7 (.int .i64 R5)).set (k := g) (by have := HNG.out; omega) (by have := HNG.out; have := HBW.out; omega) HNG.out.1 HNG.out.2.1 HNG.out.2.2.1 8 (.slice A5 L5.length c5))
      have HL9 := Lib.hid ((HL5.out.farO (b := g) (j := 7) (v := .int .i64 R5) (fun ad e => by have := HA5.out ad e; omega)).farO (b := g) (j := 8) (v := .slice A5 L5.length c5) (fun ad e => by have := HA5.out ad e; omega))
      go_wp2
      go_meet
      case rel => exact ⟨⟨4, R1, 0, ⟨[], none, 0⟩, 0, 0, ⟨[], none, 0⟩, R5, ⟨L5, A5, c5⟩⟩, s9, HRO, HC9, Lib.hid ⟨⟨nilLO _ _ _, nilLO _ _ _, HL9.out⟩, Abv.nil _, Abv.nil _, HA5.out⟩, HB9, HR9, HS9⟩
  case rest =>
  obtain ⟨o, s, HRO, HC, HL, HB, HR, HS⟩ := hcut
  clear HOA HK HKN
  obtain ⟨kd, tb, id, ⟨kl, kA, kc⟩, pr, ea, ⟨el, eA, ec⟩, ca, ⟨cl, cA, cc⟩⟩ := o
  have cB : wc.cell? ⟨w.heap.size, 0, none⟩ = some (pR r) := HB.out.cell 0
  cases s with
  | bad e =>
    obtain ⟨bR, he⟩ := HS.out.badc
    have c11 : wc.cell? ⟨r.gR, 11, none⟩ = some (.int .i64 e) := bR.cell 11
    have he' : ((e : Int) == 0) = false := beq_eq_false_iff_ne.2 (by omega)
    clear bR he
    have d0 : wc.cell? ⟨g, 0, none⟩ = some (.int .i64 kd) := HC.out.cell 0
    have q0 : wc.cell? ⟨w.heap.size + 1, 0, none⟩ = some (.int .i64 0) := HR.out.cell 0
    have g0 : wc.frozen? ⟨w.heap.size + 1, 0, none⟩ = false := HR.out.frozen 0
    have d1 : wc.cell? ⟨g, 1, none⟩ = some (.int .i64 tb) := HC.out.cell 1
    have q1 : wc.cell? ⟨w.heap.size + 1, 1, none⟩ = some (.int .i64 0) := HR.out.cell 1
    have g1 : wc.frozen? ⟨w.heap.size + 1, 1, none⟩ = false := HR.out.frozen 1
    have d2 : wc.cell? ⟨g, 2, none⟩ = some (.int .i64 id) := HC.out.cell 2
    have q2 : wc.cell? ⟨w.heap.size + 1, 2, none⟩ = some (.int .i64 0) := HR.out.cell 2
    have g2 : wc.frozen? ⟨w.heap.size + 1, 2, none⟩ = false := HR.out.frozen 2
    have d3 : wc.cell? ⟨g, 3, none⟩ = some (.slice kA kl.length kc) := HC.out.cell 3
    have q3 : wc.cell? ⟨w.heap.size + 1, 3, none⟩ = some (.slice none 0 0) := HR.out.cell 3
    have g3 : wc.frozen? ⟨w.heap.size + 1, 3, none⟩ = false := HR.out.frozen 3
    have d4 : wc.cell? ⟨g, 4, none⟩ = some (.int .i64 pr) := HC.out.cell 4
    have q4 : wc.cell? ⟨w.heap.size + 1, 4, none⟩ = some (.int .i64 0) := HR.out.cell 4
    have g4 : wc.frozen? ⟨w.heap.size + 1, 4, none⟩ = false := HR.out.frozen 4
    have d5 : wc.cell? ⟨g, 5, none⟩ = some (.int .i64 ea) := HC.out.cell 5
    have q5 : wc.cell? ⟨w.heap.size + 1, 5, none⟩ = some (.int .i64 0) := HR.out.cell 5
    have g5 : wc.frozen? ⟨w.heap.size + 1, 5, none⟩ = false := HR.out.frozen 5
    have d6 : wc.cell? ⟨g, 6, none⟩ = some (.slice eA el.length ec) := HC.out.cell 6
    have q6 : wc.cell? ⟨w.heap.size + 1, 6, none⟩ = some (.slice none 0 0) := HR.out.cell 6
    have g6 : wc.frozen? ⟨w.heap.size + 1, 6, none⟩ = false := HR.out.frozen 6
    have d7 : wc.cell? ⟨g, 7, none⟩ = some (.int .i64 ca) := HC.out.cell 7
    have q7 : wc.cell? ⟨w.heap.size + 1, 7, none⟩ = some (.int .i64 0) := HR.out.cell 7
    have g7 : wc.frozen? ⟨w.heap.size + 1, 7, none⟩ = false := HR.out.frozen 7
    have d8 : wc.cell? ⟨g, 8, none⟩ = some (.slice cA cl.length cc) := HC.out.cell 8
    have q8 : wc.cell? ⟨w.heap.size + 1, 8, none⟩ = some (.slice none 0 0) := HR.out.cell 8
    have g8 : wc.frozen? ⟨w.heap.size + 1, 8, none⟩ = false := HR.out.frozen 8
    go_wp2
    refine bodyPost_ret (v := .agg (opCells ⟨kd, tb, id, ⟨kl, kA, kc⟩, pr, ea, ⟨el, eA, ec⟩, ca, ⟨cl, cA, cc⟩⟩)) ?_ rfl ?_
    · exact results_cell_row (fn := Tryz.f62) (p := 2) (ty := 39) rfl _ _ (w.heap.size + 1) 39 (opCells ⟨kd, tb, id, ⟨kl, kA, kc⟩, pr, ea, ⟨el, eA, ec⟩, ca, ⟨cl, cA, cc⟩⟩) (0, 0) _ rfl (put9O HR.out _ _ _ _ _ _ _ _ _) Tryz.underlying39 rfl (by kernel_rfl)
    · exact oper_end (o := ⟨kd, tb, id, ⟨kl, kA, kc⟩, pr, ea, ⟨el, eA, ec⟩, ca, ⟨cl, cA, cc⟩⟩) (s := .bad e) (B := g + 1) (by rw [HRO.out]; rfl) HS.out HL.out (by have := HNG.out; omega) (by have := HBW.out; omega) HNG2.out _ _ _ _ _ _ _ _ _
  | ok i =>
    obtain ⟨bR, bA, hi1⟩ := HS.out.okc
    have c11 : wc.cell? ⟨r.gR, 11, none⟩ = some (.int .i64 0) := bR.cell 11
    have c9 : wc.cell? ⟨r.gR, 9, none⟩ = some (nextF r) := bR.cell 9
    unfold nextF at c9
    have HN := Lib.hid (onext_any r.x i r.gA r.gL wc (HE.out.toks.below HS.out.base (Nat.le_refl _)) bA HS.out.lb)
    clear bR bA hi1
    by_cases hlt : i < r.x.l.length
    · have hk0 : (nxt r.x.l i).kind ≠ 0 := by
        rw [nxt_in hlt]
        have := (HE.out.ok _ (List.getElem_mem hlt)).kind
        omega
      have hkk : (((nxt r.x.l i).kind : Int) != 0) = true := bne_iff_ne.2 (by omega)
      have HEN : Hid (endA r.x.l (.ok i) = .bad 5) := Lib.hid (if_pos hlt)
      clear hk0 hlt
      generalize nxt r.x.l i = t at *
      obtain ⟨tk, tx, tv, tl⟩ := t
      simp only at hkk HN
      have hfk := tk_kindO (.int .i64 tk) (.string ⟨tx.toArray⟩) (.int .u32 tv) (.int .i64 tl)
      go_wp2_with fail
      refine HN.out.mono ?_
      rintro e1 x3 ⟨rfl, hb3⟩
      replace HS := Lib.hid (HS.out.below hb3)
      replace HC := Lib.hid (HC.out.below hb3 HC.out.lt)
      replace HB := Lib.hid (HB.out.below hb3 HB.out.lt)
      replace HR := Lib.hid (HR.out.below hb3 HR.out.lt)
      replace HL := Lib.hid (HL.out.below hb3)
      clear hb3 HN c9 c11 cB
      obtain ⟨bR, _⟩ := HS.out.okc
      have c11 : x3.cell? ⟨r.gR, 11, none⟩ = some (.int .i64 0) := bR.cell 11
      have f11 : x3.frozen? ⟨r.gR, 11, none⟩ = false := bR.frozen 11
      have cB : x3.cell? ⟨w.heap.size, 0, none⟩ = some (pR r) := HB.out.cell 0
      clear bR
      go_upto_region 23 with fail
      obtain ⟨X, hX⟩ : ∃ X, X = x3.setCell ⟨r.gR, 11, none⟩ (.int .i64 5) := ⟨_, rfl⟩
      replace HS : Hid (OSt W w X r (.bad 5)) := Lib.hid (by rw [hX]; exact HS.out.err HE.out (x := 5) (by decide))
      replace HC : Hid (Blk X g 39 _) := Lib.hid (by rw [hX]; exact HC.out.far HNG.out.1 _)
      replace HR : Hid (Blk X (w.heap.size + 1) 39 _) := Lib.hid (by rw [hX]; exact HR.out.far HNG2.out.1 _)
      replace HL : Hid (OpLies X _ (g + 1)) := Lib.hid (by rw [hX]; exact HL.out.set (by have := HLT.out; have := HNG.out; omega))
      rw [← hX]
      clear hX c11 f11 cB
      have d0 : X.cell? ⟨g, 0, none⟩ = some (.int .i64 kd) := HC.out.cell 0
      have q0 : X.cell? ⟨w.heap.size + 1, 0, none⟩ = some (.int .i64 0) := HR.out.cell 0
      have g0 : X.frozen? ⟨w.heap.size + 1, 0, none⟩ = false := HR.out.frozen 0
      have d1 : X.cell? ⟨g, 1, none⟩ = some (.int .i64 tb) := HC.out.cell 1
      have q1 : X.cell? ⟨w.heap.size + 1, 1, none⟩ = some (.int .i64 0) := HR.out.cell 1
      have g1 : X.frozen? ⟨w.heap.size + 1, 1, none⟩ = false := HR.out.frozen 1
      have d2 : X.cell? ⟨g, 2, none⟩ = some (.int .i64 id) := HC.out.cell 2
      have q2 : X.cell? ⟨w.heap.size + 1, 2, none⟩ = some (.int .i64 0) := HR.out.cell 2
      have g2 : X.frozen? ⟨w.heap.size + 1, 2, none⟩ = false := HR.out.frozen 2
      have d3 : X.cell? ⟨g, 3, none⟩ = some (.slice kA kl.length kc) := HC.out.cell 3
      have q3 : X.cell? ⟨w.heap.size + 1, 3, none⟩ = some (.slice none 0 0) := HR.out.cell 3
      have g3 : X.frozen? ⟨w.heap.size + 1, 3, none⟩ = false := HR.out.frozen 3
      have d4 : X.cell? ⟨g, 4, none⟩ = some (.int .i64 pr) := HC.out.cell 4
      have q4 : X.cell? ⟨w.heap.size + 1, 4, none⟩ = some (.int .i64 0) := HR.out.cell 4
      have g4 : X.frozen? ⟨w.heap.size + 1, 4, none⟩ = false := HR.out.frozen 4
      have d5 : X.cell? ⟨g, 5, none⟩ = some (.int .i64 ea) := HC.out.cell 5
      have q5 : X.cell? ⟨w.heap.size + 1, 5, none⟩ = some (.int .i64 0) := HR.out.cell 5
      have g5 : X.frozen? ⟨w.heap.size + 1, 5, none⟩ = false := HR.out.frozen 5
      have d6 : X.cell? ⟨g, 6, none⟩ = some (.slice eA el.length ec) := HC.out.cell 6
      have q6 : X.cell? ⟨w.heap.size + 1, 6, none⟩ = some (.slice none 0 0) := HR.out.cell 6
      have g6 : X.frozen? ⟨w.heap.size + 1, 6, none⟩ = false := HR.out.frozen 6
      have d7 : X.cell? ⟨g, 7, none⟩ = some (.int .i64 ca) := HC.out.cell 7
      have q7 : X.cell? ⟨w.heap.size + 1, 7, none⟩ = some (.int .i64 0) := HR.out.cell 7
      have g7 : X.frozen? ⟨w.heap.size + 1, 7, none⟩ = false := HR.out.frozen 7
      have d8 : X.cell? ⟨g, 8, none⟩ = some (.slice cA cl.length cc) := HC.out.cell 8
      have q8 : X.cell? ⟨w.heap.size + 1, 8, none⟩ = some (.slice none 0 0) := HR.out.cell 8
      have g8 : X.frozen? ⟨w.heap.size + 1, 8, none⟩ = false := HR.out.frozen 8
      go_wp2
      refine bodyPost_ret (v := .agg (opCells ⟨kd, tb, id, ⟨kl, kA, kc⟩, pr, ea, ⟨el, eA, ec⟩, ca, ⟨cl, cA, cc⟩⟩)) ?_ rfl ?_
      · exact results_cell_row (fn := Tryz.f62) (p := 2) (ty := 39) rfl _ _ (w.heap.size + 1) 39 (opCells ⟨kd, tb, id, ⟨kl, kA, kc⟩, pr, ea, ⟨el, eA, ec⟩, ca, ⟨cl, cA, cc⟩⟩) (0, 0) _ rfl (put9O HR.out _ _ _ _ _ _ _ _ _) Tryz.underlying39 rfl (by kernel_rfl)
      · exact oper_end (o := ⟨kd, tb, id, ⟨kl, kA, kc⟩, pr, ea, ⟨el, eA, ec⟩, ca, ⟨cl, cA, cc⟩⟩) (s := .bad 5) (B := g + 1) (by rw [HRO.out]; simp only; rw [HEN.out]) HS.out HL.out (by have := HNG.out; omega) (by have := HBW.out; omega) HNG2.out _ _ _ _ _ _ _ _ _
    · have HEN : Hid (endA r.x.l (.ok i) = .ok i) := Lib.hid (if_neg hlt)
      have hkz : (nxt r.x.l i).kind = 0 := by rw [nxt_out (by omega)]; rfl
      have hkk : (((nxt r.x.l i).kind : Int) != 0) = false := by rw [hkz]; rfl
      clear hkz hlt
      generalize nxt r.x.l i = t at *
      obtain ⟨tk, tx, tv, tl⟩ := t
      simp only at hkk HN
      have hfk := tk_kindO (.int .i64 tk) (.string ⟨tx.toArray⟩) (.int .u32 tv) (.int .i64 tl)
      go_wp2_with fail
      refine HN.out.mono ?_
      rintro e1 x3 ⟨rfl, hb3⟩
      replace HS := Lib.hid (HS.out.below hb3)
      replace HC := Lib.hid (HC.out.below hb3 HC.out.lt)
      replace HB := Lib.hid (HB.out.below hb3 HB.out.lt)
      replace HR := Lib.hid (HR.out.below hb3 HR.out.lt)
      replace HL := Lib.hid (HL.out.below hb3)
      clear hb3 HN c9 c11 cB
      have d0 : x3.cell? ⟨g, 0, none⟩ = some (.int .i64 kd) := HC.out.cell 0
      have q0 : x3.cell? ⟨w.heap.size + 1, 0, none⟩ = some (.int .i64 0) := HR.out.cell 0
      have g0 : x3.frozen? ⟨w.heap.size + 1, 0, none⟩ = false := HR.out.frozen 0
      have d1 : x3.cell? ⟨g, 1, none⟩ = some (.int .i64 tb) := HC.out.cell 1
      have q1 : x3.cell? ⟨w.heap.size + 1, 1, none⟩ = some (.int .i64 0) := HR.out.cell 1
      have g1 : x3.frozen? ⟨w.heap.size + 1, 1, none⟩ = false := HR.out.frozen 1
      have d2 : x3.cell? ⟨g, 2, none⟩ = some (.int .i64 id) := HC.out.cell 2
      have q2 : x3.cell? ⟨w.heap.size + 1, 2, none⟩ = some (.int .i64 0) := HR.out.cell 2
      have g2 : x3.frozen? ⟨w.heap.size + 1, 2, none⟩ = false := HR.out.frozen 2
      have d3 : x3.cell? ⟨g, 3, none⟩ = some (.slice kA kl.length kc) := HC.out.cell 3
      have q3 : x3.cell? ⟨w.heap.size + 1, 3, none⟩ = some (.slice none 0 0) := HR.out.cell 3
      have g3 : x3.frozen? ⟨w.heap.size + 1, 3, none⟩ = false := HR.out.frozen 3
      have d4 : x3.cell? ⟨g, 4, none⟩ = some (.int .i64 pr) := HC.out.cell 4
      have q4 : x3.cell? ⟨w.heap.size + 1, 4, none⟩ = some (.int .i64 0) := HR.out.cell 4
      have g4 : x3.frozen? ⟨w.heap.size + 1, 4, none⟩ = false := HR.out.frozen 4
      have d5 : x3.cell? ⟨g, 5, none⟩ = some (.int .i64 ea) := HC.out.cell 5
      have q5 : x3.cell? ⟨w.heap.size + 1, 5, none⟩ = some (.int .i64 0) := HR.out.cell 5
      have g5 : x3.frozen? ⟨w.heap.size + 1, 5, none⟩ = false := HR.out.frozen 5
      have d6 : x3.cell? ⟨g, 6, none⟩ = some (.slice eA el.length ec) := HC.out.cell 6
      have q6 : x3.cell? ⟨w.heap.size + 1, 6, none⟩ = some (.slice none 0 0) := HR.out.cell 6
      have g6 : x3.frozen? ⟨w.heap.size + 1, 6, none⟩ = false := HR.out.frozen 6
      have d7 : x3.cell? ⟨g, 7, none⟩ = some (.int .i64 ca) := HC.out.cell 7
      have q7 : x3.cell? ⟨w.heap.size + 1, 7, none⟩ = some (.int .i64 0) := HR.out.cell 7
      have g7 : x3.frozen? ⟨w.heap.size + 1, 7, none⟩ = false := HR.out.frozen 7
      have d8 : x3.cell? ⟨g, 8, none⟩ = some (.slice cA cl.length cc) := HC.out.cell 8
      have q8 : x3.cell? ⟨w.heap.size + 1, 8, none⟩ = some (.slice none 0 0) := HR.out.cell 8
      have g8 : x3.frozen? ⟨w.heap.size + 1, 8, none⟩ = false := HR.out.frozen 8
      go_wp2
      refine bodyPost_ret (v := .agg (opCells ⟨kd, tb, id, ⟨kl, kA, kc⟩, pr, ea, ⟨el, eA, ec⟩, ca, ⟨cl, cA, cc⟩⟩)) ?_ rfl ?_
      · exact results_cell_row (fn := Tryz.f62) (p := 2) (ty := 39) rfl _ _ (w.heap.size + 1) 39 (opCells ⟨kd, tb, id, ⟨kl, kA, kc⟩, pr, ea, ⟨el, eA, ec⟩, ca, ⟨cl, cA, cc⟩⟩) (0, 0) _ rfl (put9O HR.out _ _ _ _ _ _ _ _ _) Tryz.underlying39 rfl (by kernel_rfl)
      · exact oper_end (o := ⟨kd, tb, id, ⟨kl, kA, kc⟩, pr, ea, ⟨el, eA, ec⟩, ca, ⟨cl, cA, cc⟩⟩) (s := .ok i) (B := g + 1) (by rw [HRO.out]; simp only; rw [HEN.out]) HS.out HL.out (by have := HNG.out; omega) (by have := HBW.out; omega) HNG2.out _ _ _ _ _ _ _ _ _
end Go.Proofs.YtofjapcgbajmiaaGreatDoor
namespace Go.Proofs.YtofjapcgbajmiaaGreatDoor
open Go.RowKit
theorem box2P (w : World) (c1 c2 : Array Value) (t1 t2 : TypeId) : ∃ W, W = (w.alloc (.cells c1 t1)).alloc (.cells c2 t2) ∧ Below w.heap.size w W ∧ W.heap.size = w.heap.size + 2 ∧ Blk W w.heap.size t1 c1 ∧ Blk W (w.heap.size + 1) t2 c2 := by
  refine ⟨_, rfl, below2 _ _ _, by simp, (Blk.new _ _ _).alloc _, ?_⟩
  have := Blk.new (w.alloc (.cells c1 t1)) t2 c2
  simpa using this
def NewEnd (w : World) (p : ProgD) (x : L Tk) (e : Ending) (w' : World) : Prop :=
  ∃ r : OR, r.x = x ∧ r.p = p ∧ e = .returned (.pointer (some ⟨r.gR, 0, none⟩)) ∧ OEnv w r ∧ OSt w w' w' r (.ok 0) ∧ Below w.heap.size w w' ∧ r.gR < w'.heap.size
theorem new_end {w W : World} {p : ProgD} {x : L Tk} (hx : LOk w 4 tkL x) (ho : ∀ t ∈ x.l, TkOk t) (hf : x.l.length ≤ 4096) (o : ProgOk w p) (hw : Below w.heap.size w W) (hs : W.heap.size = w.heap.size + 2)
    (b1 : Blk W (w.heap.size + 1) 117 #[.slice x.A x.l.length x.c]) :
    NewEnd w p x (.returned (.pointer (some ⟨W.heap.size + 1, 0, none⟩))) ((W.alloc (.cells #[.int .i64 0] 3)).alloc (.cells (orCells ⟨W.heap.size + 1, W.heap.size, w.heap.size + 1, x, p⟩ 0) 125)) := by
  have h1 : Blk ((W.alloc (.cells #[.int .i64 0] 3)).alloc (.cells (orCells ⟨W.heap.size + 1, W.heap.size, w.heap.size + 1, x, p⟩ 0) 125)) (W.heap.size + 1) 125 (orCells ⟨W.heap.size + 1, W.heap.size, w.heap.size + 1, x, p⟩ 0) := by
    have := Blk.new (W.alloc (.cells #[.int .i64 0] 3)) 125 (orCells ⟨W.heap.size + 1, W.heap.size, w.heap.size + 1, x, p⟩ 0)
    simpa using this
  have h2 := (Blk.new W 3 #[.int .i64 0]).alloc (.cells (orCells ⟨W.heap.size + 1, W.heap.size, w.heap.size + 1, x, p⟩ 0) 125)
  have h3 := (b1.alloc (.cells #[.int .i64 0] 3)).alloc (.cells (orCells ⟨W.heap.size + 1, W.heap.size, w.heap.size + 1, x, p⟩ 0) 125)
  have hb : Below w.heap.size w ((W.alloc (.cells #[.int .i64 0] 3)).alloc (.cells (orCells ⟨W.heap.size + 1, W.heap.size, w.heap.size + 1, x, p⟩ 0) 125)) := below_alloc (below_alloc hw _) _
  exact ⟨⟨W.heap.size + 1, W.heap.size, w.heap.size + 1, x, p⟩, rfl, rfl, rfl,
    ⟨hx, ho, hf, o, by simp only; omega, by simp only; omega, by simp only; omega, by simp only; omega, by simp only; omega, by simp only; omega⟩,
    ⟨⟨0, 0, h1, h2, by omega, rfl, rfl, Nat.zero_le _⟩, h3, Gro.refl _ _ _, hb⟩, hb, h1.lt⟩
set_option maxRecDepth 100000 in
set_option maxHeartbeats 4000000 in
theorem onew_any (p : ProgD) (x : L Tk) (w : World) (hx : LOk w 4 tkL x) (ho : ∀ t ∈ x.l, TkOk t) (hf : x.l.length ≤ 4096) (o : ProgOk w p) :
    Calls Tryz.prog 61 #[.agg (progCells p), .slice x.A x.l.length x.c] w (NewEnd w p x) := by
  obtain ⟨W, hW, hw, hsz, b0, b1⟩ := box2P w (progCells p) #[.slice x.A x.l.length x.c] 31 117
  have HE := Lib.hid (new_end hx ho hf o hw hsz b1)
  have hp3 : ∀ o i, (W.alloc o).cell? ⟨w.heap.size, i, none⟩ = (progCells p)[i]? := fun o i => (b0.alloc o).cell i
  clear hx ho hf o hw hsz b0 b1
  go_enter Tryz.func61, Tryz.ntmps61
  go_upto_region 1 with fail
  rw [← hW]
  clear hW
  go_wp2
  go_ret
  exact HE.out
end Go.Proofs.YtofjapcgbajmiaaGreatDoor
