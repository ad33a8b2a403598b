/- Walks of package header's widths, sum, Check on any header. No condition but that the header lies in memory. -/
import Derived.Test.YtbfjknidinkafaaGreatCkW
namespace Go.Proofs.YtbfjknidinkafaaGreat
open Go.RowKit

set_option maxRecDepth 100000 in
set_option maxHeartbeats 2000000 in
theorem widths_any (h : HeaderD) (w : World) (o : LOk w 2 FieldD.cells h.fields) (hm : h.fields.l.length ≤ 1000) :
    Calls Tryz.prog 167 #[.agg #[.string h.name, .slice h.fields.A h.fields.l.length h.fields.c]] w fun e w' =>
      ∃ A c, e = .returned (.slice A h.fields.l.length c) ∧ LOk w' 1 icell ⟨h.fields.l.map FieldD.width, A, c⟩ ∧ Below w.heap.size w w' := by
  obtain ⟨nm, ⟨l, A0, c0⟩⟩ := h
  simp only at hm ⊢
  obtain ⟨W, hW, hw, HB, hp⟩ := box1 w #[.string nm, .slice A0 l.length c0] 96
  have HW := Lib.hid hw
  have HX := Lib.hid (o.below hw (Nat.le_refl _))
  have HB0 := Lib.hid HB
  obtain ⟨i0, hi, hz0, hz1, hz2⟩ := info_parts (show (Tryz.prog.info? 3).map (fun i => (i.zero, i.size, i.bytes)) = some (some (.int .i64 0), 1, 8) by kernel_rfl)
  clear o hw
  go_enter Tryz.func167, Tryz.ntmps167
  go_upto_region 1 with fail
  rw [← hW]
  clear hW
  go_wp2
  clear HB
  go_loopw [3, 5, 9] (fun ov _ iv wr => ∃ (k : Nat) (A : Option Addr) (c : Nat), k ≤ l.length ∧ iv = .int .i64 k ∧ ov = .slice A k c ∧ wr.ownsRow W.heap.size 3 1 (.slice A k c) k (ints ((l.take k).map FieldD.width)) ∧ Below W.heap.size W wr)
    (fun _ _ i _ => l.length - (intOf i).toNat)
  case atStart => exact ⟨0, none, 0, Nat.zero_le _, rfl, rfl, World.ownsRow_nil _ _ _ _, HB0.out⟩
  case round =>
    obtain ⟨k, A, c, hk, rfl, rfl, hown, HB⟩ := hrel
    by_cases hlt : k < l.length
    · obtain ⟨g, of, hA, d0, d1⟩ := FieldD.at (HX.out.below HB (Nat.le_refl _)) hlt
      simp only at hA d0 d1
      subst hA
      have HT : Hid (l.take (k + 1) = l.take k ++ [l[k]]) := Lib.hid (take_snoc l k hlt)
      generalize l[k] = y at *
      have HO := Lib.hid hown
      have HBH := Lib.hid HB
      have hsz := HW.out.size
      have hsz2 := HB.size
      clear hown
      go_wp2_with (first
        | (at_builtin; refine wpList_append_own _ rfl _ _ 29 rfl W.heap.size 3 i0 _ 1 8 Tryz.underlying29 hi hz0 hz1 hz2 rfl (by decide) _ k (ints ((l.take k).map FieldD.width)) rfl ((HO.out.alloc _).alloc _) ⟨wr.heap.size + 1, 0, none⟩ 1 1 [.int .i64 y.width] rfl rfl ?c1 ?c2 ?c3 ?c4 ?c5 ?_))
      case c1 =>
        intro j v hj
        match j, hj with
        | 0, hj => simp at hj; subst hj; simp [Addr.add]
      case c2 => intro u hu; simp at hu; subst hu; rfl
      case c3 => unfold maxLen; omega
      case c4 => omega
      case c5 => simp; omega
      intro v' w2 hown2 hgrow _
      have hb2 := below_alloc (below_alloc HBH.out (.cells #[.string y.name, .int .i64 y.width] 135)) (.cells #[.int .i64 y.width] 3)
      have hbel2 : Below W.heap.size W w2 := hb2.grown hgrow hb2.size fun j hj => (HO.out.lt j hj).1
      obtain ⟨A', c', rfl⟩ : ∃ A' c', v' = .slice A' (k + 1) c' := by
        rcases hown2.2 with ⟨hv, h0⟩ | ⟨g', cap, cur, hv, _, _, _⟩
        · omega
        · exact ⟨_, _, hv⟩
      clear hb2
      go_wp2
      go_roundw
      case rel =>
        refine ⟨k + 1, A', c', by omega, by go_num, rfl, ?_, hbel2⟩
        rw [HT.out, List.map_append]
        simpa [ints] using hown2
      case measure => simp [intOf]; omega
    · have hk' : k = l.length := by omega
      subst hk'
      rw [List.take_length] at hown
      have HL := Lib.hid (own_lok (l := l.map FieldD.width) (by simpa using hown) (by rw [List.length_map]; unfold maxLen; omega))
      clear hown
      go_wp2
      go_ret
      exact ⟨A, c, rfl, HL.out, below_step HW.out HB⟩

theorem sumI_snoc (l : List Int) (x : Int) : (l ++ [x]).sum = l.sum + x := by simp [List.sum_append]
theorem sumI_bound (l : List Int) (h : ∀ x ∈ l, 1 ≤ x ∧ x ≤ 32) : 0 ≤ l.sum ∧ l.sum ≤ 32 * l.length := by
  induction l with
  | nil => exact ⟨Int.le_refl _, Int.le_refl _⟩
  | cons x l ih =>
    have h1 := ih (fun y hy => h y (List.mem_cons_of_mem _ hy))
    have h2 := h x List.mem_cons_self
    rw [List.sum_cons, List.length_cons]
    omega
set_option maxHeartbeats 1000000 in
theorem hsum_any (x : L Int) (w : World) (o : LOk w 1 icell x) (hm : x.l.length ≤ 1000) (hx : ∀ v ∈ x.l, 1 ≤ v ∧ v ≤ 32) :
    Calls Tryz.prog 166 #[.slice x.A x.l.length x.c] w fun e w' => e = .returned (.int .i64 x.l.sum) ∧ w = w' := by
  obtain ⟨l, A, c⟩ := x
  have HO := Lib.hid o
  have HX := Lib.hid hx
  simp only at hm HX ⊢
  clear o hx
  go_enter Tryz.func166, Tryz.ntmps166
  go_wp2
  go_loopw [3, 5, 8] (fun nv _ iv wr => ∃ k : Nat, k ≤ l.length ∧ iv = .int .i64 k ∧ nv = .int .i64 (l.take k).sum ∧ w = wr) (fun _ _ i _ => l.length - (intOf i).toNat)
  case atStart => exact ⟨0, Nat.zero_le _, rfl, rfl, rfl⟩
  case round =>
    obtain ⟨k, hk, rfl, rfl, rfl⟩ := hrel
    by_cases hlt : k < l.length
    · obtain ⟨g, of, hA, d0⟩ := icell_at HO.out hlt
      simp only at hA d0
      subst hA
      have HT : Hid ((l.take (k + 1)).sum = (l.take k).sum + l[k]) := Lib.hid (by rw [take_snoc l k hlt, sumI_snoc])
      have hb := sumI_bound (l.take k) (fun y hy => HX.out y (List.mem_of_mem_take hy))
      have hy := HX.out _ (List.getElem_mem hlt)
      rw [List.length_take] at hb
      obtain ⟨b1, b2⟩ := hb
      obtain ⟨y1, y2⟩ := hy
      generalize l[k] = y at *
      generalize (l.take k).sum = s at *
      go_wp2
      go_roundw
      case rel => exact ⟨k + 1, by omega, by go_num, by rw [HT.out], by trivial⟩
      case measure => simp [intOf]; omega
    · have e : k = l.length := by omega
      have HT : Hid ((l.take k).sum = l.sum) := Lib.hid (by rw [e, List.take_length])
      go_wp2
      go_ret
      exact ⟨by rw [HT.out]; rfl, rfl⟩
end Go.Proofs.YtbfjknidinkafaaGreat

