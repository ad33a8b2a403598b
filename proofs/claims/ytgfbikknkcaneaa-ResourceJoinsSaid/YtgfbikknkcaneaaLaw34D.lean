/- Walk of the law ResourceJoins. -/
import Derived.Test.YtgfbikknkcaneaaLaw34A
import Derived.Test.YtgfbikknkcaneaaOwnL
import Derived.Deep.RegionHeld3
namespace Go.Proofs.Ytgfbikknkcaneaa
open Go.RowKit

def tot : List Nat → Nat := List.sum
theorem addM_min {a b : Nat} (h : a ≤ maxInt) : addM a b = min maxInt (a + b) := by unfold addM; split <;> omega
theorem foldS_eq : ∀ (l : List ResD) (a : Nat), a ≤ maxInt → l.foldl (fun a r => addM a r.s.toNat) a = min maxInt (a + (l.map (·.s.toNat)).sum)
  | [], a, h => by simp; omega
  | r :: l, a, h => by
    rw [List.foldl_cons, foldS_eq l _ (addM_le h), addM_min h, List.map_cons, List.sum_cons]; omega
theorem foldT_eq : ∀ (l : List ResD) (a : Nat), a ≤ maxInt → l.foldl (fun a r => addM a r.t.toNat) a = min maxInt (a + (l.map (·.t.toNat)).sum)
  | [], a, h => by simp; omega
  | r :: l, a, h => by
    rw [List.foldl_cons, foldT_eq l _ (addM_le h), addM_min h, List.map_cons, List.sum_cons]; omega
theorem sumS_eq (l : List ResD) : sumS l = min maxInt ((l.map (·.s.toNat)).sum) := by rw [sumS, foldS_eq l 0 (Nat.zero_le _), Nat.zero_add]
theorem sumT_eq (l : List ResD) : sumT l = min maxInt ((l.map (·.t.toNat)).sum) := by rw [sumT, foldT_eq l 0 (Nat.zero_le _), Nat.zero_add]
theorem joinS (a b : List ResD) : sumS (b ++ a) = sumS (a ++ b) ∧ sumS [⟨sumS a, sumT a⟩, ⟨sumS b, sumT b⟩] = sumS (a ++ b) := by
  constructor
  · simp only [sumS_eq, List.map_append, List.sum_append]; rw [Nat.add_comm]
  · simp only [sumS_eq, List.map_append, List.sum_append, List.map_cons, List.map_nil, List.sum_cons, List.sum_nil, Int.toNat_natCast]; omega
theorem joinT (a b : List ResD) : sumT (b ++ a) = sumT (a ++ b) ∧ sumT [⟨sumS a, sumT a⟩, ⟨sumS b, sumT b⟩] = sumT (a ++ b) := by
  constructor
  · simp only [sumT_eq, List.map_append, List.sum_append]; rw [Nat.add_comm]
  · simp only [sumT_eq, List.map_append, List.sum_append, List.map_cons, List.map_nil, List.sum_cons, List.sum_nil, Int.toNat_natCast]; omega
theorem Try.infoRes : (Try.prog.info? 27).map (fun i => (i.zero, i.size, i.bytes)) = some (some (.agg #[.int .i64 0, .int .i64 0]), 2, 16) := by kernel_rfl
theorem ResD.cells_one (u : ResD) : ∀ c ∈ ResD.cells u, c.oneCell' = true := by
  intro c hc
  simp only [ResD.cells, List.mem_cons, List.not_mem_nil, or_false] at hc
  rcases hc with rfl | rfl <;> rfl

theorem two_at {w : World} {g : Nat} {t : TypeId} {a b c d : Int} (h : Blk w g t #[.int .i64 a, .int .i64 b, .int .i64 c, .int .i64 d]) : LOk w 2 ResD.cells (⟨[⟨a, b⟩, ⟨c, d⟩], some ⟨g, 0, none⟩, 2⟩ : L ResD) := by
  refine ⟨show (2 : Nat) ≤ maxLen by decide, .inr ⟨g, 0, rfl, h.lt, fun i hi j hj => ?_⟩⟩
  rw [h.cell, show 0 + i * 2 + j = i * 2 + j by omega]
  have h3 : i < 2 := hi
  match i, j with
  | 0, 0 => rfl
  | 0, 1 => rfl
  | 1, 0 => rfl
  | 1, 1 => rfl
  | 0, j + 2 => omega
  | 1, j + 2 => omega
  | i + 2, _ => omega
theorem two_wf {a b c d : Nat} (ha : a ≤ maxInt) (hb : b ≤ maxInt) (hc : c ≤ maxInt) (hd : d ≤ maxInt) : ∀ r ∈ ([⟨a, b⟩, ⟨c, d⟩] : List ResD), r.wf := by
  unfold maxInt at *
  intro r hr
  simp only [List.mem_cons, List.not_mem_nil, or_false] at hr
  rcases hr with rfl | rfl <;> (unfold ResD.wf; simp only; omega)
set_option maxRecDepth 100000 in
set_option maxHeartbeats 4000000 in
theorem joins_any (x y : L ResD) (w : World) (hx : LOk w 2 ResD.cells x) (hwx : ∀ r ∈ x.l, r.wf) (hy : LOk w 2 ResD.cells y) (hwy : ∀ r ∈ y.l, r.wf) (nx : x.A = none → x.c = 0) (ny : y.A = none → y.c = 0) :
    Calls Try.prog 4 #[x.v, y.v] w fun e w' => e = .returned (.bool true) ∧ Below w.heap.size w w' := by
  have HX := Lib.hid (And.intro hx (And.intro hwx nx))
  have HY := Lib.hid (And.intro hy (And.intro hwy ny))
  clear hx hwx hy hwy nx ny
  have hlx := HX.out.1.1
  have hly := HY.out.1.1
  obtain ⟨i0, hi, hz0, hz1, hz2⟩ := info_parts Try.infoRes
  by_cases hm : x.l.length ≤ 50 ∧ y.l.length ≤ 50
  · obtain ⟨hm1, hm2⟩ := hm
    have HJ := Lib.hid (And.intro (joinS x.l y.l) (joinT x.l y.l))
    have h1 : ¬ (50 : Int) < (x.l.length : Int) := by omega
    have h2 : ¬ (50 : Int) < (y.l.length : Int) := by omega
    go_enter Try.func4, Try.ntmps4
    go_wp2_with fail
    refine (sum_any x _ HX.out.1 (by omega) HX.out.2.1).mono ?_
    rintro e w1 ⟨rfl, hb1⟩
    have HB1 := Lib.hid hb1
    clear hb1
    go_wp2_with fail
    refine (sum_any y _ (HY.out.1.below HB1.out (Nat.le_refl _)) (by omega) HY.out.2.1).mono ?_
    rintro e w2 ⟨rfl, hb2⟩
    have HB2 := Lib.hid (below_step HB1.out hb2)
    clear hb2
    have HTW := Lib.hid (two_wf (sumS_le x.l) (sumT_le x.l) (sumS_le y.l) (sumT_le y.l))
    generalize sumS x.l = sx at *
    generalize sumT x.l = tx at *
    generalize sumS y.l = sy at *
    generalize sumT y.l = ty at *
    obtain ⟨z, HZ⟩ : ∃ z : List ResD, Hid (z = x.l ++ y.l) := ⟨_, Lib.hid rfl⟩
    obtain ⟨u, HU⟩ : ∃ u : List ResD, Hid (u = y.l ++ x.l) := ⟨_, Lib.hid rfl⟩
    have HZl := Lib.hid (show z.length = x.l.length + y.l.length by rw [HZ.out, List.length_append])
    have HUl := Lib.hid (show u.length = y.l.length + x.l.length by rw [HU.out, List.length_append])
    have HZw := Lib.hid (show ∀ r ∈ z, r.wf from fun r hr => by rw [HZ.out] at hr; exact (List.mem_append.1 hr).elim (HX.out.2.1 r) (HY.out.2.1 r))
    have HUw := Lib.hid (show ∀ r ∈ u, r.wf from fun r hr => by rw [HU.out] at hr; exact (List.mem_append.1 hr).elim (HY.out.2.1 r) (HX.out.2.1 r))
    obtain ⟨p, q, HJ'⟩ : ∃ p q : Nat, Hid ((sumS z = p ∧ sumT z = q) ∧ (sumS u = p ∧ sumT u = q) ∧ sumS [⟨sx, tx⟩, ⟨sy, ty⟩] = p ∧ sumT [⟨sx, tx⟩, ⟨sy, ty⟩] = q) :=
      ⟨_, _, Lib.hid ⟨⟨rfl, rfl⟩, ⟨by rw [HU.out, HZ.out, HJ.out.1.1], by rw [HU.out, HZ.out, HJ.out.2.1]⟩, by rw [HZ.out, HJ.out.1.2], by rw [HZ.out, HJ.out.2.2]⟩⟩
    have HBX := Lib.hid (show Below w.heap.size w (((w2.alloc (.cells #[.int .i64 (sx : Int), .int .i64 (tx : Int)] 27)).alloc (.cells #[.int .i64 (sy : Int), .int .i64 (ty : Int)] 27)).alloc (.cells #[] 27)) from below_step HB2.out (below3 _ _ _ _))
    have HOX : Hid ((((w2.alloc (.cells #[.int .i64 (sx : Int), .int .i64 (tx : Int)] 27)).alloc (.cells #[.int .i64 (sy : Int), .int .i64 (ty : Int)] 27)).alloc (.cells #[] 27)).ownsRow (w2.heap.size + 2) 27 2 (.slice (some ⟨w2.heap.size + 1 + 1, 0, none⟩) 0 0) 0 []) :=
      Lib.hid (by have := own_empty ((w2.alloc (.cells #[.int .i64 (sx : Int), .int .i64 (tx : Int)] 27)).alloc (.cells #[.int .i64 (sy : Int), .int .i64 (ty : Int)] 27)) (w2.heap.size + 2) 27 2 (by simp); simpa using this)
    have HXX := Lib.hid (show Blk (((w2.alloc (.cells #[.int .i64 (sx : Int), .int .i64 (tx : Int)] 27)).alloc (.cells #[.int .i64 (sy : Int), .int .i64 (ty : Int)] 27)).alloc (.cells #[] 27)) w2.heap.size 27 #[.int .i64 (sx : Int), .int .i64 (tx : Int)] from ((Blk.new _ _ _).alloc _).alloc _)
    have HYY := Lib.hid (show Blk (((w2.alloc (.cells #[.int .i64 (sx : Int), .int .i64 (tx : Int)] 27)).alloc (.cells #[.int .i64 (sy : Int), .int .i64 (ty : Int)] 27)).alloc (.cells #[] 27)) (w2.heap.size + 1) 27 #[.int .i64 (sy : Int), .int .i64 (ty : Int)] from (Blk.newAt _ (by simp) _ _).alloc _)
    go_wp2_with (first
      | (at_builtin; refine wpList_append_L rfl _ _ 22 rfl (w2.heap.size + 2) 27 i0 _ 2 16 Try.underlying22 hi hz0 hz1 hz2 rfl (by decide) _ _ _ rfl HOX.out x rfl (HX.out.1.below HBX.out (Nat.le_refl _)) HX.out.2.2 (fun _ => rfl) ResD.cells_one ?a3 ?a4 ?a5 ?_))
    case a3 => unfold maxLen; omega
    case a4 => omega
    case a5 => simp
    intro v3 w3 hown3 hgrow3
    try rw [Nat.zero_add, List.nil_append] at hown3
    have hb3 : Below (w2.heap.size + 2) (((w2.alloc (.cells #[.int .i64 (sx : Int), .int .i64 (tx : Int)] 27)).alloc (.cells #[.int .i64 (sy : Int), .int .i64 (ty : Int)] 27)).alloc (.cells #[] 27)) w3 := grown_below HOX.out hgrow3 (by simp)
    have HB3 := Lib.hid (HBX.out.trans (hb3.mono (Nat.le_trans HB2.out.size (Nat.le_add_right _ 2))))
    have HX3 := Lib.hid (HXX.out.below hb3 (by omega))
    have HY3 := Lib.hid (HYY.out.below hb3 (by omega))
    have HO3 := Lib.hid hown3
    have HL3 := Lib.hid (show w2.heap.size + 2 ≤ w3.heap.size from Nat.le_trans (by simp) hb3.size)
    clear hown3 hgrow3 hb3 HXX HYY HOX HBX
    go_wp2_with (first
      | (at_builtin; refine wpList_append_L rfl _ _ 22 rfl (w2.heap.size + 2) 27 i0 _ 2 16 Try.underlying22 hi hz0 hz1 hz2 rfl (by decide) _ _ _ rfl HO3.out y rfl (HY.out.1.below HB3.out (Nat.le_refl _)) HY.out.2.2 (fun _ => rfl) ResD.cells_one ?b3 ?b4 ?b5 ?_))
    case b3 => unfold maxLen; omega
    case b4 => omega
    case b5 => exact HL3.out
    intro v4 w4 hown4 hgrow4
    rw [← HZl.out, ← List.flatMap_append, ← HZ.out] at hown4
    obtain ⟨A4, c4, rfl, _, hl4, _, _⟩ := own_list (cells := ResD.cells) (size := 2) (fun _ => rfl) hown4
    have hb4 : Below (w2.heap.size + 2) w3 w4 := grown_below HO3.out hgrow4 HL3.out
    have HB4 := Lib.hid (HB3.out.trans (hb4.mono (Nat.le_trans HB2.out.size (Nat.le_add_right _ 2))))
    have HX4 := Lib.hid (HX3.out.below hb4 (by omega))
    have HY4 := Lib.hid (HY3.out.below hb4 (by omega))
    have HL4 := Lib.hid hl4
    clear hown4 hgrow4 hb4 HX3 HY3 HO3 HL3 hl4
    go_wp2_with fail
    refine (sum_any ⟨z, A4, c4⟩ _ HL4.out (show z.length ≤ 1000 by have := HZl.out; omega) HZw.out).mono ?_
    rintro e w5 ⟨he, hb5⟩
    replace he : e = .returned (.agg #[.int .i64 (p : Int), .int .i64 (q : Int)]) := by rw [he, HJ'.out.1.1, HJ'.out.1.2]
    subst he
    have HB5 := Lib.hid (below_step HB4.out hb5)
    have HX5 := Lib.hid (HX4.out.below hb5 HX4.out.lt)
    have HY5 := Lib.hid (HY4.out.below hb5 HY4.out.lt)
    clear hb5 HX4 HY4 HL4
    have HBX := Lib.hid (show Below w.heap.size w ((w5.alloc (.cells #[.int .i64 (p : Int), .int .i64 (q : Int)] 27)).alloc (.cells #[] 27)) from below_step HB5.out (below2 _ _ _))
    have HOX : Hid (((w5.alloc (.cells #[.int .i64 (p : Int), .int .i64 (q : Int)] 27)).alloc (.cells #[] 27)).ownsRow (w5.heap.size + 1) 27 2 (.slice (some ⟨w5.heap.size + 1, 0, none⟩) 0 0) 0 []) :=
      Lib.hid (by have := own_empty (w5.alloc (.cells #[.int .i64 (p : Int), .int .i64 (q : Int)] 27)) (w5.heap.size + 1) 27 2 (by simp); simpa using this)
    have HXX := Lib.hid (show Blk ((w5.alloc (.cells #[.int .i64 (p : Int), .int .i64 (q : Int)] 27)).alloc (.cells #[] 27)) w2.heap.size 27 #[.int .i64 (sx : Int), .int .i64 (tx : Int)] from (HX5.out.alloc _).alloc _)
    have HYY := Lib.hid (show Blk ((w5.alloc (.cells #[.int .i64 (p : Int), .int .i64 (q : Int)] 27)).alloc (.cells #[] 27)) (w2.heap.size + 1) 27 #[.int .i64 (sy : Int), .int .i64 (ty : Int)] from (HY5.out.alloc _).alloc _)
    have HPP := Lib.hid (show Blk ((w5.alloc (.cells #[.int .i64 (p : Int), .int .i64 (q : Int)] 27)).alloc (.cells #[] 27)) w5.heap.size 27 #[.int .i64 (p : Int), .int .i64 (q : Int)] from (Blk.new _ _ _).alloc _)
    have HXL := Lib.hid (show w2.heap.size < w5.heap.size ∧ w2.heap.size + 1 < w5.heap.size from ⟨HX5.out.lt, HY5.out.lt⟩)
    have HWL := Lib.hid HB5.out.size
    go_wp2_with (first
      | (at_builtin; refine wpList_append_L rfl _ _ 22 rfl (w5.heap.size + 1) 27 i0 _ 2 16 Try.underlying22 hi hz0 hz1 hz2 rfl (by decide) _ _ _ rfl HOX.out y rfl (HY.out.1.below HBX.out (Nat.le_refl _)) HY.out.2.2 (fun _ => rfl) ResD.cells_one ?c3 ?c4 ?c5 ?_))
    case c3 => unfold maxLen; omega
    case c4 => omega
    case c5 => simp
    intro v6 w6 hown6 hgrow6
    try rw [Nat.zero_add, List.nil_append] at hown6
    have hb6 : Below (w5.heap.size + 1) ((w5.alloc (.cells #[.int .i64 (p : Int), .int .i64 (q : Int)] 27)).alloc (.cells #[] 27)) w6 := grown_below HOX.out hgrow6 (by simp)
    have HB6 := Lib.hid (HBX.out.trans (hb6.mono (Nat.le_trans HWL.out (Nat.le_add_right _ 1))))
    have HX6 := Lib.hid (HXX.out.below hb6 (Nat.lt_succ_of_lt HXL.out.1))
    have HY6 := Lib.hid (HYY.out.below hb6 (Nat.lt_succ_of_lt HXL.out.2))
    have HP6 := Lib.hid (HPP.out.below hb6 (Nat.lt_succ_self _))
    have HO6 := Lib.hid hown6
    have HL6 := Lib.hid (show w5.heap.size + 1 ≤ w6.heap.size from Nat.le_trans (by simp) hb6.size)
    clear hown6 hgrow6 hb6 HXX HYY HOX HBX HPP HX5 HY5
    go_wp2_with (first
      | (at_builtin; refine wpList_append_L rfl _ _ 22 rfl (w5.heap.size + 1) 27 i0 _ 2 16 Try.underlying22 hi hz0 hz1 hz2 rfl (by decide) _ _ _ rfl HO6.out x rfl (HX.out.1.below HB6.out (Nat.le_refl _)) HX.out.2.2 (fun _ => rfl) ResD.cells_one ?d3 ?d4 ?d5 ?_))
    case d3 => unfold maxLen; omega
    case d4 => omega
    case d5 => exact HL6.out
    intro v7 w7 hown7 hgrow7
    rw [← HUl.out, ← List.flatMap_append, ← HU.out] at hown7
    obtain ⟨A7, c7, rfl, _, hl7, _, _⟩ := own_list (cells := ResD.cells) (size := 2) (fun _ => rfl) hown7
    have hb7 : Below (w5.heap.size + 1) w6 w7 := grown_below HO6.out hgrow7 HL6.out
    have HB7 := Lib.hid (HB6.out.trans (hb7.mono (Nat.le_trans HWL.out (Nat.le_add_right _ 1))))
    have HX7 := Lib.hid (HX6.out.below hb7 (Nat.lt_succ_of_lt HXL.out.1))
    have HY7 := Lib.hid (HY6.out.below hb7 (Nat.lt_succ_of_lt HXL.out.2))
    have HP7 := Lib.hid (HP6.out.below hb7 (Nat.lt_succ_self _))
    have HL7 := Lib.hid hl7
    clear hown7 hgrow7 hb7 HX6 HY6 HP6 HO6 HL6 hl7
    go_wp2_with fail
    refine (sum_any ⟨u, A7, c7⟩ _ HL7.out (show u.length ≤ 1000 by have := HUl.out; omega) HUw.out).mono ?_
    rintro e w8 ⟨he, hb8⟩
    replace he : e = .returned (.agg #[.int .i64 (p : Int), .int .i64 (q : Int)]) := by rw [he, HJ'.out.2.1.1, HJ'.out.2.1.2]
    subst he
    obtain ⟨W, hW⟩ : ∃ W, W = w8.alloc (.cells #[.int .i64 (p : Int), .int .i64 (q : Int)] 27) := ⟨_, rfl⟩
    have hbW : Below w8.heap.size w8 W := by rw [hW]; exact below1 _ _
    have HQ := Lib.hid (show Blk W w8.heap.size 27 #[.int .i64 (p : Int), .int .i64 (q : Int)] by rw [hW]; exact Blk.new _ _ _)
    have HB8 := Lib.hid (below_step (below_step HB7.out hb8) hbW)
    have HX8 := Lib.hid ((HX7.out.below hb8 HX7.out.lt).below hbW (HX7.out.below hb8 HX7.out.lt).lt)
    have HY8 := Lib.hid ((HY7.out.below hb8 HY7.out.lt).below hbW (HY7.out.below hb8 HY7.out.lt).lt)
    have HP8 := Lib.hid ((HP7.out.below hb8 HP7.out.lt).below hbW (HP7.out.below hb8 HP7.out.lt).lt)
    clear hb8 hbW HX7 HY7 HP7 HL7
    have hx' : ∀ w', Below W.heap.size W w' → w'.cell? ⟨w2.heap.size, 0, none⟩ = some (.int .i64 (sx : Int)) ∧ w'.cell? ⟨w2.heap.size, 1, none⟩ = some (.int .i64 (tx : Int)) := fun w' h => ⟨below_cell h (HX8.out.cell 0), below_cell h (HX8.out.cell 1)⟩
    have hy' : ∀ w', Below W.heap.size W w' → w'.cell? ⟨w2.heap.size + 1, 0, none⟩ = some (.int .i64 (sy : Int)) ∧ w'.cell? ⟨w2.heap.size + 1, 1, none⟩ = some (.int .i64 (ty : Int)) := fun w' h => ⟨below_cell h (HY8.out.cell 0), below_cell h (HY8.out.cell 1)⟩
    have hp' : ∀ w', Below W.heap.size W w' → w'.cell? ⟨w5.heap.size, 0, none⟩ = some (.int .i64 (p : Int)) ∧ w'.cell? ⟨w5.heap.size, 1, none⟩ = some (.int .i64 (q : Int)) := fun w' h => ⟨below_cell h (HP8.out.cell 0), below_cell h (HP8.out.cell 1)⟩
    have hq' : ∀ w', Below W.heap.size W w' → w'.cell? ⟨w8.heap.size, 0, none⟩ = some (.int .i64 (p : Int)) ∧ w'.cell? ⟨w8.heap.size, 1, none⟩ = some (.int .i64 (q : Int)) := fun w' h => ⟨below_cell h (HQ.out.cell 0), below_cell h (HQ.out.cell 1)⟩
    have H0 := Lib.hid (Below.refl W.heap.size W)
    go_wp2_with fail
    rw [← hW]
    clear hW
    go_region_held3 (fun w' => Below W.heap.size W w') (first | exact H0.out | exact below_drew H0.out | (exact below_step (by assumption) (by assumption)) | (exact below_step (by assumption) (below1 _ _)) | assumption)
      (first | (go_at_call 6; refine (works_any _).mono ?_; rintro e w9 ⟨rfl, hb9⟩) | (go_at_call 7; refine (sum_any (⟨[⟨sx, tx⟩, ⟨sy, ty⟩], some ⟨_, 0, none⟩, 2⟩ : L ResD) _ (two_at (by first | exact (Blk.new _ _ _).drew | exact Blk.new _ _ _)) (show (2 : Nat) ≤ 1000 by omega) HTW.out).mono ?_; rintro e w9 ⟨he, hb9⟩; replace he : e = .returned (.agg #[.int .i64 (p : Int), .int .i64 (q : Int)]) := (by rw [he, HJ'.out.2.2.1, HJ'.out.2.2.2]); subst he))
    all_goals
      have HB9 : Hid (Below W.heap.size W _) := Lib.hid (by assumption)
      clear hx' hy' hp' hq'
      go_wp2
      go_ret
      exact ⟨rfl, below_step HB8.out HB9.out⟩
  · by_cases hx50 : x.l.length ≤ 50
    · have h1 : ¬ (50 : Int) < (x.l.length : Int) := by omega
      have h2 : (50 : Int) < (y.l.length : Int) := by omega
      go_enter Try.func4, Try.ntmps4
      go_wp2_with fail
      refine (works_any _).mono ?_
      rintro e w1 ⟨rfl, hb1⟩
      go_wp2
      go_ret
      exact ⟨rfl, hb1⟩
    · have h1 : (50 : Int) < (x.l.length : Int) := by omega
      go_enter Try.func4, Try.ntmps4
      go_wp2_with fail
      refine (works_any _).mono ?_
      rintro e w1 ⟨rfl, hb1⟩
      go_wp2
      go_ret
      exact ⟨rfl, hb1⟩
end Go.Proofs.Ytgfbikknkcaneaa

