/- The law patchbaylaw36.PhvStores holds: for every input the call returns true, and each argument reads afterwards as it read before. No condition. -/
import Derived.Test.YtbfjknidinkafaaGreatSh
import Derived.Test.YtbfjknidinkafaaGreatSi
import Derived.Test.YtbfjknidinkafaaGreatRows
import Derived.WalkKit
import Derived.ProofKit
import Derived.OpenShut
import Derived.Test.YtbfjknidinkafaaGreatPost
namespace Go.Proofs.YtbfjknidinkafaaGreat
open Go.RowKit
set_option maxRecDepth 100000
set_option maxHeartbeats 16000000
def IsB (r : Ending) : Prop := ∃ b, r = .returned (.bool b)
theorem IsB.mk (b : Bool) : IsB (.returned (.bool b)) := ⟨b, rfl⟩
theorem smallCon_any (c : ConD) (w : World) : Calls Tryz.prog 26 #[.agg (rconCells c)] w fun r w' => IsB r ∧ Below w.heap.size w w' := by
  obtain ⟨W, hW, hw, HB, hp⟩ := box1 w (rconCells c) 62
  have HW := hi_ hw
  have hp3 := hp W HB
  clear hw hp
  by_cases h1 : (c.c8.l.length : Int) ≤ 100
  case neg =>
    go_enter Tryz.func26, Tryz.ntmps26
    go_upto_region 1 with fail
    rw [← hW]
    clear hW
    go_wp2
    go_ret
    exact ⟨IsB.mk _, below_step HW.out HB⟩
  by_cases h2 : (c.c16.l.length : Int) ≤ 100
  case neg =>
    go_enter Tryz.func26, Tryz.ntmps26
    go_upto_region 1 with fail
    rw [← hW]
    clear hW
    go_wp2
    go_ret
    exact ⟨IsB.mk _, below_step HW.out HB⟩
  go_enter Tryz.func26, Tryz.ntmps26
  go_upto_region 1 with fail
  rw [← hW]
  clear hW
  go_wp2
  go_ret
  exact ⟨IsB.mk _, below_step HW.out HB⟩
theorem three_ok (w : World) (t : TypeId) : ∀ u, Below (w.alloc (.cells #[.int .u8 1, .int .u8 2, .int .u8 3] t)).heap.size (w.alloc (.cells #[.int .u8 1, .int .u8 2, .int .u8 3] t)) u → LOkN u 1 ycell ⟨[1, 2, 3], some ⟨w.heap.size, 0, none⟩, 3⟩ := fun u hb => by
  have hk := (Blk.new w t #[.int .u8 1, .int .u8 2, .int .u8 3]).below hb (Blk.new w t #[.int .u8 1, .int .u8 2, .int .u8 3]).lt
  refine ⟨⟨by show 3 ≤ maxLen; unfold maxLen; decide, .inr ⟨w.heap.size, 0, rfl, hk.lt, fun i hi j hj => ?_⟩⟩, fun h => by cases h⟩
  obtain rfl : j = 0 := by omega
  match i, hi with
  | 0, _ => exact hk.cell 0
  | 1, _ => exact hk.cell 1
  | 2, _ => exact hk.cell 2
theorem phvStores_any (p : ProgD) (x : L SlotD) (c : ConD) (w : World) (h : ProgGood w p) (hx : LOk w 4 SlotD.cells x) (hc : ConGood w c) :
    Calls Tryz.prog 7 #[.agg (progCells p), .slice x.A x.l.length x.c, .agg (rconCells c)] w fun e w' => e = .returned (.bool true) ∧ Below w.heap.size w w' := by
  have o := h.ok
  have hle := h.headers.le
  have hcl : ConLOk w c := ⟨⟨hc.c8.lok, hc.c8.nil⟩, ⟨hc.c16.lok, hc.c16.nil⟩, ⟨hc.c32.lok, hc.c32.nil⟩⟩
  have hcu : ConU c := fun z v hv => by
    have e1 : IntKind.u32.min = 0 := rfl
    have e2 : IntKind.u32.max = 4294967295 := rfl
    have hw : UOk v := by
      unfold conL at hv
      split at hv
      · exact hc.c8.all v hv
      · split at hv
        · exact hc.c16.all v hv
        · exact hc.c32.all v hv
    simp only [UOk, Lit.wf, Bool.and_eq_true, decide_eq_true_eq] at hw
    omega
  obtain ⟨W, hW, hw, HB, hp⟩ := box2 w (progCells p) 31 (rconCells c) 62
  have HW := hi_ hw
  have HS := hi_ (fun u (hb : Below W.heap.size W u) => small36_any p u (o.below (below_step hw hb)))
  have HL1 := hi_ (fun (hs : Sm36 p) (hl : x.l.length ≤ 1000) (pl : L Int) (hpl : pl.l.length ≤ 1000) u (hb : Below W.heap.size W u) (ho : LOkN u 1 ycell pl) =>
    pstore_any p x c pl u (o.below (below_step hw hb)) (hs.acc hle) (hx.below (below_step hw hb) (Nat.le_refl _)) hl (hcl.below (below_step hw hb)) ho hpl)
  have HL2 := hi_ (fun (hs : Sm36 p) (hl : x.l.length ≤ 1000) (pl : L Int) (hpl : pl.l.length ≤ 1000) u (hb : Below W.heap.size W u) (ho : LOkN u 1 ycell pl) =>
    rstore_any p x c pl u (o.below (below_step hw hb)) (hs.acc hle) (hx.below (below_step hw hb) (Nat.le_refl _)) hl (hcl.below (below_step hw hb)) hcu ho hpl)
  clear o hle hw h hx hc hcl hcu
  generalize storeM p x.l c.bare = SM at *
  generalize bitsOutM p x.l c.bare = BM at *
  go_enter Tryz.func7, Tryz.ntmps7
  go_upto_region 1 with fail
  rw [← hW]
  clear hW
  have hp3 := hp W HB
  go_wp2_with fail
  refine (HS.out _ HB).mono ?_
  rintro e w1 ⟨⟨b, rfl, hb⟩, hb1⟩
  have HB1 := hi_ (below_step HB hb1)
  clear hp3 HB hb1
  have hp3 := hp w1 HB1.out
  cases b with
  | false =>
    go_wp2_with fail
    refine (works36_any _).mono ?_
    rintro e w2 ⟨rfl, hb2⟩
    go_wp2
    go_ret
    exact ⟨rfl, below_step HW.out (below_step HB1.out hb2)⟩
  | true =>
  have HY := hi_ (hb rfl)
  clear hb
  by_cases h80 : (80 : Int) < (x.l.length : Int)
  case pos =>
    go_wp2_with fail
    refine (works36_any _).mono ?_
    rintro e w2 ⟨rfl, hb2⟩
    go_wp2
    go_ret
    exact ⟨rfl, below_step HW.out (below_step HB1.out hb2)⟩
  have HLn : Hid (x.l.length ≤ 1000) := hi_ (by omega)
  go_wp2_with fail
  refine (smallCon_any c _).mono ?_
  rintro e w2 ⟨⟨b, rfl⟩, hb2⟩
  have HB2 := hi_ (below_step HB1.out hb2)
  clear hp3 hb2
  have hp3 := hp w2 HB2.out
  cases b with
  | false =>
    go_wp2_with fail
    refine (works36_any _).mono ?_
    rintro e w3 ⟨rfl, hb3⟩
    go_wp2
    go_ret
    exact ⟨rfl, below_step HW.out (below_step HB2.out hb3)⟩
  | true =>
  obtain ⟨V, hV⟩ : ∃ V, V = w2.alloc (.cells #[.int .u8 1, .int .u8 2, .int .u8 3] 5) := ⟨_, rfl⟩
  have HBV : Hid (Below W.heap.size W V) := hi_ (by rw [hV]; exact below_step HB2.out (below1 _ _))
  have HPl : Hid (∀ u, Below V.heap.size V u → LOkN u 1 ycell ⟨[1, 2, 3], some ⟨w2.heap.size, 0, none⟩, 3⟩) := hi_ (by rw [hV]; exact three_ok w2 _)
  go_upto_region 4 with fail
  rw [← hV]
  clear hV hp3
  have hp3 := hp V HBV.out
  go_wp2_with fail
  refine (HL1.out HY.out HLn.out ⟨[1, 2, 3], some ⟨w2.heap.size, 0, none⟩, 3⟩ (by simp) V HBV.out (HPl.out V (Below.refl _ _))).mono ?_
  rintro r w3 ⟨e1, b1, rfl, he1, hb1, ho1, hl1, hB3⟩
  refine Exists.elim (⟨_, rfl⟩ : ∃ V3, V3 = w3.alloc (.cells #[.slice e1.valid.A e1.valid.l.length e1.valid.c, .slice e1.fields.A e1.fields.l.length e1.fields.c, .slice e1.metaV.A e1.metaV.l.length e1.metaV.c, .slice e1.payload.A e1.payload.l.length e1.payload.c] 56)) fun V3 hV3 => ?_
  have HK1 : Hid (Blk V3 w3.heap.size 56 (envCells e1)) := hi_ (by rw [hV3]; exact Blk.new _ _ _)
  have HE1 : Hid (EnvHas V3 V.heap.size e1) := hi_ (by rw [hV3]; exact ho1.below (below1 _ _))
  have HO1 : Hid (OwnL V3 V.heap.size 4 bcell b1) := hi_ (by rw [hV3]; exact hl1.below (below1 _ _))
  have HBV3 : Hid (Below V.heap.size V V3) := hi_ (by rw [hV3]; exact below_step hB3 (below1 _ _))
  have HBe1 := hi_ he1
  have HBb1 := hi_ hb1
  clear he1 hb1 ho1 hl1 hB3 hp3
  go_upto_region 5 with fail
  rw [← hV3]
  clear hV3
  have HBW3 := hi_ (below_step HBV.out HBV3.out)
  have hp3 := hp V3 HBW3.out
  go_wp2_with fail
  refine (HL2.out HY.out HLn.out ⟨[1, 2, 3], some ⟨w2.heap.size, 0, none⟩, 3⟩ (by simp) V3 HBW3.out (HPl.out V3 HBV3.out)).mono ?_
  rintro r w4 ⟨e2, b2, rfl, he2, hb2, ho2, hl2, hB4⟩
  refine Exists.elim (⟨_, rfl⟩ : ∃ V4, V4 = w4.alloc (.cells #[.slice e2.valid.A e2.valid.l.length e2.valid.c, .slice e2.fields.A e2.fields.l.length e2.fields.c, .slice e2.metaV.A e2.metaV.l.length e2.metaV.c, .slice e2.payload.A e2.payload.l.length e2.payload.c] 56)) fun V4 hV4 => ?_
  have HK2 : Hid (Blk V4 w4.heap.size 56 (envCells e2)) := hi_ (by rw [hV4]; exact Blk.new _ _ _)
  have HE2 : Hid (EnvHas V4 V3.heap.size e2) := hi_ (by rw [hV4]; exact ho2.below (below1 _ _))
  have HO2 : Hid (OwnL V4 V3.heap.size 4 bcell b2) := hi_ (by rw [hV4]; exact hl2.below (below1 _ _))
  have HB34 : Hid (Below V3.heap.size V3 V4) := hi_ (by rw [hV4]; exact below_step hB4 (below1 _ _))
  have HBe : Hid (e1.bare = e2.bare) := hi_ (HBe1.out.trans he2.symm)
  have HBb : Hid (b1.l = b2.l) := hi_ (HBb1.out.trans hb2.symm)
  have HK1' := hi_ (HK1.out.below HB34.out HK1.out.lt)
  clear he2 hb2 ho2 hl2 hB4 hp3 HK1 HBe1 HBb1
  go_upto_region 6 with fail
  rw [← hV4]
  clear hV4
  have k0 : V4.cell? ⟨w3.heap.size, 0, none⟩ = some (.slice e1.valid.A e1.valid.l.length e1.valid.c) := HK1'.out.cell 0
  have k1 : V4.cell? ⟨w3.heap.size, 1, none⟩ = some (.slice e1.fields.A e1.fields.l.length e1.fields.c) := HK1'.out.cell 1
  have k2 : V4.cell? ⟨w3.heap.size, 2, none⟩ = some (.slice e1.metaV.A e1.metaV.l.length e1.metaV.c) := HK1'.out.cell 2
  have k3 : V4.cell? ⟨w3.heap.size, 3, none⟩ = some (.slice e1.payload.A e1.payload.l.length e1.payload.c) := HK1'.out.cell 3
  have m0 : V4.cell? ⟨w4.heap.size, 0, none⟩ = some (.slice e2.valid.A e2.valid.l.length e2.valid.c) := HK2.out.cell 0
  have m1 : V4.cell? ⟨w4.heap.size, 1, none⟩ = some (.slice e2.fields.A e2.fields.l.length e2.fields.c) := HK2.out.cell 1
  have m2 : V4.cell? ⟨w4.heap.size, 2, none⟩ = some (.slice e2.metaV.A e2.metaV.l.length e2.metaV.c) := HK2.out.cell 2
  have m3 : V4.cell? ⟨w4.heap.size, 3, none⟩ = some (.slice e2.payload.A e2.payload.l.length e2.payload.c) := HK2.out.cell 3
  have HEe := hi_ (envEqual_any e1 e2 V4 ((HE1.out.below HB34.out).ok) HE2.out.ok HBe.out)
  have HEb : Hid (∀ u, Below V4.heap.size V4 u → Calls Tryz.prog 30 #[.slice b1.A b1.l.length b1.c, .slice b2.A b2.l.length b2.c] u fun e w' => e = .returned (.bool true) ∧ Below u.heap.size u w') := hi_ (fun u hu =>
    (equal_bits b1 b2 u (((HO1.out.below HB34.out).below hu).ok (fun _ => rfl)).1 ((HO2.out.below hu).ok (fun _ => rfl)).1).mono fun _ _ hh => ⟨says_true hh.1 HBb.out, hh.2⟩)
  have HBW4 := hi_ (below_step HBW3.out HB34.out)
  go_wp2_with fail
  refine HEe.out.mono ?_
  rintro r w5 ⟨rfl, hb5⟩
  have HB5 := hi_ hb5
  clear hb5 k0 k1 k2 k3 m0 m1 m2 m3
  go_wp2_with fail
  refine (HEb.out _ HB5.out).mono ?_
  rintro r w6 ⟨rfl, hb6⟩
  have HB6 := hi_ (below_step HB5.out hb6)
  clear hb6
  go_wp2_with fail
  refine (works36_any _).mono ?_
  rintro e w7 ⟨rfl, hb7⟩
  go_wp2
  go_ret
  exact ⟨rfl, below_step HW.out (below_step HBW4.out (below_step HB6.out hb7))⟩
end Go.Proofs.YtbfjknidinkafaaGreat
namespace Go.Proofs.YtbfjknidinkafaaGreat.phvStores
open Go.ChangeShapes Go.WideShapes Go.ChangeAt Go.RowKit
set_option maxRecDepth 100000
set_option maxHeartbeats 16000000
theorem own : ownKnob Tryz.prog.godebug = none := by kernel_rfl
theorem lifted (os : Os) (started : os.Started) (H : Type) (enc : TypeId × Value → H) :
    ReturnsInHanded {} Tryz.checked os 7 .any (Rows.phvStoresSpec.pre6 enc Tryz.prog Tryz.f7 Rows.phvStoresRow.domain false) (Rows.phvStoresSpec.post enc Tryz.prog Tryz.f7 false true false false) := by
  refine returnsInHanded_of_change_sized (C := Tryz.checked) own started (by kernel_rfl) Tryz.func7
    (ChangeSpec.witness6 (enc := enc) (C := Tryz.checked) false ⟨#[], #[.agg #[.string ⟨#[]⟩, .slice none 0 0, .slice none 0 0, .slice none 0 0, .slice none 0 0, .slice none 0 0, .slice none 0 0, .slice none 0 0, .slice none 0 0], .slice none 0 0, .agg #[.slice none 0 0, .slice none 0 0, .slice none 0 0]], []⟩ 8 (by kernel_rfl) (by kernel_rfl) (by kernel_rfl) (by kernel_rfl)) ?_
  intro W base args ds gs before hval0 hW hcnd hsz _
  have hval : ∀ (j : Nat) t v, Tryz.f7.params[j]? = some t → args[j]? = some v → Value.okWide Tryz.prog W .any base t v := hval0
  have hW' := hW
  obtain ⟨p, q, hA0, hV, rfl, hfz, hnd⟩ := hW
  have hA : DataW.TrodAll enc Tryz.prog W 0 (fun _ => true) true Tryz.f7.params.toList args.toList ds p := hA0
  obtain ⟨rfl, rfl⟩ := trodVars_none hV
  have hAk := hA
  rw [Tryz.params7] at hA hval hsz
  obtain ⟨v0, v1, v2, d0, d1, d2, p0, p1, p2, rfl, rfl, rfl, h0, h1, h2⟩ := trodAll_three hA
  have hw := List.all_eq_true.1 hsz
  obtain ⟨x0, rfl, hx0⟩ := arg_struct Tryz.underlying31 (fun N => rd_prog N) (hval 0 _ v0 rfl rfl) h0 (fun m hm => by simpa using hw m (DataW.weights_mem_each (j := 0) rfl rfl m hm))
  obtain ⟨x1, rfl, hx1⟩ := arg_list Tryz.underlying36 (fun N => rd_slots N) (hval 1 _ v1 rfl rfl) h1 (fun m hm => by simpa using hw m (DataW.weights_mem_each (j := 1) rfl rfl m hm))
  obtain ⟨x2, rfl, hx2⟩ := arg_struct Tryz.underlying62 (fun N => rd_con N) (hval 2 _ v2 rfl rfl) h2 (fun m hm => by simpa using hw m (DataW.weights_mem_each (j := 2) rfl rfl m hm))
  clear hA0 hval0
  simp only [List.append_nil] at hW' hAk
  refine (phvStores_any x0 x1 x2 W hx0 hx1.lok hx2).mono fun e W' ⟨he, hg⟩ => ?_
  subst he
  exact ⟨_, rfl, post_of_below (pv := []) hW' (fun _ _ _ => (trodAll_cons_mk (shut_bool Tryz.underlying4 _) trodAll_mk0)) (fun sp hsp => args_again (by kernel_rfl) (by kernel_rfl) (by kernel_rfl) (by rw [Tryz.params7]; decide) hAk hg sp hsp) (fun _ _ => rfl) (by simp)
    hg (ok_one (by kernel_rfl) rfl (okWide_bool_mk Tryz.underlying4 _))⟩
theorem over : Rows.phvStoresRow.holds Tryz.pinned (OpenSpec.ofChange Rows.phvStoresSpec) :=
  OpenClaim.holds_of_wide 7 Tryz.f7 rfl rfl rfl rfl rfl rfl rfl ⟨rfl, rfl, rfl, rfl, rfl⟩ rfl rfl rfl rfl rfl (by kernel_rfl) Tryz.func7 (by kernel_rfl)
    (of_decide_eq_true (by kernel_rfl)) (by unfold Func.isWrapper; first | (rw [if_pos (by decide +kernel)]; kernel_rfl) | (rw [if_neg (by decide +kernel)]; exact ⟨rfl, rfl⟩))
    (fun os started H enc _ => lifted os started H enc)
theorem proved : Rows.PhvStoresSaid :=
  over
#print axioms proved
end Go.Proofs.YtbfjknidinkafaaGreat.phvStores
