/- The law patchbaylaw29.OptextFormats holds: for every input the call returns true, and each argument reads afterwards as it read before; the card ties the listed variables to the text. Condition: the listed variables start as the text lays them. -/
import Derived.Test.YtofjapcgbajmiaaGreatDoorRows
import Derived.WalkKit
import Derived.ProofKit
import Derived.OpenShut
import Derived.Test.YtofjapcgbajmiaaGreatDoorTie
import Derived.Test.YtofjapcgbajmiaaGreatDoorCards
import Derived.SevenTiedAt
import Derived.Test.YtofjapcgbajmiaaGreatDoorKFf
import Derived.Test.YtofjapcgbajmiaaGreatDoorClOptextFormats
namespace Go.Proofs.YtofjapcgbajmiaaGreatDoor.optextFormats
open Go.ChangeShapes Go.WideShapes Go.ChangeAt Go.RowKit
theorem own : ownKnob Tryz.prog.godebug = none := by kernel_rfl
set_option maxRecDepth 100000 in
theorem lifted (os : Os) (started : os.Started) (H : Type) (enc : TypeId × Value → H) :
    ReturnsInHanded {} Tryz.checked os 3 .any (fun w args => (Rows.optextFormatsSpec.pre enc Tryz.prog Tryz.f3 Rows.optextFormatsRow.domain false w args ∧ laidMet Tryz.prog Rows.optextFormatsRow.laid w) ∧ sizedMet enc Tryz.prog Tryz.f3 (OpenSpec.ofChange Rows.optextFormatsSpec) false w args) (Rows.optextFormatsSpec.post enc Tryz.prog Tryz.f3 false true false false) := by
  refine returnsInHanded_of_calls own started (by kernel_rfl)
    (ChangeSpec.witness_at (enc := enc) (C := Tryz.checked) (os := os) (X := fun w _ => laidMet Tryz.prog Rows.optextFormatsRow.laid w) false (laidWorld os) #[.agg #[.string ⟨#[]⟩, .slice none 0 0, .slice none 0 0, .slice none 0 0, .slice none 0 0, .slice none 0 0, .slice none 0 0, .slice none 0 0, .slice none 0 0], .agg #[.int .i64 0, .int .i64 0, .int .i64 0, .slice none 0 0, .int .i64 0, .int .i64 0, .slice none 0 0, .int .i64 0, .slice none 0 0]] 8 rfl (by kernel_rfl) (by kernel_rfl) (by kernel_rfl) (by kernel_rfl) (by kernel_rfl) (laidWorld_met os _)) ?_
  intro w tape i _ hso _ hok hpre hholds
  obtain ⟨_, _, _, fn', hfn', _, _, _, _, hvali⟩ := hok
  obtain rfl : fn' = Tryz.f3 := Option.some.inj (hfn'.symm.trans Tryz.func3)
  obtain ⟨⟨⟨ds, gs, before, hw0, hcnd⟩, hL0⟩, hz⟩ := hpre
  have hwh := DataW.Whole.of_heap (w' := w.forCall tape i) (by rfl) hw0
  have hszi := hz.weights hw0
  have hLi : laidMet Tryz.prog Rows.optextFormatsRow.laid (w.forCall tape i) := hL0.of_heap (by rfl)
  have hmain : Calls Tryz.prog 3 i.args (w.forCall tape i) fun e W' => ∃ v, e = .returned v ∧ Rows.optextFormatsSpec.post enc Tryz.prog Tryz.f3 false true false false (w.forCall tape i) i.args v W' := by
    generalize w.heap.size = base at hvali
    clear hL0 hz hw0 hholds hcnd hfn'
    generalize w.forCall tape i = W at *
    generalize i.args = args at *
    have hval0 := hvali
    have hW := hwh
    have hsz := hszi
    have hL := hLi
    clear hvali hwh hszi hLi
    have hval : ∀ (j : Nat) t v, Tryz.f3.params[j]? = some t → args[j]? = some v → Value.okWide Tryz.prog W .any base t v := hval0
    have hW' := hW
    obtain ⟨p, q, hA0, hV, rfl, hfz, hnd⟩ := hW
    have hA : DataW.TrodAll enc Tryz.prog W 0 (fun _ => true) true Tryz.f3.params.toList args.toList ds p := hA0
    obtain ⟨rfl, rfl⟩ := trodVars_none hV
    have hAk := hA
    rw [Tryz.params3] at hA hval hsz
    obtain ⟨v0, v1, d0, d1, p0, p1, rfl, rfl, rfl, h0, h1⟩ := trodAll_two hA
    have hw := List.all_eq_true.1 hsz
    obtain ⟨x0, rfl, hx0⟩ := arg_struct Tryz.underlying31 (fun N => rd_prog N) (hval 0 _ v0 rfl rfl) h0 (fun m hm => by simpa using hw m (DataW.weights_mem_each (j := 0) rfl rfl m hm))
    obtain ⟨x1, rfl, hx1⟩ := arg_struct Tryz.underlying39 (fun N => rd_op N) (hval 1 _ v1 rfl rfl) h1 (fun m hm => by simpa using hw m (DataW.weights_mem_each (j := 1) rfl rfl m hm))
    clear hA0 hval0
    simp only [List.append_nil] at hW' hAk
    refine (law_formats x0 x1 W hx0.ok hx0.cap hx0.caps hx1.ok hx1.fine (maxLen_int hso) (tab_of_laid hL)).mono fun e W' ⟨he, hg⟩ => ?_
    subst he
    exact ⟨_, rfl, post_of_below (pv := []) hW' (fun _ _ _ => (trodAll_cons_mk (shut_bool Tryz.underlying4 _) trodAll_mk0)) (fun sp hsp => args_again (by kernel_rfl) (by kernel_rfl) (by kernel_rfl) (by rw [Tryz.params3]; decide) hAk hg sp hsp) (fun _ _ => rfl) (by simp)
      hg (ok_one (by kernel_rfl) rfl (okWide_bool_mk Tryz.underlying4 _))⟩
  exact hmain.mono fun e W' ⟨v, he, hp⟩ => by
    subst he
    exact ChangeSpec.post_blind hp
theorem over : Rows.optextFormatsRow.holds Tryz.pinned (OpenSpec.ofChange Rows.optextFormatsSpec) :=
  OpenClaim.holds_of_wide 3 Tryz.f3 rfl rfl rfl rfl rfl rfl rfl ⟨rfl, rfl, rfl, rfl, rfl⟩ rfl rfl rfl rfl rfl (by kernel_rfl) Tryz.func3 closed
    (of_decide_eq_true (by kernel_rfl)) (by unfold Func.isWrapper; first | (rw [if_pos (by decide +kernel)]; kernel_rfl) | (rw [if_neg (by decide +kernel)]; exact ⟨rfl, rfl⟩))
    (fun os started H enc _ => lifted os started H enc)
theorem proved : Rows.OptextFormatsCardSaid :=
  Claim7.holds_tied_plain_at .later [] [.data, .data, .data, .data, .pinned] true (true, "7679cfe0a1a103e27664e3f1bb5b3a8b54c4c62041ff4b789dd0d4ff123c97fd") true
    over (fun _ h => by cases h) (by kernel_rfl) (fun _ h => by cases h) optextFormats_row_tie rfl ⟨rfl, rfl⟩ (by kernel_rfl) rfl
    (fun f fn hf hfn => by
      obtain rfl : f = 3 := Option.some.inj ((show Tryz.prog.funcNamed Rows.optextFormatsRow.func = some 3 by kernel_rfl).symm.trans hf) |>.symm
      obtain rfl : fn = Tryz.f3 := (Option.some.inj (Tryz.func3.symm.trans hfn)).symm
      exact ⟨by kernel_rfl, fun j t ht => by
        rw [Tryz.params3] at ht
        exact wants_none (fun t => Tryz.prog.wantsStandIn t) (by kernel_rfl) j t ht⟩)
    (by kernel_rfl)
#print axioms proved
end Go.Proofs.YtofjapcgbajmiaaGreatDoor.optextFormats
