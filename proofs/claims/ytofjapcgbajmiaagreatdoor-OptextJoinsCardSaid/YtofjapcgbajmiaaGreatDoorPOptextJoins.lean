/- The law patchbaylaw29.OptextJoins holds: for every input the call returns true, and each argument reads afterwards as it read before; the card ties the listed variables to the text. Condition: the listed variables start as the text lays them. -/
import Derived.Test.YtofjapcgbajmiaaGreatDoorRows
import Derived.WalkKit
import Derived.ProofKit
import Derived.OpenShut
import Derived.Test.YtofjapcgbajmiaaGreatDoorTie
import Derived.Test.YtofjapcgbajmiaaGreatDoorCards
import Derived.SevenTiedAt
import Derived.Test.YtofjapcgbajmiaaGreatDoorHJe
namespace Go.Proofs.YtofjapcgbajmiaaGreatDoor.optextJoins
open Go.ChangeShapes Go.WideShapes Go.ChangeAt Go.RowKit
theorem own : ownKnob Tryz.prog.godebug = none := by kernel_rfl
theorem arg_str {H : Type} {enc : TypeId × Value → H} {P : Program} {w : World} {base : Nat} {held : Bool} {t : TypeId} (ht : P.underlying t = some .string)
    {v : Value} {d : DataW H} {ps : List MemPlace} {r : Reach} {b : Nat} (hv : Value.okWide P w r b t v) (h : DataW.Trod enc P w base (fun _ => true) held t v d ps) (hw : ∀ m ∈ d.weights P t, m ≤ reachBytes) : ∃ s : ByteArray, v = .string s ∧ s.size ≤ maxLen := by
  obtain ⟨s, rfl⟩ := okWide_string ht hv
  obtain ⟨n, hn⟩ := h
  obtain ⟨s', e, hs⟩ := rd_str (N := n + 1) ht n (Nat.lt_succ_self n) _ _ hn hw
  refine ⟨s, rfl, ?_⟩
  have e' : s = s' := by simpa [Value.cells] using e
  rw [e']; exact hs
set_option maxRecDepth 100000 in
theorem lifted (os : Os) (started : os.Started) (H : Type) (enc : TypeId × Value → H) :
    ReturnsInHanded {} Tryz.checked os 6 .any (fun w args => (Rows.optextJoinsSpec.pre enc Tryz.prog Tryz.f6 Rows.optextJoinsRow.domain false w args ∧ laidMet Tryz.prog Rows.optextJoinsRow.laid w) ∧ sizedMet enc Tryz.prog Tryz.f6 (OpenSpec.ofChange Rows.optextJoinsSpec) false w args) (Rows.optextJoinsSpec.post enc Tryz.prog Tryz.f6 false true false false) := by
  refine returnsInHanded_of_calls own started (by kernel_rfl)
    (ChangeSpec.witness_at (enc := enc) (C := Tryz.checked) (os := os) (X := fun w _ => laidMet Tryz.prog Rows.optextJoinsRow.laid w) false (laidWorld os) #[.agg #[.string ⟨#[]⟩, .slice none 0 0, .slice none 0 0, .slice none 0 0, .slice none 0 0, .slice none 0 0, .slice none 0 0, .slice none 0 0, .slice none 0 0], .string ⟨#[]⟩, .string ⟨#[]⟩] 8 rfl (by kernel_rfl) (by kernel_rfl) (by kernel_rfl) (by kernel_rfl) (by kernel_rfl) (laidWorld_met os _)) ?_
  intro w tape i _ hso _ hok hpre hholds
  obtain ⟨_, _, _, fn', hfn', _, _, _, _, hvali⟩ := hok
  obtain rfl : fn' = Tryz.f6 := Option.some.inj (hfn'.symm.trans Tryz.func6)
  obtain ⟨⟨⟨ds, gs, before, hw0, hcnd⟩, hL0⟩, hz⟩ := hpre
  have hwh := DataW.Whole.of_heap (w' := w.forCall tape i) (by rfl) hw0
  have hszi := hz.weights hw0
  have hLi : laidMet Tryz.prog Rows.optextJoinsRow.laid (w.forCall tape i) := hL0.of_heap (by rfl)
  have hmain : Calls Tryz.prog 6 i.args (w.forCall tape i) fun e W' => ∃ v, e = .returned v ∧ Rows.optextJoinsSpec.post enc Tryz.prog Tryz.f6 false true false false (w.forCall tape i) i.args v W' := by
    generalize w.heap.size = base at hvali
    clear hL0 hz hw0 hholds hcnd hfn'
    generalize w.forCall tape i = W at *
    generalize i.args = args at *
    have hval0 := hvali
    have hW := hwh
    have hsz := hszi
    have hL := hLi
    clear hvali hwh hszi hLi
    have hval : ∀ (j : Nat) t v, Tryz.f6.params[j]? = some t → args[j]? = some v → Value.okWide Tryz.prog W .any base t v := hval0
    have hW' := hW
    obtain ⟨p, q, hA0, hV, rfl, hfz, hnd⟩ := hW
    have hA : DataW.TrodAll enc Tryz.prog W 0 (fun _ => true) true Tryz.f6.params.toList args.toList ds p := hA0
    obtain ⟨rfl, rfl⟩ := trodVars_none hV
    have hAk := hA
    rw [Tryz.params6] at hA hval hsz
    obtain ⟨v0, v1, v2, d0, d1, d2, p0, p1, p2, rfl, rfl, rfl, h0, h1, h2⟩ := trodAll_three hA
    have hw := List.all_eq_true.1 hsz
    obtain ⟨x0, rfl, hx0⟩ := arg_struct Tryz.underlying31 (fun N => rd_prog N) (hval 0 _ v0 rfl rfl) h0 (fun m hm => by simpa using hw m (DataW.weights_mem_each (j := 0) rfl rfl m hm))
    obtain ⟨x1, rfl, hx1⟩ := arg_str Tryz.underlying9 (hval 1 _ v1 rfl rfl) h1 (fun m hm => by simpa using hw m (DataW.weights_mem_each (j := 1) rfl rfl m hm))
    obtain ⟨x2, rfl, hx2⟩ := arg_str Tryz.underlying9 (hval 2 _ v2 rfl rfl) h2 (fun m hm => by simpa using hw m (DataW.weights_mem_each (j := 2) rfl rfl m hm))
    clear hA0 hval0
    simp only [List.append_nil] at hW' hAk
    refine (law_joins x0 x1 x2 W hx0.ok hx0.cap hx0.caps hx1 hx2 (maxLen_int hso) (tab_of_laid hL)).mono fun e W' ⟨he, hg⟩ => ?_
    subst he
    exact ⟨_, rfl, post_of_below (pv := []) hW' (fun _ _ _ => (trodAll_cons_mk (shut_bool Tryz.underlying4 _) trodAll_mk0)) (fun sp hsp => args_again (by kernel_rfl) (by kernel_rfl) (by kernel_rfl) (by rw [Tryz.params6]; decide) hAk hg sp hsp) (fun _ _ => rfl) (by simp)
      hg (ok_one (by kernel_rfl) rfl (okWide_bool_mk Tryz.underlying4 _))⟩
  exact hmain.mono fun e W' ⟨v, he, hp⟩ => by
    subst he
    exact ChangeSpec.post_blind hp
theorem over : Rows.optextJoinsRow.holds Tryz.pinned (OpenSpec.ofChange Rows.optextJoinsSpec) :=
  OpenClaim.holds_of_wide 6 Tryz.f6 rfl rfl rfl rfl rfl rfl rfl ⟨rfl, rfl, rfl, rfl, rfl⟩ rfl rfl rfl rfl rfl (by kernel_rfl) Tryz.func6 (by kernel_rfl)
    (of_decide_eq_true (by kernel_rfl)) (by unfold Func.isWrapper; first | (rw [if_pos (by decide +kernel)]; kernel_rfl) | (rw [if_neg (by decide +kernel)]; exact ⟨rfl, rfl⟩))
    (fun os started H enc _ => lifted os started H enc)
theorem proved : Rows.OptextJoinsCardSaid :=
  Claim7.holds_tied_plain_at .later [] [.data, .data, .data, .data, .pinned] true (true, "7679cfe0a1a103e27664e3f1bb5b3a8b54c4c62041ff4b789dd0d4ff123c97fd") true
    over (fun _ h => by cases h) (by kernel_rfl) (fun _ h => by cases h) optextJoins_row_tie rfl ⟨rfl, rfl⟩ (by kernel_rfl) rfl
    (fun f fn hf hfn => by
      obtain rfl : f = 6 := Option.some.inj ((show Tryz.prog.funcNamed Rows.optextJoinsRow.func = some 6 by kernel_rfl).symm.trans hf) |>.symm
      obtain rfl : fn = Tryz.f6 := (Option.some.inj (Tryz.func6.symm.trans hfn)).symm
      exact ⟨by kernel_rfl, fun j t ht => by
        rw [Tryz.params6] at ht
        exact wants_none (fun t => Tryz.prog.wantsStandIn t) (by kernel_rfl) j t ht⟩)
    (by kernel_rfl)
#print axioms proved
end Go.Proofs.YtofjapcgbajmiaaGreatDoor.optextJoins
