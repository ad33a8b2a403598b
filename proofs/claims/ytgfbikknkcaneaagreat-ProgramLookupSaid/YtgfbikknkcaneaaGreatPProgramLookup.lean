/-
  The law patchbaylaw21.ProgramLookup holds: for every input the call returns true, and each argument reads afterwards as it read before. No condition.
-/
import Derived.Test.YtgfbikknkcaneaaGreatRows
import Derived.WalkKit
import Derived.ProofKit
import Derived.OpenShut
import Derived.Test.YtgfbikknkcaneaaGreatPost
import Derived.Test.YtgfbikknkcaneaaGreatGh
namespace Go.Proofs.YtgfbikknkcaneaaGreat.programLookup
open Go.ChangeShapes Go.WideShapes Go.ChangeAt Go.RowKit
theorem own : ownKnob Tryz.prog.godebug = none := by kernel_rfl
theorem arg_str {H : Type} {enc : TypeId × Value → H} {P : Program} {w : World} {base : Nat} {held : Bool} {t : TypeId} (ht : P.underlying t = some .string)
    {v : Value} {d : DataW H} {ps : List MemPlace} {r : Reach} {b : Nat} (hv : Value.okWide P w r b t v) (h : DataW.Trod enc P w base (fun _ => true) held t v d ps) (hw : ∀ m ∈ d.weights P t, m ≤ reachBytes) : ∃ s : ByteArray, v = .string s ∧ s.size ≤ maxLen := by
  obtain ⟨s, rfl⟩ := okWide_string ht hv
  obtain ⟨n, hn⟩ := h
  obtain ⟨s', e, hs⟩ := rd_str (N := n + 1) ht n (Nat.lt_succ_self n) _ _ hn hw
  refine ⟨s, rfl, ?_⟩
  have e' : s = s' := by simpa [Value.cells] using e
  rw [e']; exact hs
set_option maxRecDepth 100000 in
theorem lifted (os : Os) (started : os.Started) (H : Type) (enc : TypeId × Value → H) :
    ReturnsInHanded {} Tryz.checked os 7 .any (Rows.programLookupSpec.pre6 enc Tryz.prog Tryz.f7 Rows.programLookupRow.domain false) (Rows.programLookupSpec.post enc Tryz.prog Tryz.f7 false true false false) := by
  refine returnsInHanded_of_change_sized (C := Tryz.checked) own started (by kernel_rfl) Tryz.func7
    (ChangeSpec.witness6 (enc := enc) (C := Tryz.checked) false ⟨#[], #[.agg #[.string ⟨#[]⟩, .slice none 0 0, .slice none 0 0, .slice none 0 0, .slice none 0 0, .slice none 0 0, .slice none 0 0, .slice none 0 0, .slice none 0 0], .int .i64 0, .string ⟨#[]⟩], []⟩ 8 (by kernel_rfl) (by kernel_rfl) (by kernel_rfl) (by kernel_rfl)) ?_
  intro W base args ds gs before hval0 hW hcnd hsz _
  have hval : ∀ (j : Nat) t v, Tryz.f7.params[j]? = some t → args[j]? = some v → Value.okWide Tryz.prog W .any base t v := hval0
  have hW' := hW
  obtain ⟨p, q, hA0, hV, rfl, hfz, hnd⟩ := hW
  have hA : DataW.TrodAll enc Tryz.prog W 0 (fun _ => true) true Tryz.f7.params.toList args.toList ds p := hA0
  obtain ⟨rfl, rfl⟩ := trodVars_none hV
  have hAk := hA
  rw [Tryz.params7] at hA hval hsz
  obtain ⟨v0, v1, v2, d0, d1, d2, p0, p1, p2, rfl, rfl, rfl, h0, h1, h2⟩ := trodAll_three hA
  have hw := List.all_eq_true.1 hsz
  obtain ⟨x0, rfl, hx0⟩ := arg_struct Tryz.underlying31 (fun N => rd_prog N) (hval 0 _ v0 rfl rfl) h0 (fun m hm => by simpa using hw m (DataW.weights_mem_each (j := 0) rfl rfl m hm))
  obtain ⟨x1, rfl⟩ := okWide_int Tryz.underlying3 (hval 1 _ v1 rfl rfl)
  obtain ⟨x2, rfl, hx2⟩ := arg_str Tryz.underlying9 (hval 2 _ v2 rfl rfl) h2 (fun m hm => by simpa using hw m (DataW.weights_mem_each (j := 2) rfl rfl m hm))
  clear hA0 hval0
  simp only [List.append_nil] at hW' hAk
  refine (law_lookup x0 x1 x2 W hx0 hx2).mono fun e W' ⟨he, hg⟩ => ?_
  subst he
  exact ⟨_, rfl, post_of_below (pv := []) hW' (fun _ _ _ => (trodAll_cons_mk (shut_bool Tryz.underlying4 _) trodAll_mk0)) (fun sp hsp => args_again (by kernel_rfl) (by kernel_rfl) (by kernel_rfl) (by rw [Tryz.params7]; decide) hAk hg sp hsp) (fun _ _ => rfl) (by simp)
    hg (ok_one (by kernel_rfl) rfl (okWide_bool_mk Tryz.underlying4 _))⟩
theorem over : Rows.programLookupRow.holds Tryz.pinned (OpenSpec.ofChange Rows.programLookupSpec) :=
  OpenClaim.holds_of_wide 7 Tryz.f7 rfl rfl rfl rfl rfl rfl rfl ⟨rfl, rfl, rfl, rfl, rfl⟩ rfl rfl rfl rfl rfl (by kernel_rfl) Tryz.func7 (by kernel_rfl)
    (of_decide_eq_true (by kernel_rfl)) (by unfold Func.isWrapper; first | (rw [if_pos (by decide +kernel)]; kernel_rfl) | (rw [if_neg (by decide +kernel)]; exact ⟨rfl, rfl⟩))
    (fun os started H enc _ => lifted os started H enc)
/-- the statement -/
theorem proved : Rows.ProgramLookupSaid :=
  over
#print axioms proved
end Go.Proofs.YtgfbikknkcaneaaGreat.programLookup

