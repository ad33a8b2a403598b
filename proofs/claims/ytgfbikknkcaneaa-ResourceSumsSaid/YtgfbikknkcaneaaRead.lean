/- Arguments of any type, read from memory as lists and structs, and read again in a later world. -/
import Derived.Test.YtgfbikknkcaneaaRep
import Derived.ChangeArms
import Derived.ReadAgain
import Derived.ChangeOld
import Derived.WideShapes
import Derived.Below
import Derived.ChangeSame
import Derived.SizedLaws
namespace Go.Proofs.Ytgfbikknkcaneaa
open Go.RowKit Go.WideShapes Go.ChangeShapes

theorem list_of {α : Type} {Q : Nat → α → Prop} (n : Nat) (h : ∀ i, i < n → ∃ d, Q i d) : ∃ l : List α, l.length = n ∧ ∀ i (hi : i < l.length), Q i l[i] := by
  refine ⟨List.ofFn (fun i : Fin n => Classical.choose (h i.1 i.2)), by simp, fun i hi => ?_⟩
  rw [List.getElem_ofFn]
  exact Classical.choose_spec (h i (by simpa using hi))

theorem cut_get {cs ys : List Value} {o k : Nat} (h : (cs.drop o).take k = ys) : ∀ j, j < ys.length → cs[o + j]? = ys[j]? := by
  intro j hj
  have hk : j < k := by
    have := congrArg List.length h
    simp at this
    omega
  rw [← h, List.getElem?_take_of_lt hk, List.getElem?_drop]

section
variable {H : Type} (enc : TypeId × Value → H) (P : Program) (w : World) (base : Nat) (held : Bool)

/-- what a reading of less than N steps takes at the type t are the cells of one of our data -/
def RdB (N : Nat) (t : TypeId) {α : Type} (cells : α → List Value) (Ok : α → Prop) : Prop :=
  ∀ m, m < N → ∀ (cs : List Value) (x : DataW H × List MemPlace), DataW.trod enc P w base (fun _ => true) held m t cs = some x → (∀ n ∈ x.1.weights P t, n ≤ reachBytes) → ∃ d : α, cs = cells d ∧ Ok d
end
section
variable {H : Type} {enc : TypeId × Value → H} {P : Program} {w : World} {base : Nat} {held : Bool} {N : Nat}

theorem RdB.mono {t : TypeId} {α : Type} {cells : α → List Value} {Ok : α → Prop} {M : Nat} (h : RdB enc P w base held N t cells Ok) (hM : M ≤ N) : RdB enc P w base held M t cells Ok :=
  fun m hm cs x hx => h m (by omega) cs x hx
theorem rd_int {t : TypeId} {k : IntKind} (ht : P.underlying t = some (.int k)) : RdB enc P w base held N t (fun z : Int => [.int k z]) (fun z => (Lit.int k z).wf = true) := by
  intro m _ cs x h _
  obtain ⟨n, e, _, hw⟩ := DataW.trod_int ht h
  exact ⟨n, e, hw⟩
theorem rd_str {t : TypeId} (ht : P.underlying t = some .string) : RdB enc P w base held N t (fun s : ByteArray => [.string s]) (fun s => s.size ≤ maxLen) := by
  intro m _ cs x h _
  obtain ⟨s, e, _, hw⟩ := DataW.trod_string ht h
  exact ⟨s, e, hw⟩
theorem rd_bool {t : TypeId} (ht : P.underlying t = some .bool) : RdB enc P w base held N t (fun b : Bool => [.bool b]) (fun _ => True) := by
  intro m _ cs x h _
  obtain ⟨b, e, _⟩ := DataW.trod_bool ht h
  exact ⟨b, e, trivial⟩

theorem mem_weightsAll {e : TypeId} {d : DataW H} : ∀ {l : List (DataW H)}, d ∈ l → ∀ {n : Nat}, n ∈ d.weights P e → n ∈ DataW.weightsAll P e l
  | x :: l, hd, n, hn => by
    simp only [DataW.weightsAll, List.mem_append]
    rcases List.mem_cons.1 hd with rfl | h
    · exact .inl hn
    · exact .inr (mem_weightsAll h hn)

/-- what is known of a list read -/
structure ListOk (w : World) (k kb : Nat) {α : Type} (cells : α → List Value) (Ok : α → Prop) (y : L α) : Prop where
  lok : LOk w k cells y
  all : ∀ d ∈ y.l, Ok d
  nil : y.A = none → y.c = 0
  le : y.l.length ≤ y.c
  cap : y.c ≤ maxLen
  bytes : y.c * kb ≤ reachBytes

theorem rd_list {t e : TypeId} {k kb : Nat} {α : Type} {cells : α → List Value} {Ok : α → Prop} (ht : P.underlying t = some (.slice e)) (he : P.cellsOf e = k) (hbe : P.bytesOf e = kb) (hk0 : 0 < k) (hk : ∀ d, (cells d).length = k)
    (hR : RdB enc P w base held N e cells Ok) : RdB enc P w base held (N + 1) t (fun y : L α => [y.v]) (ListOk w k kb cells Ok) := by
  intro m hm cs x h hw
  rcases DataW.trod_slice ht h with ⟨rfl, _⟩ | ⟨a, len, cap, elems, rest, n, e1, rfl, hx, _, hlc, hcm, hel, hget, hrest, _⟩
  · exact ⟨⟨[], none, 0⟩, rfl, ⟨⟨by simp, .inl rfl⟩, fun d hd => (by cases hd), fun _ => rfl, Nat.le_refl _, Nat.zero_le _, by simp⟩⟩
  · rw [he] at hget
    subst hx
    simp only [DataW.weights, ht, List.mem_cons, List.mem_append, hbe, List.length_map] at hw
    have hsz : cap * kb ≤ reachBytes := by
      have := hw _ (.inl rfl)
      rwa [(hrest rfl).1, hel, show len + (cap - len) = cap by omega] at this
    have hev : ∀ i, i < len → ∃ d, w.cells? base (a.add (i * k)) k = some (cells d) ∧ Ok d := by
      intro i hi
      have h1 := hget i hi
      obtain ⟨y, hy⟩ : ∃ y, elems[i]? = some y := ⟨elems[i], List.getElem?_eq_getElem (by omega)⟩
      rw [hy, Option.bind_eq_some_iff] at h1
      obtain ⟨cs', hc, hr⟩ := h1
      obtain ⟨d, rfl, hd⟩ := hR n (by omega) cs' y hr (fun n' hn' => hw n' (.inr (.inl (mem_weightsAll (List.mem_map_of_mem (List.mem_of_getElem? hy)) hn'))))
      exact ⟨d, hc, hd⟩
    obtain ⟨l, hl, hq⟩ := list_of len hev
    refine ⟨⟨l, some a, cap⟩, by simp only [L.v]; rw [hl], ⟨⟨by simp only; omega, ?_⟩, fun d hd => ?_, fun h0 => (by cases h0), by simp only; omega, hcm, hsz⟩⟩
    · by_cases hl0 : l = []
      · exact .inl hl0
      · obtain ⟨g, o, spot⟩ := a
        have hlen : 0 < l.length := List.length_pos_iff.2 hl0
        have hsp : spot = none := by
          obtain ⟨_, _, h2⟩ := World.cells?_some (hq 0 hlen).1
          have h3 := h2 0 hk0
          obtain ⟨c0, hc0⟩ : ∃ c0, (cells l[0])[0]? = some c0 := ⟨(cells l[0])[0]'(by rw [hk]; exact hk0), List.getElem?_eq_getElem _⟩
          rw [hc0] at h3
          simpa [Addr.add] using World.cell?_spot h3
        subst hsp
        have hall : ∀ i (hi : i < l.length) j, j < k → w.cell? ⟨g, o + i * k + j, none⟩ = (cells l[i])[j]? := by
          intro i hi j hj
          obtain ⟨_, _, h2⟩ := World.cells?_some (hq i hi).1
          have h3 := h2 j hj
          rwa [add_plain, add_plain] at h3
        refine .inr ⟨g, o, rfl, ?_, hall⟩
        have h3 := hall 0 hlen 0 hk0
        rw [List.getElem?_eq_getElem (by rw [hk]; exact hk0)] at h3
        exact World.block_lt_of_cell? w _ h3
    · obtain ⟨i, hi, rfl⟩ := List.mem_iff_getElem.1 hd
      exact (hq i hi).2

/-- a field of a struct read -/
theorem rd_field {ft : TypeId} {fs : Array Field} {α : Type} {cells : α → List Value} {Ok : α → Prop} {xs : List (DataW H × List MemPlace)} {n : Nat} {cs : List Value} (i : Nat) (f : Field) (o k : Nat)
    (hxs : ∀ (i : Nat) (f : Field), fs[i]? = some f → DataW.trod enc P w base (fun _ => true) held n f.type ((cs.drop f.offset).take (P.cellsOf f.type)) = xs[i]?) (hlen : xs.length = fs.size) (hw : ∀ m ∈ DataW.weightsEach P (fs.toList.map (·.type)) (xs.map (·.1)), m ≤ reachBytes)
    (hf : fs[i]? = some f) (hft : f.type = ft) (ho : f.offset = o) (hk : P.cellsOf ft = k) (hR : RdB enc P w base held N ft cells Ok) (hn : n < N) :
    ∃ d : α, (cs.drop o).take k = cells d ∧ Ok d := by
  subst hft ho hk
  have hi : i < xs.length := by rw [hlen]; exact (Array.getElem?_eq_some_iff.1 hf).1
  have h1 := hxs i f hf
  rw [List.getElem?_eq_getElem hi] at h1
  refine hR n hn _ _ h1 (fun m hm => hw m (DataW.weights_mem_each (j := i) ?_ ?_ m hm))
  · simp [hf]
  · simp [hi]

/-- an argument that is a list -/
theorem arg_list {t e : TypeId} {k kb : Nat} {α : Type} {cells : α → List Value} {Ok : α → Prop} (ht : P.underlying t = some (.slice e)) (hR : ∀ N, RdB enc P w base held N t (fun y : L α => [y.v]) (ListOk w k kb cells Ok))
    {v : Value} {d : DataW H} {ps : List MemPlace} {r : Reach} {b : Nat} (hv : Value.okWide P w r b t v) (h : DataW.Trod enc P w base (fun _ => true) held t v d ps) (hw : ∀ m ∈ d.weights P t, m ≤ reachBytes) : ∃ y : L α, v = y.v ∧ ListOk w k kb cells Ok y := by
  obtain ⟨a, len, cap, rfl⟩ := okWide_slice ht hv
  obtain ⟨n, hn⟩ := h
  obtain ⟨y, e, hy⟩ := hR (n + 1) n (Nat.lt_succ_self n) _ _ hn hw
  refine ⟨y, ?_, hy⟩
  simpa [Value.cells] using e
/-- an argument that is a struct -/
theorem arg_struct {t : TypeId} {fs : Array Field} {α : Type} {cells : α → List Value} {Ok : α → Prop} (ht : P.underlying t = some (.struct fs)) (hR : ∀ N, RdB enc P w base held N t cells Ok)
    {v : Value} {d : DataW H} {ps : List MemPlace} {r : Reach} {b : Nat} (hv : Value.okWide P w r b t v) (h : DataW.Trod enc P w base (fun _ => true) held t v d ps) (hw : ∀ m ∈ d.weights P t, m ≤ reachBytes) : ∃ y : α, v = .agg (cells y).toArray ∧ Ok y := by
  obtain ⟨cs, rfl, _⟩ := okWide_struct ht hv
  obtain ⟨n, hn⟩ := h
  obtain ⟨y, e, hy⟩ := hR (n + 1) n (Nat.lt_succ_self n) _ _ hn hw
  refine ⟨y, ?_, hy⟩
  have e' : cs.toList = cells y := by simpa [Value.cells] using e
  rw [← e']

theorem trodAll_carry {W W' : World} {sp : Nat → Bool} {b : Nat} {hd : Bool} : ∀ {ts : List TypeId} {vs : List Value} {ds : List (DataW H)} {ps : List MemPlace}, DataW.TrodAll enc P W b sp hd ts vs ds ps → (∀ p ∈ ps, W.sameAt W' p) →
    DataW.TrodAll enc P W' b sp hd ts vs ds ps
  | [], [], [], _, h, _ => h
  | _ :: _, _ :: _, _ :: _, _, ⟨p, q, ⟨n, hn⟩, h2, e⟩, hs => ⟨p, q, ⟨n, DataW.trod_carry n _ _ _ hn (fun x hx => hs x (by rw [e]; exact List.mem_append_left _ hx))⟩, trodAll_carry h2 (fun x hx => hs x (by rw [e]; exact List.mem_append_right _ hx)), e⟩

/-- the arguments read again in a later world that keeps the old cells -/
theorem args_again (hl : laidOutB P = true) (hm : mapsRowed P = true) (hz : ((List.range P.types.size).all fun t => match P.underlying t with | some (.slice e) => decide (0 < P.cellsOf e) | _ => true) = true)
    {W W' : World} {ts : List TypeId} {vs : List Value} {ds : List (DataW H)} {ps : List MemPlace} (hT : ∀ t ∈ ts, t < P.types.size) (h : DataW.TrodAll enc P W 0 (fun _ => true) true ts vs ds ps) (hb : Below W.heap.size W W')
    (sp : Nat → Bool) (hs : ∀ p ∈ ps, sp p.block = true) : DataW.TrodAll enc P W' 0 sp true ts vs ds ps :=
  trodAll_carry (DataW.TrodAll.respare (kids_rows hl hm) (slices_full_of P hz) hT h hs) (fun p hp => hb.same (DataW.TrodAll.lt h p hp))
end
end Go.Proofs.Ytgfbikknkcaneaa

