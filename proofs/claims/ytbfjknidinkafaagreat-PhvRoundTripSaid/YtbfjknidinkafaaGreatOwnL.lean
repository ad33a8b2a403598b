/- Rows of the call's own, of lists: a list appended, a row read as a list. -/
import Derived.Test.YtbfjknidinkafaaGreatRep
import Derived.Laws.AppendOwnNone
import Derived.RowKit3
namespace Go.Proofs.YtbfjknidinkafaaGreat
open Go.RowKit

theorem flat_get {α : Type} (cells : α → List Value) (k : Nat) (hk : ∀ u, (cells u).length = k) : ∀ (l : List α) (i : Nat) (hi : i < l.length) (j : Nat), j < k → (l.flatMap cells)[i * k + j]? = (cells l[i])[j]?
  | [], i, hi, _, _ => by simp at hi
  | x :: l, 0, _, j, hj => by
    rw [List.flatMap_cons, List.getElem?_append_left (by rw [hk]; omega), Nat.zero_mul, Nat.zero_add]; rfl
  | x :: l, i + 1, hi, j, hj => by
    rw [List.flatMap_cons, List.getElem?_append_right (by rw [hk, Nat.succ_mul]; omega), hk, Nat.succ_mul, show i * k + k + j - k = i * k + j by omega,
      flat_get cells k hk l i (by simpa using hi) j hj]
    rfl
theorem flat_len {α : Type} (cells : α → List Value) (k : Nat) (hk : ∀ u, (cells u).length = k) : ∀ (l : List α), (l.flatMap cells).length = l.length * k
  | [] => by simp
  | x :: l => by rw [List.flatMap_cons, List.length_append, hk, flat_len cells k hk l, List.length_cons, Nat.succ_mul]; omega
theorem flat_of {α : Type} (cells : α → List Value) (k : Nat) (hk : ∀ u, (cells u).length = k) (l : List α) (m : Nat) (u : Value) (h : (l.flatMap cells)[m]? = some u) : ∃ i, ∃ hi : i < l.length, ∃ j, j < k ∧ m = i * k + j ∧ (cells l[i])[j]? = some u := by
  have hm : m < l.length * k := by rw [← flat_len cells k hk]; exact (List.getElem?_eq_some_iff.1 h).1
  have hk0 : 0 < k := by rcases Nat.eq_zero_or_pos k with h0 | h0; (· rw [h0] at hm; omega); exact h0
  have hi : m / k < l.length := (Nat.div_lt_iff_lt_mul hk0).2 hm
  have hj : m % k < k := Nat.mod_lt _ hk0
  have e : m = m / k * k + m % k := by rw [Nat.mul_comm]; exact (Nat.div_add_mod m k).symm
  refine ⟨m / k, hi, m % k, hj, e, ?_⟩
  rw [← flat_get cells k hk l (m / k) hi (m % k) hj, ← e, h]

/-- a list in memory, appended to a row of the call's own -/
theorem wpList_append_L {P : Program} {w : World} {ops : Array Oper} {rest : List Oper} {o : Oper} {a : Act} {Q : Exit → Act → World → Prop} (hgd : o.guard = none) (s x : Operand) (t : TypeId)
    (ho : o.op = .call { callee := .builtin .append, args := #[s, x], argTypes := #[t, t] })
    (base : Nat) (e : TypeId) (i : TypeInfo) (z : Value) (size bytes : Nat) (ht : P.underlying t = some (.slice e)) (hi : P.info? e = some i) (hz : i.zero = some z)
    (hsize : i.size = size) (hby : i.bytes = bytes) (hzs : z.cells.size = size) (hsz : 0 < size)
    (v : Value) (n : Nat) (xs : List Value) (hs : a.eval s = v) (hown : w.ownsRow base e size v n xs)
    {α : Type} {cells : α → List Value} (y : L α) (hx : a.eval x = y.v) (hy : LOk w size cells y) (hnil : y.A = none → y.c = 0) (hk : ∀ u, (cells u).length = size) (h1 : ∀ u, ∀ c ∈ cells u, c.oneCell' = true)
    (h63 : n + y.l.length ≤ maxLen) (hbytes : (n + y.l.length) * bytes ≤ 140737488355328) (hbase : base ≤ w.heap.size)
    (h : ∀ v' w', w'.ownsRow base e size v' (n + y.l.length) (xs ++ y.l.flatMap cells) → w.grownBy w' v.ownBlock → wpList P ops Q rest (a.put o.dst v') w') : wpList P ops Q (o :: rest) a w := by
  obtain ⟨l, A, c⟩ := y
  cases A with
  | none =>
    have hl : l = [] := by
      rcases hy.2 with h0 | ⟨g, o, e, _⟩
      · exact h0
      · cases e
    subst hl
    obtain rfl : c = 0 := hnil rfl
    refine wpList_append_own_none hgd s x t ho base e i size ht hi v n xs hs hown hx (h v w ?_ ⟨rfl, rfl, rfl, Nat.le_refl _, fun _ _ _ => rfl⟩)
    simpa using hown
  | some ad =>
    refine wpList_append_own w hgd s x t ho base e i z size bytes ht hi hz hsize hby hzs hsz v n xs hs hown ad l.length c (l.flatMap cells) hx (flat_len cells size hk l) (fun m u hu => ?_) (fun u hu => ?_) h63 hbytes hbase (fun v' w' h2 h3 _ => h v' w' h2 h3)
    · obtain ⟨i', hi', j, hj, rfl, hc⟩ := flat_of cells size hk l m u hu
      obtain ⟨g, o, e', _, hcc⟩ := hy.at (x := ⟨l, some ad, c⟩) hi'
      simp only [Option.some.injEq] at e'
      rw [e', Addr.add_lit, ← Nat.add_assoc, hcc j hj, hc]
    · obtain ⟨r, _, hr⟩ := List.mem_flatMap.1 hu
      exact h1 r u hr

/-- a row of the call's own, read as a list -/
theorem own_list {w : World} {base : Nat} {e : TypeId} {size : Nat} {v : Value} {α : Type} {cells : α → List Value} {l : List α} (hk : ∀ u, (cells u).length = size) (h : w.ownsRow base e size v l.length (l.flatMap cells)) :
    ∃ A c, v = .slice A l.length c ∧ l.length ≤ c ∧ LOk w size cells ⟨l, A, c⟩ ∧ (A = none → c = 0) ∧ (∀ ad, A = some ad → base ≤ ad.block ∧ ad.off = 0 ∧ ad.spot = none) := by
  have hc := @World.ownsRow.cells w base e size v l.length (l.flatMap cells) h
  rcases h.2 with ⟨rfl, h0⟩ | ⟨g, cap, cur, rfl, hb, hg, hle, hcm, hcs, htk⟩
  · have : l = [] := List.eq_nil_of_length_eq_zero h0
    subst this
    exact ⟨none, 0, rfl, Nat.le_refl _, ⟨Nat.zero_le _, .inl rfl⟩, fun _ => rfl, fun ad e => by cases e⟩
  · refine ⟨some ⟨g, 0, none⟩, cap, rfl, hle, ⟨Nat.le_trans hle hcm, .inr ⟨g, 0, rfl, ?_, fun i hi j hj => ?_⟩⟩, fun e => (by cases e), fun ad e => (by cases e; exact ⟨hb, rfl, rfl⟩)⟩
    · exact (Array.getElem?_eq_some_iff.1 hg).1
    · have hi2 : i * size + j < (l.flatMap cells).length := by
        rw [flat_len cells size hk]
        have : (i + 1) * size ≤ l.length * size := Nat.mul_le_mul_right _ hi
        rw [Nat.add_mul] at this; omega
      have := hc rfl (i * size + j) _ (List.getElem?_eq_getElem hi2)
      rw [Addr.add_lit] at this
      rw [Nat.add_assoc, this, ← flat_get cells size hk l i hi j hj, List.getElem?_eq_getElem hi2]
theorem own_empty (w : World) (base : Nat) (e : TypeId) (size : Nat) (hb : base ≤ w.heap.size) : (w.alloc (.cells #[] e)).ownsRow base e size (.slice (some ⟨w.heap.size, 0, none⟩) 0 0) 0 [] :=
  ⟨by simp, .inr ⟨w.heap.size, 0, #[], rfl, hb, heap_alloc_new w _, Nat.le_refl _, Nat.zero_le _, by simp, by simp⟩⟩
theorem ownsRow_below {w w' : World} {base : Nat} {e : TypeId} {size : Nat} {v : Value} {n : Nat} {xs : List Value} (h : w.ownsRow base e size v n xs) (hb : Below w.heap.size w w') : w'.ownsRow base e size v n xs := by
  refine ⟨h.1, ?_⟩
  rcases h.2 with h0 | ⟨g, cap, cur, rfl, hbg, hg, h1, h2, h3, h4⟩
  · exact .inl h0
  · exact .inr ⟨g, cap, cur, rfl, hbg, (hb.block g (Array.getElem?_eq_some_iff.1 hg).1).trans hg, h1, h2, h3, h4⟩
/-- behind an append to a row of the call's own: what lay below the base lies as it did -/
theorem grown_below {w w' : World} {base : Nat} {e : TypeId} {size : Nat} {v : Value} {n : Nat} {xs : List Value} (h : w.ownsRow base e size v n xs) (hg : w.grownBy w' v.ownBlock) (hb : base ≤ w.heap.size) : Below base w w' := by
  refine (Below.refl base w).grown hg hb (fun k hk => ?_)
  rcases h.2 with ⟨rfl, _⟩ | ⟨g, cap, cur, rfl, hbg, _⟩
  · cases hk
  · simp only [Value.ownBlock, Option.some.injEq] at hk; omega
end Go.Proofs.YtbfjknidinkafaaGreat

