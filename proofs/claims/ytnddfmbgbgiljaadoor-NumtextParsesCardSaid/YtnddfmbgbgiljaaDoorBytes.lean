/- string(b) of a byte slice of the call's own, nil let in. No condition. -/
import Derived.Test.YtnddfmbgbgiljaaDoorKit
import Derived.Lib.BufferRead
import Derived.Deep.AppendLies
namespace Go.Proofs.YtnddfmbgbgiljaaDoor
open Go.RowKit

def byteVals (l : List UInt8) : List Value := l.map fun b => .int .u8 (b.toNat : Int)
theorem byteVals_snoc (l : List UInt8) (c : UInt8) : byteVals (l ++ [c]) = byteVals l ++ [.int .u8 (c.toNat : Int)] := by simp [byteVals]
theorem byteVals_app (l r : List UInt8) : byteVals (l ++ r) = byteVals l ++ byteVals r := by simp [byteVals]
theorem byteVals_len (l : List UInt8) : (byteVals l).length = l.length := by simp [byteVals]
theorem Tryd.infoByte : (Tryd.prog.info? 5).map (fun i => (i.zero, i.size, i.bytes)) = some (some (.int .u8 0), 1, 1) := by kernel_rfl
theorem conv_own {w : World} {base n c : Nat} {A : Option Addr} {l : List UInt8} (h : w.ownsRow base 5 1 (.slice A n c) n (byteVals l)) :
    (convert 31 9 (.slice A n c)).run Tryd.prog w = .ok (.string ⟨l.toArray⟩) w := by
  have hl : l.length = n := by
    have := h.1
    rw [byteVals_len] at this; omega
  rcases Nat.eq_zero_or_pos n with h0 | h0
  · have hl0 : l = [] := List.eq_nil_of_length_eq_zero (by omega)
    subst hl0
    subst h0
    rcases h.2 with ⟨hv, _⟩ | ⟨g, cap, cur, hv, _, _, _⟩
    · injection hv with h1 h2 h3
      subst h1
      exact Lib.run_convert_nil_bytes w _ _ 5 c Tryd.underlying31 Tryd.underlying5 Tryd.underlying9
    · injection hv with h1 h2 h3
      subst h1
      exact run_convert_bytes_back (P := Tryd.prog) w 31 9 5 ⟨g, 0, none⟩ c [] Tryd.underlying31 Tryd.underlying5 Tryd.underlying9 (fun j hj => absurd hj (Nat.not_lt_zero _))
  · obtain ⟨g, cap, hv, _, _⟩ := h.form h0
    have hA : A = some ⟨g, 0, none⟩ := by injection hv
    subst hA
    subst hl
    refine run_convert_bytes_back (P := Tryd.prog) w 31 9 5 ⟨g, 0, none⟩ c l Tryd.underlying31 Tryd.underlying5 Tryd.underlying9 (fun j hj => ?_)
    have e : (⟨g, 0, none⟩ : Addr).add j = ⟨g, j, none⟩ := by unfold Addr.add; split <;> simp_all
    rw [e, h.cellAt j (by omega)]
    simp [byteVals, hj]
theorem one_news (W : World) (g : Nat) (hg : g = W.heap.size) (x : Value) (t : TypeId) : ∀ j u, [x][j]? = some u → (W.alloc (.cells #[x] t)).cell? ((⟨g, 0, none⟩ : Addr).add j) = some u := by
  intro j u hj
  subst hg
  match j, hj with
  | 0, hj => simp at hj; subst hj; simp [Addr.add]

end Go.Proofs.YtnddfmbgbgiljaaDoor
