/- The walk of numtext.EncodeHex. No condition but the length of the row. -/
import Derived.Test.YtnddfmbgbgiljaaDoorNumG
import Derived.Test.YtnddfmbgbgiljaaDoorBuilder
namespace Go.Proofs.YtnddfmbgbgiljaaDoor
open Go.RowKit

/-- a row of bytes, nil let in -/
def RdB (w : World) (A : Option Addr) (l : List UInt8) : Prop :=
  l = [] ∨ ∃ x, A = some x ∧ x.block < w.heap.size ∧ ∀ j (h : j < l.length), w.cell? (x.add j) = some (.int .u8 (l[j].toNat : Int))
theorem add_block (x : Addr) (j : Nat) : (x.add j).block = x.block := by unfold Addr.add; split <;> rfl
theorem RdB.below {w w' : World} {B : Nat} {A : Option Addr} {l : List UInt8} (h : RdB w A l) (hb : Below B w w') (hB : w.heap.size ≤ B) : RdB w' A l := by
  rcases h with h | ⟨x, e, hx, hc⟩
  · exact .inl h
  · exact .inr ⟨x, e, Nat.lt_of_lt_of_le hx hb.size, fun j h => (hb.cell (p := x.add j) (by rw [add_block]; omega)).trans (hc j h)⟩
def hx (n : Nat) : UInt8 := (hexs[n]?).getD 0
def encH : List UInt8 → List UInt8
  | [] => []
  | c :: l => hx (c.toNat / 16) :: hx (c.toNat % 16) :: encH l
theorem encH_snoc : ∀ (l : List UInt8) (c : UInt8), encH (l ++ [c]) = encH l ++ [hx (c.toNat / 16), hx (c.toNat % 16)]
  | [], _ => rfl
  | x :: l, c => by simp only [List.cons_append, encH, encH_snoc l c]
theorem encH_len : ∀ l : List UInt8, (encH l).length = 2 * l.length
  | [] => rfl
  | _ :: l => by simp only [encH, List.length_cons, encH_len l]; omega

theorem and_eq (x : Nat) (hx : x < 256) : bits BinOp.and IntKind.u8 (x : Int) 15 = ((x % 16 : Nat) : Int) := by
  have h : ∀ x : Fin 256, bits BinOp.and IntKind.u8 (x.1 : Int) 15 = ((x.1 % 16 : Nat) : Int) := by decide +kernel
  exact h ⟨x, hx⟩

theorem hx_at (n : Nat) (h : n < 16) : ((⟨#[48, 49, 50, 51, 52, 53, 54, 55, 56, 57, 97, 98, 99, 100, 101, 102]⟩ : ByteArray)[n]'h).toNat = (hx n).toNat := by
  have h2 : ∀ n : Fin 16, ((⟨#[48, 49, 50, 51, 52, 53, 54, 55, 56, 57, 97, 98, 99, 100, 101, 102]⟩ : ByteArray)[n.1]'n.2).toNat = (hx n.1).toNat := by decide +kernel
  exact h2 ⟨n, h⟩

set_option maxHeartbeats 2000000 in
theorem encodeHex_any (A : Option Addr) (c : Nat) (l : List UInt8) (w : World) (hr : RdB w A l) (hm : l.length ≤ 1048576) :
    Calls Tryd.prog 20 #[.slice A l.length c] w fun e w' => e = .returned (.string ⟨(encH l).toArray⟩) ∧ Below w.heap.size w w' := by
  have HR := Lib.hid hr
  clear hr
  go_enter Tryd.func20, Tryd.ntmps20
  go_wp2
  go_loopw [5, 8] (fun xv iv wr => ∃ k : Nat, k ≤ l.length ∧ iv = .int .i64 k ∧ Lib.IsBuilder 58 5 w.heap.size w.heap.size (byteVals (encH (l.take k))) wr ∧ Below w.heap.size w wr)
    (fun _ i _ => l.length - (intOf i).toNat)
  case atStart => exact ⟨0, Nat.zero_le _, rfl, Lib.fresh_isBuilder _ _ _, (Below.refl _ _).alloc (Nat.le_refl _) _⟩
  case round =>
    obtain ⟨k, hk, rfl, hbu, hbel⟩ := hrel
    by_cases hlt : k < l.length
    · obtain ⟨x, rfl, hx1, hx2⟩ : ∃ x, A = some x ∧ x.block < w.heap.size ∧ ∀ j (h : j < l.length), w.cell? (x.add j) = some (.int .u8 (l[j].toNat : Int)) := by
        rcases HR.out with h | h
        · rw [h] at hlt; simp at hlt
        · exact h
      have hcell : wr.cell? (x.add k) = some (.int .u8 (l[k].toNat : Int)) := (hbel.cell (p := x.add k) (by rw [add_block]; exact hx1)).trans (hx2 k hlt)
      have hx256 : l[k].toNat < 256 := l[k].toNat_lt
      have HX := Lib.hid hx2
      have hand : bits BinOp.and IntKind.u8 (l[k].toNat : Int) 15 = ((l[k].toNat % 16 : Nat) : Int) := and_eq _ hx256
      clear hx2
      have hlen : (byteVals (encH (l.take k))).length = 2 * k := by rw [byteVals_len, encH_len, List.length_take]; omega
      have HB := Lib.hid (And.intro hbu (And.intro hbel hlen))
      have HT : Hid (l.take (k + 1) = l.take k ++ [l[k]]) := Lib.hid (List.take_succ_eq_append_getElem hlt)
      have hq : l[k].toNat / 16 < 16 := by omega
      have hq2 : l[k].toNat % 16 < 16 := by omega
      clear hbu hbel hlen
      go_wp2_with fail
      refine (writeByte_any w.heap.size w.heap.size _ _ _ HB.out.1 (by rw [HB.out.2.2]; omega) HB.out.2.1.size).mono ?_
      rintro e w1 ⟨rfl, hb1, hbe1⟩
      rw [hx_at _ hq] at hb1
      have H1 := Lib.hid (And.intro hb1 (HB.out.2.1.trans hbe1))
      clear hb1 hbe1
      go_wp2_with fail
      refine (writeByte_any w.heap.size w.heap.size _ _ _ (Or.inr H1.out.1) (by rw [List.length_append, HB.out.2.2]; simp; omega) H1.out.2.size).mono ?_
      rintro e w2 ⟨rfl, hb2, hbe2⟩
      simp only [hx_at _ hq2] at hb2
      have H2 := Lib.hid (And.intro hb2 (H1.out.2.trans hbe2))
      clear hb2 hbe2
      go_wp2
      go_roundw
      case rel =>
        refine ⟨k + 1, by omega, by go_num, Or.inr ?_, H2.out.2⟩
        rw [HT.out, encH_snoc, byteVals_app]
        have := H2.out.1
        rw [List.append_assoc] at this
        exact this
      case measure => simp [intOf]; omega
    · have hk' : l.take k = l := List.take_of_length_le (by omega)
      have HB := Lib.hid (And.intro hbu hbel)
      have HK := Lib.hid hk'
      clear hbu hbel hk'
      go_wp2_with fail
      refine (Tryd.Builder_String_any w.heap.size w.heap.size (encH (l.take k)) _ HB.out.1 HB.out.2.size).mono ?_
      rintro e w1 ⟨rfl, hb1⟩
      go_wp2
      go_ret
      exact ⟨by rw [HK.out]; rfl, HB.out.2.trans hb1⟩

end Go.Proofs.YtnddfmbgbgiljaaDoor
